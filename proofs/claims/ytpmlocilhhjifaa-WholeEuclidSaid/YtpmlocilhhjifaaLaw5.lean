/- Chapter 1: WholeParseMatches as a contract. -/
import Derived.Test.YtpmlocilhhjifaaLaw4
set_option maxRecDepth 100000
set_option linter.unusedSimpArgs false
set_option linter.unusedVariables false
set_option pp.maxSteps 200
namespace Go.Proofs.Ytpmlocilhhjifaa.Eng
open Go.RowKit
theorem dec_ne (n : Nat) : dec n ≠ [] := by
  unfold dec
  split
  · simp
  · rename_i h
    intro h2
    rw [decP_step (Nat.pos_of_ne_zero h)] at h2
    simp at h2
theorem digC_isDig {d : Nat} (h : d < 10) : isDig (digC d) = true := by
  simp only [isDig, digC_toNat h]; simp; omega
theorem decP_all (n : Nat) : (decP n).all isDig = true := by
  unfold decP
  rw [List.all_map, List.all_eq_true]
  intro d hd
  exact digC_isDig (dg_ok (by decide : 2 ≤ 10) n d (List.mem_reverse.1 hd))
theorem num_decP : ∀ n, num (decP n) = n := by
  intro n
  induction n using Nat.strongRecOn with
  | ind n ih =>
    rcases Nat.eq_zero_or_pos n with h | h
    · subst h; rfl
    · rw [decP_step h, num_snoc, ih _ (Nat.div_lt_self h (by decide)), digC_toNat (Nat.mod_lt _ (by decide))]
      omega
theorem decP_num (r : List UInt8) : r.all isDig = true → (r = [] ∨ r[0]? ≠ some 48) → decP (num r) = r := by
  obtain ⟨q, hq⟩ : ∃ q, q = r.reverse := ⟨_, rfl⟩
  have hr : r = q.reverse := by rw [hq, List.reverse_reverse]
  clear hq
  subst hr
  induction q with
  | nil => intro _ _; rfl
  | cons c q ih =>
    intro hall hh
    rw [List.reverse_cons] at hall hh ⊢
    simp only [List.all_append, Bool.and_eq_true, List.all_cons, List.all_nil, Bool.and_true] at hall
    have hd := hall.2
    simp only [isDig, Bool.and_eq_true, decide_eq_true_eq] at hd
    have hdc : digC (c.toNat - 48) = c := by
      apply UInt8.toNat.inj
      rw [digC_toNat (by omega)]; omega
    rw [num_snoc]
    have hpos : 0 < 10 * num q.reverse + (c.toNat - 48) := by
      rcases List.eq_nil_or_concat q.reverse with h | h
      · rcases hh with h1 | h1
        · simp at h1
        · rw [h] at h1 ⊢
          have : c ≠ 48 := fun e => h1 (by rw [e]; rfl)
          have : c.toNat ≠ 48 := fun e => this (u8_eq (n := 48) e (by decide))
          simp only [num, List.foldl_nil]; omega
      · have hne : q.reverse ≠ [] := by obtain ⟨_, _, e⟩ := h; rw [e]; simp
        have := ih hall.1 (.inr (by
          rcases hh with h1 | h1
          · simp at h1
          · rwa [List.getElem?_append_left (List.length_pos_iff.2 hne)] at h1))
        have : num q.reverse ≠ 0 := fun h0 => hne (by rw [← this, h0]; rfl)
        omega
    rw [decP_step hpos]
    have e1 : (10 * num q.reverse + (c.toNat - 48)) / 10 = num q.reverse := by omega
    have e2 : (10 * num q.reverse + (c.toNat - 48)) % 10 = c.toNat - 48 := by omega
    rw [e1, e2, hdc]
    by_cases hne : q.reverse = []
    · rw [hne]; rfl
    · rw [ih hall.1 (.inr (by
          rcases hh with h1 | h1
          · simp at h1
          · rwa [List.getElem?_append_left (List.length_pos_iff.2 hne)] at h1))]
theorem decP_head {n : Nat} (hn : 0 < n) : ∀ c, (decP n)[0]? = some c → c ≠ 48 := by
  intro c hc e
  subst e
  have h1 := dg_can (by decide : 2 ≤ 10) n
  unfold decP at hc
  rw [List.getElem?_map] at hc
  have h2 : (dg 10 n).reverse[0]? = (dg 10 n).getLast? := by
    rw [← List.head?_eq_getElem?, List.head?_reverse]
  rw [h2] at hc
  cases hl : (dg 10 n).getLast? with
  | none => rw [hl] at hc; simp at hc
  | some d =>
    rw [hl] at hc
    simp only [Option.map_some, Option.some.injEq] at hc
    have hd : d < 10 := dg_ok (by decide) n d (List.mem_of_getLast? hl)
    have := digC_toNat hd
    rw [hc] at this
    have h48 : UInt8.toNat 48 = 48 := rfl
    have hd0 : d = 0 := by omega
    exact h1 (by rw [hl, hd0])
theorem prD_dec {neg : Bool} {n : Nat} (hl : (dec n).length ≤ 1000) (hn : neg = true → 0 < n) : prD neg (dec n) = (sg neg n, 0) := by
  unfold prD
  rw [if_neg (by omega)]
  rcases Nat.eq_zero_or_pos n with h | h
  · subst h
    have : neg = false := by cases neg; rfl; exact absurd (hn rfl) (by decide)
    subst this
    decide
  · have hd : dec n = decP n := if_neg (by omega)
    rw [hd, if_neg, if_pos (decP_all n), num_decP]
    rintro (h1 | ⟨h1, _⟩)
    · exact dec_ne n (by rw [hd, h1])
    · exact decP_head h _ h1 rfl
theorem dec_all (n : Nat) : (dec n).all isDig = true := by
  unfold dec
  split
  · decide
  · exact decP_all n
theorem prs_fmt {i : Int} (hl : (dec i.natAbs).length ≤ 1000) : prs (fmtL i) = (i, 0) := by
  unfold prs fmtL
  by_cases hi : i < 0
  · rw [if_pos hi, if_pos (by rfl), List.drop_one, List.tail_cons, prD_dec hl (fun _ => by omega), sg_t]
    congr 1
    omega
  · rw [if_neg hi, if_neg, prD_dec hl (fun h => by cases h), sg_f]
    · congr 1
      omega
    · intro h
      have h1 := List.all_eq_true.1 (dec_all i.natAbs) 45 (List.mem_of_getElem? h)
      exact absurd h1 (by decide)
theorem fmt_prs {l : List UInt8} (h : (prs l).2 = 0) : fmtL (prs l).1 = l := by
  have key : ∀ (neg : Bool) (d : List UInt8), (prD neg d).2 = 0 → prD neg d = (sg neg (num d), 0) ∧ dec (num d) = d ∧ (neg = true → 0 < num d) := by
    intro neg d h
    unfold prD at h ⊢
    split at h
    · cases h
    · rename_i h1
      split at h
      · cases h
      · rename_i h2
        split at h
        · rename_i h3
          rw [if_neg h1, if_neg h2, if_pos h3]
          refine ⟨rfl, ?_⟩
          by_cases h48 : d[0]? = some 48
          · have hlen : ¬ (neg = true ∨ 1 < d.length) := fun hq => h2 (.inr ⟨h48, hq⟩)
            have : d = [48] := by
              cases d with
              | nil => simp at h48
              | cons c r => cases r with
                | nil => simp at h48; rw [h48]
                | cons _ _ => exact absurd (.inr (by simp)) hlen
            subst this
            exact ⟨rfl, fun hn => absurd (.inl hn) hlen⟩
          · have hd := decP_num d h3 (.inr h48)
            have hpos : num d ≠ 0 := fun h0 => h2 (.inl (by rw [← hd, h0]; rfl))
            exact ⟨by rw [dec, if_neg hpos, hd], fun _ => by omega⟩
        · cases h
  unfold prs at h ⊢
  split at h
  · rename_i h45
    rw [if_pos h45]
    obtain ⟨e1, e2, e3⟩ := key true _ h
    rw [e1]
    have hp := e3 rfl
    have hl : l = 45 :: l.drop 1 := by
      cases l with
      | nil => simp at h45
      | cons c r => simp at h45; rw [h45]; rfl
    show fmtL (sg true _) = l
    rw [fmtL, if_pos (by rw [sg_t]; omega), sg_natAbs, e2, ← hl]
  · rename_i h45
    rw [if_neg h45]
    obtain ⟨e1, e2, e3⟩ := key false _ h
    rw [e1]
    show fmtL (sg false _) = l
    rw [fmtL, if_neg (by rw [sg_f]; omega), sg_natAbs, e2]
end Go.Proofs.Ytpmlocilhhjifaa.Eng
