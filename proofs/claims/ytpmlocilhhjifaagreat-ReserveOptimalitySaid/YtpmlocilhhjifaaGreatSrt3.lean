/- cmp.Compare and the closure of reserve.row. -/
import Derived.WalkMore
import Derived.BigRegionIn
import Derived.BigQuiet
import Derived.Deep.QuietTactic
import Derived.Test.YtpmlocilhhjifaaGreatFrc3
import Derived.Deep.LoopGhost
import Derived.Test.YtpmlocilhhjifaaGreatRsv5
section
namespace Go.Proofs.YtpmlocilhhjifaaGreat.Eng
open Go.RowKit Go.Shelf Go.Proofs
set_option linter.unusedSimpArgs false
set_option linter.unusedVariables false
set_option maxRecDepth 100000
def cmpI (a b : Int) : Int := if a < b then -1 else if b < a then 1 else 0
theorem nan_in (a : Int) (W : World) : Calls Tryz.prog 90 #[.int .i64 a] W fun e w' => e = .returned (.bool false) ∧ w' = W := by
  go_enter Tryz.func90, Tryz.ntmps90
  go_wp2
  go_ret
  exact ⟨by simp, rfl⟩
theorem compare_in (a b : Int) (W : World) : Calls Tryz.prog 62 #[.int .i64 a, .int .i64 b] W fun e w' => e = .returned (.int .i64 (cmpI a b)) ∧ ∃ q, w' = W.drewN q := by
  have h1 := nan_in a W
  have h2 := nan_in b W
  unfold cmpI
  by_cases hab : a < b
  · rw [if_pos hab]
    go_enter Tryz.func62, Tryz.ntmps62
    go_wp2_with (first | (go_at_call 90; first | (refine h1.mono ?_; rintro e w' ⟨rfl, rfl⟩) | (refine h2.mono ?_; rintro e w' ⟨rfl, rfl⟩)))
    go_ret
    exact ⟨rfl, 0, rfl⟩
  · rw [if_neg hab]
    by_cases hba : b < a
    · rw [if_pos hba]
      go_enter Tryz.func62, Tryz.ntmps62
      go_wp2_with (first | (go_at_call 90; first | (refine h1.mono ?_; rintro e w' ⟨rfl, rfl⟩) | (refine h2.mono ?_; rintro e w' ⟨rfl, rfl⟩)))
      go_ret
      exact ⟨rfl, 0, rfl⟩
    · rw [if_neg hba]
      go_enter Tryz.func62, Tryz.ntmps62
      go_wp2_with (first | (go_at_call 90; first | (refine h1.mono ?_; rintro e w' ⟨rfl, rfl⟩) | (refine h2.mono ?_; rintro e w' ⟨rfl, rfl⟩)))
      go_ret
      exact ⟨rfl, 0, rfl⟩
set_option maxHeartbeats 1000000 in
theorem rowf_in (w : World) (B b off len cap x y : Nat) (sx sy : Int) (hB : w.cell? ⟨B, 0, none⟩ = some (.slice (some ⟨b, off, none⟩) len cap)) (hx : x < len) (hy : y < len) (hlen : len ≤ 1000000)
    (cx : w.cell? ⟨b, off + x * 9 + 7, none⟩ = some (.int .i64 sx)) (cy : w.cell? ⟨b, off + y * 9 + 7, none⟩ = some (.int .i64 sy)) :
    Calls Tryz.prog 61 #[.int .i64 x, .int .i64 y, .pointer (some ⟨B, 0, none⟩)] w fun e w' => e = .returned (.int .i64 (cmpI sx sy)) ∧ ∃ q, w' = w.drewN q := by
  have hc := fun m => compare_in sx sy (w.drewN m)
  have x0 : (0 : Int) ≤ (x : Int) ∧ (x : Int) < (len : Int) := by omega
  have y0 : (0 : Int) ≤ (y : Int) ∧ (y : Int) < (len : Int) := by omega
  go_enter Tryz.func61, Tryz.ntmps61
  go_wp2
  go_quiet (first | (go_at_call 62; refine Calls.quiet_of (hc _)))
  go_wp2
  go_ret
  exact ⟨rfl, _, rfl⟩
end Go.Proofs.YtpmlocilhhjifaaGreat.Eng
end
section
namespace Go.Proofs.YtpmlocilhhjifaaGreat.Eng
open Go.RowKit Go.Shelf Go.Proofs
set_option linter.unusedSimpArgs false
set_option linter.unusedVariables false
set_option maxRecDepth 100000
theorem lexlt_trans {sp : Nat → Int} {i j k : Nat} (h : lexlt sp i j) (h' : lexlt sp j k) : lexlt sp i k := by unfold lexlt at h h' ⊢; omega
/-- Sorted so far: the first i. -/
structure So (sp : Nat → Int) (n i : Nat) (l : List Nat) : Prop where
  len : l.length = n
  le : i ≤ n
  srt : (l.take i).Pairwise (lexlt sp)
  mem : ∀ x, x ∈ l.take i ↔ x < i
  rest : ∀ j, i ≤ j → j < n → l[j]? = some j
/-- In the midst: i stands at j. -/
structure Si (sp : Nat → Int) (n i j : Nat) (l : List Nat) : Prop where
  hi : i < n
  hj : j ≤ i
  ex : ∃ p q r, l = p ++ i :: (q ++ r) ∧ p.length = j ∧ q.length = i - j ∧ r.length = n - i - 1 ∧ (p ++ q).Pairwise (lexlt sp) ∧ (∀ x, x ∈ p ++ q ↔ x < i) ∧ (∀ x ∈ q, lexlt sp i x) ∧ ∀ t, t < n - i - 1 → r[t]? = some (i + 1 + t)
theorem so_si {sp : Nat → Int} {n i : Nat} {l : List Nat} (h : So sp n i l) (hi : i < n) : Si sp n i i l := by
  have hr := h.rest i (Nat.le_refl _) hi
  have hlt : i < l.length := by rw [h.len]; exact hi
  refine ⟨hi, Nat.le_refl _, l.take i, [], l.drop (i + 1), ?_, by simp; omega, by simp, by simp [h.len]; omega, by simpa using h.srt, by simpa using h.mem, (fun x hx => by cases hx), fun t ht => ?_⟩
  · have e : l[i]'hlt = i := by rw [List.getElem?_eq_getElem hlt] at hr; exact Option.some.inj hr
    conv => lhs; rw [← List.take_append_drop i l, List.drop_eq_getElem_cons hlt, e]
    simp
  · rw [List.getElem?_drop]
    exact h.rest _ (by omega) (by omega)
theorem si_len {sp : Nat → Int} {n i j : Nat} {l : List Nat} (h : Si sp n i j l) : l.length = n := by
  obtain ⟨h1, h2, p, q, r, rfl, k1, k2, k3, _⟩ := h
  simp
  omega
theorem si_at {sp : Nat → Int} {n i j : Nat} {l : List Nat} (h : Si sp n i j l) : l[j]? = some i := by
  obtain ⟨h1, h2, p, q, r, rfl, k1, k2, k3, _⟩ := h
  rw [List.getElem?_append_right (by omega), k1, Nat.sub_self]
  rfl
theorem si_prev {sp : Nat → Int} {n i j : Nat} {l : List Nat} (h : Si sp n i (j + 1) l) : ∃ x, l[j]? = some x ∧ x < i := by
  obtain ⟨h1, h2, p, q, r, rfl, k1, k2, k3, k4, k5, _⟩ := h
  refine ⟨p[j]'(by omega), ?_, (k5 _).1 (by simp)⟩
  rw [List.getElem?_append_left (by omega), List.getElem?_eq_getElem]
theorem si_lt {sp : Nat → Int} {n i j : Nat} {l : List Nat} (h : Si sp n i j l) : ∀ x ∈ l, x < n := by
  obtain ⟨h1, h2, p, q, r, rfl, k1, k2, k3, k4, k5, k6, k7⟩ := h
  intro x hx
  have : x ∈ p ++ q ∨ x = i ∨ x ∈ r := by
    simp only [List.mem_append, List.mem_cons] at hx ⊢
    rcases hx with h | h | h | h
    · exact .inl (.inl h)
    · exact .inr (.inl h)
    · exact .inl (.inr h)
    · exact .inr (.inr h)
  rcases this with h | h | h
  · have := (k5 x).1 h; omega
  · omega
  · obtain ⟨t, ht⟩ := List.mem_iff_getElem?.1 h
    have hl := (List.getElem?_eq_some_iff.1 ht).1
    rw [k7 t (by omega)] at ht
    have := Option.some.inj ht
    omega
/-- The exchange. -/
theorem si_swap {sp : Nat → Int} {n i j x : Nat} {l : List Nat} (h : Si sp n i (j + 1) l) (hx : l[j]? = some x) (hlt : sp i < sp x) : Si sp n i j ((l.set (j + 1) x).set j i) := by
  obtain ⟨h1, h2, p, q, r, rfl, k1, k2, k3, k4, k5, k6, k7⟩ := h
  obtain ⟨p', y, rfl⟩ : ∃ p' y, p = p' ++ [y] := by
    have : p ≠ [] := by rintro rfl; simp at k1
    exact ⟨p.dropLast, p.getLast this, (List.dropLast_concat_getLast this).symm⟩
  have hp' : p'.length = j := by simpa using k1
  have e : y = x := by
    rw [List.getElem?_append_left (by simp; omega), List.getElem?_append_right (by omega), hp', Nat.sub_self] at hx
    exact Option.some.inj hx
  subst e
  refine ⟨h1, by omega, p', y :: q, r, ?_, hp', by simp; omega, k3, by simpa using k4, fun z => by simpa using k5 z, fun z hz => ?_, k7⟩
  · rw [List.append_assoc, List.set_append_right _ _ (by omega), List.set_append_right _ _ (by omega), hp']
    simp
  · rcases List.mem_cons.1 hz with rfl | hz
    · exact .inl hlt
    · exact k6 z hz
/-- The stop. -/
theorem si_stop {sp : Nat → Int} {n i j : Nat} {l : List Nat} (h : Si sp n i j l) (hs : j = 0 ∨ ∃ k x, j = k + 1 ∧ l[k]? = some x ∧ ¬ sp i < sp x) : So sp n (i + 1) l := by
  have hlen := si_len h
  obtain ⟨h1, h2, p, q, r, rfl, k1, k2, k3, k4, k5, k6, k7⟩ := h
  have ht : (p ++ i :: (q ++ r)).take (i + 1) = p ++ i :: q := by
    rw [List.take_append, List.take_of_length_le (by omega), show i + 1 - p.length = (i - j) + 1 by omega, List.take_succ_cons, List.take_append, List.take_of_length_le (by omega), show i - j - q.length = 0 by omega]
    simp
  rw [List.pairwise_append] at k4
  obtain ⟨a1, a2, a3⟩ := k4
  have hpi : ∀ x ∈ p, lexlt sp x i := by
    rcases hs with hs | ⟨k, x, hk, hx, hn⟩
    · have : p = [] := List.eq_nil_of_length_eq_zero (by omega)
      subst this
      intro x hx
      cases hx
    · obtain ⟨p', y, rfl⟩ : ∃ p' y, p = p' ++ [y] := by
        have : p ≠ [] := by rintro rfl; simp at k1; omega
        exact ⟨p.dropLast, p.getLast this, (List.dropLast_concat_getLast this).symm⟩
      have hp' : p'.length = k := by have : p'.length + 1 = j := by simpa using k1
                                     omega
      have e : y = x := by
        rw [List.getElem?_append_left (by simp; omega), List.getElem?_append_right (by omega), hp', Nat.sub_self] at hx
        exact Option.some.inj hx
      subst e
      have hyi : y < i := (k5 y).1 (by simp)
      have hy : lexlt sp y i := by unfold lexlt; omega
      intro z hz
      rcases List.mem_append.1 hz with hz | hz
      · rw [List.pairwise_append] at a1
        exact lexlt_trans (a1.2.2 z hz y (by simp)) hy
      · simp at hz; subst hz; exact hy
  refine ⟨hlen, by omega, ?_, fun x => ?_, fun t ht1 ht2 => ?_⟩
  · rw [ht, List.pairwise_append]
    refine ⟨a1, List.pairwise_cons.2 ⟨k6, a2⟩, fun x hx y hy => ?_⟩
    rcases List.mem_cons.1 hy with rfl | hy
    · exact hpi x hx
    · exact a3 x hx y hy
  · rw [ht]
    have := k5 x
    simp only [List.mem_append, List.mem_cons] at this ⊢
    constructor
    · rintro (h | h | h)
      · have := this.1 (.inl h); omega
      · omega
      · have := this.1 (.inr h); omega
    · intro h
      by_cases hxi : x = i
      · exact .inr (.inl hxi)
      · rcases this.2 (by omega) with h | h
        · exact .inl h
        · exact .inr (.inr h)
  · rw [List.getElem?_append_right (by omega), show t - p.length = (t - j - 1) + 1 by omega, List.getElem?_cons_succ, List.getElem?_append_right (by omega)]
    have := k7 (t - i - 1) (by omega)
    rw [show t - j - 1 - q.length = t - i - 1 by omega, this]
    congr 1
    omega
def natV (l : List Nat) : Array Value := (l.map fun (x : Nat) => Value.int .i64 (x : Int)).toArray
theorem natV_get {l : List Nat} {j x : Nat} (h : l[j]? = some x) : (natV l)[j]? = some (.int .i64 (x : Int)) := by simp [natV, h]
theorem natV_set (l : List Nat) (j x : Nat) : (natV l).setIfInBounds j (.int .i64 (x : Int)) = natV (l.set j x) := by
  unfold natV
  rw [List.setIfInBounds_toArray, List.map_set]
theorem natV_cell {W : World} {blk e j x : Nat} {l : List Nat} (h : W.heap[blk]? = some (.cells (natV l) e (0, 0))) (hx : l[j]? = some x) : W.cell? ⟨blk, j, none⟩ = some (.int .i64 (x : Int)) := by
  simp [World.cell?, h, natV_get hx]
theorem natV_frozen {W : World} {blk e : Nat} {l : List Nat} (h : W.heap[blk]? = some (.cells (natV l) e (0, 0))) (j : Nat) : W.frozen? ⟨blk, j, none⟩ = false := by
  simp [World.frozen?, h]
theorem grown_below {w W W' : World} {blk : Nat} (h : w.grownBy W (some blk)) (hb : Below W.heap.size W W') : w.grownBy W' (some blk) :=
  ⟨hb.os.trans h.os, hb.tape.trans h.tape, hb.output.trans h.output, Nat.le_trans h.size hb.size, fun k h1 h2 => (hb.block k (Nat.lt_of_lt_of_le h1 h.size)).trans (h.block k h1 h2)⟩
theorem grown_set {w W : World} {blk : Nat} (h : w.grownBy W (some blk)) (j : Nat) (v : Value) : w.grownBy (W.setCell ⟨blk, j, none⟩ v) (some blk) :=
  ⟨h.os, h.tape, h.output, by simpa [World.setCell] using h.size, fun k h1 h2 => (Below.heap_setCell _ _ _ k (fun e => h2 (by rw [e]))).trans (h.block k h1 h2)⟩
theorem grown_drew {w W : World} {blk : Nat} (h : w.grownBy W (some blk)) : w.grownBy W.drew (some blk) := ⟨h.os, h.tape, h.output, h.size, h.block⟩
theorem grown_drewN {w W : World} {blk : Nat} (h : w.grownBy W (some blk)) (m : Nat) : w.grownBy (W.drewN m) (some blk) := ⟨h.os, h.tape, h.output, h.size, h.block⟩
theorem Aside.mk' {p : Prop} (h : p) : Aside p := h
theorem below_drew (w : World) : Below w.heap.size w w.drew := (Below.refl _ w).drew
set_option maxHeartbeats 4000000 in
theorem ins_in (w : World) (blk e n cap B : Nat) (l0 : List Nat) (sp : Nat → Int) (h0 : So sp n (min 1 n) l0) (hn : n ≤ 1000000) (hblk : w.heap[blk]? = some (.cells (natV l0) e (0, 0)))
    (hcl : ∀ (W : World) (x y : Nat), w.grownBy W (some blk) → x < n → y < n → Calls Tryz.prog 61 #[.int .i64 x, .int .i64 y, .pointer (some ⟨B, 0, none⟩)] W fun e w' => e = .returned (.int .i64 (cmpI (sp x) (sp y))) ∧ ∃ q, w' = W.drewN q) :
    Calls Tryz.prog 115 #[.slice (some ⟨blk, 0, none⟩) n cap, .int .i64 0, .int .i64 n, .func (.func 61) #[] #[.pointer (some ⟨B, 0, none⟩)]] w fun x w' => x = .returned (.tuple #[]) ∧ w.grownBy w' (some blk) ∧
      ∃ l, So sp n n l ∧ w'.heap[blk]? = some (.cells (natV l) e (0, 0)) := by
  have A0 : Aside (∀ (W : World) (x y : Nat), w.grownBy W (some blk) → x < n → y < n → Calls Tryz.prog 61 #[.int .i64 x, .int .i64 y, .pointer (some ⟨B, 0, none⟩)] W fun e w' => e = .returned (.int .i64 (cmpI (sp x) (sp y))) ∧ ∃ q, w' = W.drewN q) := hcl
  have A1 : Aside (So sp n (min 1 n) l0 ∧ w.heap[blk]? = some (.cells (natV l0) e (0, 0)) ∧ n ≤ 1000000) := ⟨h0, hblk, hn⟩
  clear hcl h0 hblk hn
  go_enter Tryz.func115, Tryz.ntmps115
  go_wp2
  go_loopg [8] n (fun g1 vi wr => ∃ (i : Nat) (l : List Nat), vi = .int .i64 i ∧ 1 ≤ i ∧ i ≤ n + 1 ∧ n + 1 - i ≤ g1 + 1 ∧ Aside (So sp n (min i n) l ∧ wr.heap[blk]? = some (.cells (natV l) e (0, 0)) ∧ w.grownBy wr (some blk)))
  case atStart => exact ⟨1, l0, rfl, Nat.le_refl _, by omega, by omega, A1.1, A1.2.1, ⟨rfl, rfl, rfl, Nat.le_refl _, fun _ _ _ => rfl⟩⟩
  case round =>
    obtain ⟨i, l, rfl, hi1, hi2, hg1, HA⟩ := hrel
    by_cases hlt : i < n
    · have hltz : (i : Int) < (n : Int) := by omega
      go_wp2
      go_loopg [9] i (fun g2 vj wr2 => ∃ (j : Nat) (lj : List Nat), vj = .int .i64 j ∧ j ≤ i ∧ j ≤ g2 ∧ Aside (Si sp n i j lj ∧ wr2.heap[blk]? = some (.cells (natV lj) e (0, 0)) ∧ w.grownBy wr2 (some blk)))
      case atStart =>
        obtain ⟨h1, h2, h3⟩ := HA.out
        rw [Nat.min_eq_left (by omega)] at h1
        exact ⟨i, l, rfl, Nat.le_refl _, Nat.le_refl _, so_si h1 hlt, h2, h3⟩
      case round =>
        obtain ⟨j, lj, rfl, hji, hg2, HI⟩ := hrel
        obtain ⟨s1, s2, s3⟩ := HI.out
        have hnl := A1.out.2.2
        rcases Nat.eq_zero_or_pos j with hj0 | hjp
        · subst hj0
          have hz : ¬ ((0 : Int) > 0) := by omega
          go_wp2
          go_region
          all_goals go_wp2
          all_goals go_roundg (n - (i + 1))
          case measure => omega
          case rel =>
            have h1 := si_stop s1 (.inl rfl)
            exact ⟨i + 1, lj, by go_num, by omega, by omega, by omega, by rw [Nat.min_eq_left (by omega)]; exact h1, s2, grown_drew s3⟩
        · obtain ⟨jp, rfl⟩ : ∃ jp, j = jp + 1 := ⟨j - 1, by omega⟩
          obtain ⟨x, hx, hxi⟩ := si_prev s1
          have hjn := si_len s1
          have hi' := si_at s1
          have hjl := (List.getElem?_eq_some_iff.1 hi').1
          have cj := natV_cell s2 hi'
          have cp := natV_cell s2 hx
          have fj := natV_frozen s2 (jp + 1)
          have fp := natV_frozen s2 jp
          have hwp : IntKind.i64.wrap (jp : Int) = (jp : Int) := by rw [IntKind.wrap_i64]; omega
          have jz : (jp : Int) + 1 < (n : Int) := by omega
          have jz1 : (jp : Int) < (n : Int) := by omega
          have p0 : (0 : Int) < (jp : Int) + 1 := by omega
          have p1 : (0 : Int) ≤ (jp : Int) + 1 := by omega
          have e0 : ((jp : Int) + 1).toNat = jp + 1 := by omega
          have hc := fun m => A0.out (wr.drewN m) i x (grown_drewN s3 m) (by omega) (by omega)
          have S1 : Aside (Si sp n i (jp + 1) lj ∧ wr.heap[blk]? = some (.cells (natV lj) e (0, 0)) ∧ w.grownBy wr (some blk) ∧ lj[jp]? = some x) := ⟨s1, s2, s3, hx⟩
          clear s1 s2 s3 hx hi' hjn hjl
          by_cases hlv : sp i < sp x
          · have ec : cmpI (sp i) (sp x) = -1 := by unfold cmpI; rw [if_pos hlv]
            rw [ec] at hc
            have HX : Aside (sp i < sp x) := hlv
            go_wp2
            go_quiet (first | (go_at_call 61; refine Calls.quiet_of (hc _)))
            go_wp2
            have cj2 : (wr.drewN nq).cell? ⟨blk, jp + 1, none⟩ = some (.int .i64 (i : Int)) := cj
            have cp2 : (wr.drewN nq).cell? ⟨blk, jp, none⟩ = some (.int .i64 (x : Int)) := cp
            have fj2 : (wr.drewN nq).frozen? ⟨blk, jp + 1, none⟩ = false := fj
            have fp2 : (wr.drewN nq).frozen? ⟨blk, jp, none⟩ = false := fp
            have S2 : Aside ((wr.drewN nq).heap[blk]? = some (.cells (natV lj) e (0, 0)) ∧ w.grownBy (wr.drewN nq) (some blk)) := ⟨S1.out.2.1, grown_drewN S1.out.2.2.1 nq⟩
            clear cj cp fj fp hc
            generalize wr.drewN nq = wq at cj2 cp2 fj2 fp2 S2 ⊢
            go_region
            all_goals go_wp2
            all_goals go_roundg jp
            case measure => omega
            case rel =>
              have hnl := A1.out.2.2
              obtain ⟨s1, _, _, hx⟩ := S1.out
              obtain ⟨s2, s3⟩ := S2.out
              have h2 := si_swap s1 hx HX.out
              have k1 := set_heap (off := jp + 1) s2 (.int .i64 (x : Int))
              have k2 := set_heap (off := jp) k1 (.int .i64 (i : Int))
              rw [natV_set, natV_set] at k2
              exact ⟨jp, _, by go_num, by omega, Nat.le_refl _, h2, k2, grown_drew (grown_set (grown_set s3 _ _) _ _)⟩
          · have ec : ∃ c : Int, cmpI (sp i) (sp x) = c ∧ 0 ≤ c := by
              unfold cmpI
              rw [if_neg hlv]
              split
              · exact ⟨1, rfl, by decide⟩
              · exact ⟨0, rfl, by decide⟩
            obtain ⟨c, ec, hc0⟩ := ec
            rw [ec] at hc
            have HX : Aside (¬ sp i < sp x) := hlv
            have hcn : ¬ c < 0 := by omega
            go_wp2
            go_quiet (first | (go_at_call 61; refine Calls.quiet_of (hc _)))
            go_wp2
            go_roundg (n - (i + 1))
            case measure => omega
            case rel =>
              obtain ⟨s1, s2, s3, hx⟩ := S1.out
              have hnl := A1.out.2.2
              have h1 := si_stop s1 (.inr ⟨jp, x, rfl, hx, Int.not_lt.2 HX.out⟩)
              exact ⟨i + 1, lj, by go_num, by omega, by omega, by omega, by rw [Nat.min_eq_left (by omega)]; exact h1, s2, grown_drewN s3 _⟩
    · have hltz : ¬ (i : Int) < (n : Int) := by omega
      go_wp2
      go_end0
      obtain ⟨h1, h2, h3⟩ := HA.out
      rw [Nat.min_eq_right (by omega)] at h1
      exact ⟨rfl, h3, l, h1, h2⟩
end Go.Proofs.YtpmlocilhhjifaaGreat.Eng
end
section
namespace Go.Proofs.YtpmlocilhhjifaaGreat.Eng
open Go.RowKit Go.Shelf Go.Proofs
set_option linter.unusedSimpArgs false
set_option linter.unusedVariables false
set_option maxRecDepth 100000
def fvR (B : Nat) : Value := .func (.func 61) #[] #[.pointer (some ⟨B, 0, none⟩)]
/-- What the sort asks of its comparison, and what it leaves. -/
def ClsR (w : World) (blk n B : Nat) (sp : Nat → Int) : Prop := ∀ (W : World) (x y : Nat), w.grownBy W (some blk) → x < n → y < n → Calls Tryz.prog 61 #[.int .i64 x, .int .i64 y, .pointer (some ⟨B, 0, none⟩)] W fun e w' => e = .returned (.int .i64 (cmpI (sp x) (sp y))) ∧ ∃ q, w' = W.drewN q
set_option maxHeartbeats 1000000 in
theorem stable_in (w : World) (blk e n cap B : Nat) (l0 : List Nat) (sp : Nat → Int) (h0 : So sp n (min 1 n) l0) (hn : n ≤ 19) (hblk : w.heap[blk]? = some (.cells (natV l0) e (0, 0))) (hcl : ClsR w blk n B sp) :
    Calls Tryz.prog 89 #[.slice (some ⟨blk, 0, none⟩) n cap, .int .i64 n, .func (.func 61) #[] #[.pointer (some ⟨B, 0, none⟩)]] w fun x w' => x = .returned (.tuple #[]) ∧ w.grownBy w' (some blk) ∧
      ∃ l, So sp n n l ∧ w'.heap[blk]? = some (.cells (natV l) e (0, 0)) := by
  have hi := ins_in w blk e n cap B l0 sp h0 (by omega) hblk hcl
  have n1 : ¬ (20 : Int) ≤ (n : Int) := by omega
  have n2 : ¬ (20 : Int) < (n : Int) := by omega
  clear h0 hblk hcl
  go_enter Tryz.func89, Tryz.ntmps89
  go_wp2
  go_loopg [7, 8] 0 (fun g a b wr => a = .int .i64 0 ∧ b = .int .i64 20 ∧ wr = w)
  case atStart => exact ⟨rfl, rfl, rfl⟩
  case round =>
    obtain ⟨rfl, rfl, rfl⟩ := hrel
    go_wp2_with (go_at_call 115; refine hi.mono ?_; rintro x w1 ⟨rfl, hg, l, hl1, hl2⟩)
    have A : Aside (wr.grownBy w1 (some blk) ∧ So sp n n l ∧ w1.heap[blk]? = some (.cells (natV l) e (0, 0))) := ⟨hg, hl1, hl2⟩
    clear hg hl1 hl2 hi
    go_loopg [6] 0 (fun g a wr' => a = .int .i64 20 ∧ wr' = w1)
    case atStart => exact ⟨rfl, rfl⟩
    case round =>
      obtain ⟨rfl, rfl⟩ := hrel
      go_wp2
      go_end0
      exact ⟨rfl, A.out.1, l, A.out.2.1, A.out.2.2⟩
theorem sortst_in (w : World) (blk e n cap B : Nat) (l0 : List Nat) (sp : Nat → Int) (h0 : So sp n (min 1 n) l0) (hn : n ≤ 19) (hblk : w.heap[blk]? = some (.cells (natV l0) e (0, 0))) (hcl : ClsR w blk n B sp) :
    Calls Tryz.prog 60 #[.slice (some ⟨blk, 0, none⟩) n cap, .func (.func 61) #[] #[.pointer (some ⟨B, 0, none⟩)]] w fun x w' => x = .returned (.tuple #[]) ∧ w.grownBy w' (some blk) ∧
      ∃ l, So sp n n l ∧ w'.heap[blk]? = some (.cells (natV l) e (0, 0)) := by
  have hi := stable_in w blk e n cap B l0 sp h0 hn hblk hcl
  clear h0 hblk hcl
  go_enter Tryz.func60, Tryz.ntmps60
  go_wp2_with (go_at_call 89; refine hi.mono ?_; rintro x w1 ⟨rfl, hg, l, hl1, hl2⟩)
  go_end0
  exact ⟨rfl, hg, l, hl1, hl2⟩
theorem infoI : (Tryz.prog.info? 3).map (fun i => (i.zero, i.size, i.bytes)) = some (some (.int .i64 0), 1, 8) := by kernel_rfl
theorem made_natV (n : Nat) : madeCells #[Value.int .i64 0] n = natV (List.replicate n 0) := by
  unfold natV madeCells
  rw [List.map_replicate]
  apply Array.ext'
  rw [Array.toList_map, Array.toList_range]
  refine List.eq_replicate_iff.2 ⟨by simp, fun b hb => ?_⟩
  obtain ⟨x, _, rfl⟩ := List.mem_map.1 hb
  simp [Nat.mod_one]
theorem fill_step {n k : Nat} (h : k < n) : (List.range k ++ List.replicate (n - k) 0).set k k = List.range (k + 1) ++ List.replicate (n - (k + 1)) 0 := by
  rw [List.set_append_right _ _ (by simp), List.length_range, Nat.sub_self, show n - k = (n - (k + 1)) + 1 by omega, List.replicate_succ, List.range_succ]
  simp
theorem so_range (sp : Nat → Int) (n : Nat) : So sp n (min 1 n) (List.range n) := by
  refine ⟨by simp, by omega, ?_, fun x => ?_, fun j _ hj => by simp [hj]⟩
  · cases n with
    | zero => simp
    | succ n => rw [List.range_succ_eq_map, Nat.min_eq_left (by omega)]; simp
  · cases n with
    | zero => simp
    | succ n => rw [List.range_succ_eq_map, Nat.min_eq_left (by omega)]; simp
set_option maxHeartbeats 2000000 in
theorem row_in (w : World) (ub : Option Addr) (n cap : Nat) (sp : Nat → Int) (hn : n ≤ 19) (hsp : ∀ x, x < n → ∃ b off, ub = some ⟨b, off, none⟩ ∧ b < w.heap.size ∧ w.cell? ⟨b, off + x * 9 + 7, none⟩ = some (.int .i64 (sp x))) :
    Calls Tryz.prog 38 #[.slice ub n cap] w fun e w' => ∃ g l, e = .returned (.slice (some ⟨g, 0, none⟩) n n) ∧ Below w.heap.size w w' ∧ So sp n n l ∧ w.heap.size ≤ g ∧ w'.heap[g]? = some (.cells (natV l) 3 (0, 0)) := by
  obtain ⟨i0, hi, hz0, hz1, hz2⟩ := info_parts infoI
  have hmk : ∀ u : World, (Instr.makeSlice 68 (.int .i64 (n : Int)) (.int .i64 (n : Int))).run Tryz.prog u = .ok (.slice (some ⟨u.heap.size, 0, none⟩) n n) (u.alloc (.cells (natV (List.replicate n 0)) 3)) := fun u => by
    have h := run_make (P := Tryz.prog) u 68 3 i0 (.int .i64 0) Tryz.underlying68 hi hz0 .i64 .i64 (n : Int) (n : Int) (by omega) (Int.le_refl _) (by rw [hz2]; omega) (by omega)
    rw [← made_natV]
    simpa [hz1, Value.cells] using h
  obtain ⟨W1, hW1⟩ : ∃ W1, w.alloc (.cells #[.slice ub n cap] 22) = W1 := ⟨_, rfl⟩
  obtain ⟨W2, hW2⟩ : ∃ W2, W1.alloc (.cells (natV (List.replicate n 0)) 3) = W2 := ⟨_, rfl⟩
  have b1 : Below w.heap.size w W1 := by rw [← hW1]; exact (Below.refl _ w).alloc (Nat.le_refl _) _
  have z1 : W1.heap.size = w.heap.size + 1 := by rw [← hW1]; simp
  have b2 : Below w.heap.size w W2 := by rw [← hW2]; exact b1.alloc (by omega) _
  have z2 : W2.heap.size = w.heap.size + 2 := by rw [← hW2]; simp; omega
  have hB : W2.heap[w.heap.size]? = some (.cells #[.slice ub n cap] 22 (0, 0)) := by
    rw [← hW2]
    refine (Below.heap_alloc _ _ _ (by omega)).trans ?_
    rw [← hW1]
    exact World.alloc_heap_new w _
  have hG : W2.heap[w.heap.size + 1]? = some (.cells (natV (List.replicate n 0)) 3 (0, 0)) := by
    rw [← hW2, ← z1]
    exact World.alloc_heap_new W1 _
  have cB : W1.cell? ⟨w.heap.size, 0, none⟩ = some (.slice ub n cap) := by
    rw [← hW1]
    have := World.alloc_heap_new w (.cells #[.slice ub n cap] 22)
    unfold World.cell?
    rw [this]
    rfl
  have A : Aside (∀ x, x < n → ∃ b off, ub = some ⟨b, off, none⟩ ∧ b < w.heap.size ∧ w.cell? ⟨b, off + x * 9 + 7, none⟩ = some (.int .i64 (sp x))) := hsp
  have A2 : Aside (Below w.heap.size w W2 ∧ W2.heap.size = w.heap.size + 2 ∧ W2.heap[w.heap.size]? = some (.cells #[.slice ub n cap] 22 (0, 0)) ∧ W2.heap[w.heap.size + 1]? = some (.cells (natV (List.replicate n 0)) 3 (0, 0)) ∧ n ≤ 19) := ⟨b2, z2, hB, hG, hn⟩
  clear hsp b1 b2 z2 hB hG
  go_enter Tryz.func38, Tryz.ntmps38
  go_wp2
  go_loopg [10] n (fun g vi wr => ∃ k : Nat, vi = .int .i64 k ∧ k ≤ n ∧ n - k ≤ g ∧ Aside (W2.grownBy wr (some (w.heap.size + 1)) ∧ wr.heap[w.heap.size + 1]? = some (.cells (natV (List.range k ++ List.replicate (n - k) 0)) 3 (0, 0))))
  case atStart => exact ⟨0, rfl, Nat.zero_le _, Nat.le_refl _, ⟨rfl, rfl, rfl, Nat.le_refl _, fun _ _ _ => rfl⟩, A2.out.2.2.2.1⟩
  case round =>
    obtain ⟨k, rfl, hk, hg, HK⟩ := hrel
    have hn19 := A2.out.2.2.2.2
    by_cases hlt : k < n
    · have hltz : (k : Int) < (n : Int) := by omega
      have k0 : (0 : Int) ≤ (k : Int) ∧ (k : Int) < (n : Int) := by omega
      have ck : wr.cell? ⟨w.heap.size + 1, k, none⟩ = some (.int .i64 ((0 : Nat) : Int)) := natV_cell HK.out.2 (by
        rw [List.getElem?_append_right (by simp), List.length_range, Nat.sub_self, List.getElem?_replicate, if_pos (by omega)])
      have fk := natV_frozen HK.out.2 k
      go_wp2
      go_roundg (n - (k + 1))
      case measure => omega
      case rel =>
        obtain ⟨h1, h2⟩ := HK.out
        have h3 := set_heap (off := k) h2 (.int .i64 (k : Int))
        rw [natV_set, fill_step hlt] at h3
        exact ⟨k + 1, by go_num, by omega, by omega, grown_set h1 _ _, h3⟩
    · have hltz : ¬ (k : Int) < (n : Int) := by omega
      have hkn : k = n := by omega
      have hs : Calls Tryz.prog 60 #[.slice (some ⟨w.heap.size + 1, 0, none⟩) n n, .func (.func 61) #[] #[.pointer (some ⟨w.heap.size, 0, none⟩)]] wr fun x w' => x = .returned (.tuple #[]) ∧ wr.grownBy w' (some (w.heap.size + 1)) ∧
          ∃ l, So sp n n l ∧ w'.heap[w.heap.size + 1]? = some (.cells (natV l) 3 (0, 0)) := by
        obtain ⟨h1, h2⟩ := HK.out
        obtain ⟨b2, z2, hB, hG, _⟩ := A2.out
        have e1 : List.range k ++ List.replicate (n - k) 0 = List.range n := by rw [hkn]; simp
        rw [e1] at h2
        refine sortst_in wr _ _ n n w.heap.size (List.range n) sp (so_range sp n) hn19 h2 fun W x y hW hx hy => ?_
        obtain ⟨bx, ox, e2, g1, g2⟩ := A.out x hx
        obtain ⟨by', oy, e3, g3, g4⟩ := A.out y hy
        rw [e2] at e3
        cases e3
        have kp : ∀ q, q < w.heap.size + 1 → W.heap[q]? = W2.heap[q]? := fun q hq => (hW.block q (by have := h1.size; omega) (by simp; omega)).trans (h1.block q (by omega) (by simp; omega))
        have kq : ∀ q, q < w.heap.size → W.heap[q]? = w.heap[q]? := fun q hq => (kp q (by omega)).trans (b2.block q hq)
        refine rowf_in W w.heap.size bx ox n cap x y (sp x) (sp y) ?_ hx hy (by omega) ?_ ?_
        · have := (kp w.heap.size (by omega)).trans hB
          unfold World.cell?
          rw [this]
          rw [e2]
          rfl
        · exact (World.cell?_of_block (w := w) (a := ⟨bx, ox + x * 9 + 7, none⟩) (kq bx g1)).trans g2
        · exact (World.cell?_of_block (w := w) (a := ⟨bx, ox + y * 9 + 7, none⟩) (kq bx g3)).trans g4
      clear A hkn
      go_wp2_with (go_at_call 60; refine hs.mono ?_; rintro x w1 ⟨rfl, hg1, l, hl1, hl2⟩)
      go_ret
      obtain ⟨h1, h2⟩ := HK.out
      obtain ⟨b2, z2, hB, hG, _⟩ := A2.out
      refine ⟨_, l, rfl, ?_, hl1, by omega, hl2⟩
      refine (b2.grown h1 (by omega) (fun q hq => by cases hq; omega)).grown hg1 (by have := h1.size; omega) (fun q hq => by cases hq; omega)
theorem sorted_eq {sp : Nat → Int} : ∀ {l m : List Nat}, l.Pairwise (lexlt sp) → m.Pairwise (lexlt sp) → (∀ x, x ∈ l ↔ x ∈ m) → l = m
  | [], [], _, _, _ => rfl
  | [], y :: m, _, _, h => by have := (h y).2 (by simp); cases this
  | x :: l, [], _, _, h => by have := (h x).1 (by simp); cases this
  | x :: l, y :: m, h1, h2, h => by
    have a1 := List.pairwise_cons.1 h1
    have a2 := List.pairwise_cons.1 h2
    have e : x = y := by
      rcases List.mem_cons.1 ((h x).1 (by simp)) with h3 | h3
      · exact h3
      · rcases List.mem_cons.1 ((h y).2 (by simp)) with h4 | h4
        · exact h4.symm
        · exact absurd (a1.1 y h4) (lexlt_asy (a2.1 x h3))
    subst e
    congr 1
    refine sorted_eq a1.2 a2.2 fun z => ⟨fun hz => ?_, fun hz => ?_⟩
    · rcases List.mem_cons.1 ((h z).1 (by simp [hz])) with h3 | h3
      · subst h3; exact absurd (a1.1 z hz) lexlt_irr
      · exact h3
    · rcases List.mem_cons.1 ((h z).2 (by simp [hz])) with h3 | h3
      · subst h3; exact absurd (a2.1 z hz) lexlt_irr
      · exact h3
theorem rds_hl {w : World} {ok : Nat → Nat → Prop} : ∀ o : List Nat, RDs w ok (hl o).flatten (o.map fun (x : Nat) => Value.int .i64 (x : Int))
  | [] => trivial
  | x :: o => ⟨.sc _ rfl, rds_hl o⟩
theorem row_c {t : Nat} {us : List UD} {es os : List (List D)} {ord : List Nat} (he : es = us.map UD.cell) (hl5 : us.length ≤ 19) (ho : Ord us ord) (hos : os = hl ord) : TT 38 [.one (.sl t 9 es)] [.one (.sl 1 1 os)] := by
  refine tt_of Tryz.func38 (by kernel_rfl) (by kernel_rfl) (by kernel_rfl) fun okx w vs hvs => ?_
  obtain ⟨va, rfl, h1⟩ := one_arg hvs
  have hle : es.length = us.length := by rw [he]; simp
  have hv : ∃ ub cap, va = .slice ub us.length cap ∧ ∀ x, x < us.length → ∃ b off, ub = some ⟨b, off, none⟩ ∧ b < w.heap.size ∧ w.cell? ⟨b, off + x * 9 + 7, none⟩ = some (.int .i64 (spn us x)) := by
    have h1' : RD w okx (.sl t 9 es) va := h1
    cases h1' with
    | nil =>
      have : us = [] := by cases us <;> simp at he ⊢
      subst this
      exact ⟨none, 0, rfl, fun x hx => by simp at hx⟩
    | sl _ _ _ a cap cs ht g1 g2 g3 g4 g5 g6 =>
      refine ⟨some a, cap, by rw [hle], fun x hx => ?_⟩
      have hu : us[x]? = some us[x] := List.getElem?_eq_getElem hx
      have hge := ud_get hu
      rw [← he] at hge
      have hne : es ≠ [] := fun e => by rw [e] at hge; simp at hge
      obtain ⟨k1, k2, k3⟩ := g1 hne
      have hc := g5 x 7 _ _ hge rfl
      have hr := RD.sc_inv (g6 x 7 _ _ hge rfl)
      obtain ⟨b, off, sp⟩ := a
      simp only at k1
      subst k1
      refine ⟨b, off, rfl, k3, ?_⟩
      rw [hc, hr, spn_get hu]
  obtain ⟨ub, cap, rfl, hsp⟩ := hv
  refine (row_in w ub us.length cap (spn us) hl5 hsp).mono ?_
  rintro e w' ⟨g, l, rfl, hb, hso, hg1, hg2⟩
  have hl : l = ord := by
    have h2 := hso.srt
    have h3 := hso.mem
    rw [List.take_of_length_le (by rw [hso.len]; exact Nat.le_refl _)] at h2 h3
    exact sorted_eq h2 ho.srt fun x => ⟨fun hx => ho.mem x ((h3 x).1 hx), fun hx => (h3 x).2 (ho.lt x hx)⟩
  subst hl
  have hlen := ho.len
  refine ⟨_, rfl, hb, [_], ⟨?_, trivial⟩, rfl⟩
  have hrow : w'.ownsRow w.heap.size 3 1 (.slice (some ⟨g, 0, none⟩) us.length us.length) us.length (l.map fun (x : Nat) => Value.int .i64 (x : Int)) := by
    refine ⟨by simp [hlen], .inr ⟨g, us.length, natV l, rfl, hg1, hg2, Nat.le_refl _, by simp only [maxLen]; omega, by simp [natV, hlen], ?_⟩⟩
    unfold natV
    rw [← hlen, Nat.mul_one]
    exact List.take_of_length_le (by simp)
  have hbr : BR ⟨w, okx, 0⟩ w' (fun _ _ => False) (.ar 3 1 os) (.slice (some ⟨g, 0, none⟩) us.length us.length) := ⟨Nat.one_pos, fun x hx => hl_one (by rw [← hos]; exact hx), _, by rw [hos, hl_len, hlen]; exact hrow, by rw [hos]; exact rds_hl l⟩
  refine hbr.data (fun t b h => h.elim) fun k hk => ?_
  cases hk
  exact ⟨.inr hg1, (Array.getElem?_eq_some_iff.1 hg2).1⟩
end Go.Proofs.YtpmlocilhhjifaaGreat.Eng
end
