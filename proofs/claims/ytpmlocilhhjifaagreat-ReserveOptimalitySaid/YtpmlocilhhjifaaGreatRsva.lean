/- Chapter 30: what filling gives, in plain Lean. -/
import Derived.Test.YtpmlocilhhjifaaGreatRsv8
section
set_option linter.unusedSimpArgs false
set_option linter.unusedVariables false
namespace Go.Proofs.YtpmlocilhhjifaaGreat.Eng
open Go.RowKit Go.Proofs
theorem mn_cases (p q : Rat) : (p ≤ q ∧ mn p q = p) ∨ (q < p ∧ mn p q = q) := by
  unfold mn
  have h := sgnQ_le' (q := p - q)
  by_cases hc : sgnQ (p - q) ≤ 0
  · rw [if_pos hc]; have := h.1 hc; exact .inl ⟨by grind, rfl⟩
  · rw [if_neg hc]; refine .inr ⟨?_, rfl⟩
    have : ¬ p - q ≤ 0 := fun hh => hc (h.2 hh)
    grind
def gR (l : List Rat) (i : Nat) : Rat := l[i]?.getD 0
theorem gR_set {l : List Rat} {i : Nat} (hi : i < l.length) (x : Rat) (j : Nat) : gR (l.set i x) j = if j = i then x else gR l j := by
  unfold gR
  by_cases h : j = i
  · subst h; rw [List.getElem?_set_self hi, if_pos rfl]; rfl
  · rw [List.getElem?_set_ne (by omega), if_neg h]
theorem sumR_cons (x : Rat) (l : List Rat) : sumR (x :: l) = x + sumR l := by
  unfold sumR
  have : ∀ (l : List Rat) (a : Rat), l.foldl (· + ·) a = a + l.foldl (· + ·) 0 := by
    intro l
    induction l with
    | nil => intro a; simp; grind
    | cons y l ih => intro a; rw [List.foldl_cons, List.foldl_cons, ih, ih (0 + y)]; grind
  rw [List.foldl_cons, this]
  grind
theorem sumR_set : ∀ {l : List Rat} {i : Nat}, i < l.length → ∀ x, sumR (l.set i x) = sumR l + x - gR l i
  | [], i, h, x => by simp at h
  | y :: l, 0, h, x => by
    rw [List.set_cons_zero, sumR_cons, sumR_cons]
    show _ = y + sumR l + x - y
    grind
  | y :: l, i + 1, h, x => by
    rw [List.set_cons_succ, sumR_cons, sumR_cons, sumR_set (by simpa using h)]
    show _ = y + sumR l + x - gR l i
    grind
theorem sumR_zero (n : Nat) : sumR (List.replicate n 0) = 0 := by
  induction n with
  | zero => rfl
  | succ n ih => rw [List.replicate_succ, sumR_cons, ih]; grind
theorem gR_zero (n i : Nat) : gR (List.replicate n 0) i = 0 := by
  unfold gR
  rw [List.getElem?_replicate]
  split <;> rfl
/-- What holds of the first k steps. -/
structure Inv (us : List UD) (rms : List Rat) (dn : List Nat) (need : Int) (F : FS) : Prop where
  len : F.taken.length = us.length
  sh : 0 ≤ F.short
  lo : ∀ i, i < us.length → 0 ≤ gR F.taken i
  hi : ∀ i, i ∈ dn → gR F.taken i ≤ gR rms i
  full : 0 < F.short → ∀ i, i ∈ dn → gR F.taken i = gR rms i
  out : ∀ i, i < us.length → i ∉ dn → gR F.taken i = 0
  sum : sumR F.taken + F.short = need
  t1 : ∀ i, i ∈ dn → spn us i < F.price → gR F.taken i = gR rms i
  t2 : ∀ i, i < us.length → 0 < gR F.taken i → spn us i ≤ F.price
  t3 : F.price = 0 ∨ ∃ i, i ∈ dn ∧ F.price = spn us i
theorem inv_start {us : List UD} {rms : List Rat} {need : Int} (hn : 0 ≤ need) : Inv us rms [] need (fill0 us need) := by
  refine ⟨by simp [fill0], ?_, (fun i hi => by unfold fill0; simp only; rw [gR_zero]; exact Rat.le_refl), (fun i h => by cases h), (fun _ i h => by cases h), (fun i _ _ => gR_zero _ _), ?_, (fun i h => by cases h), (fun i _ h => ?_), .inl rfl⟩
  · show (0 : Rat) ≤ (need : Rat)
    exact_mod_cast hn
  · show sumR (List.replicate us.length 0) + (need : Rat) = need
    rw [sumR_zero]; grind
  · have h : 0 < gR (List.replicate us.length 0) i := h
    rw [gR_zero] at h
    exact absurd h (by decide)
theorem inv_step {us : List UD} {rms : List Rat} {dn : List Nat} {need : Int} {F : FS} {i : Nat} (h : Inv us rms dn need F) (hi : i < us.length) (hd : i ∉ dn) (hr : 0 ≤ gR rms i) (hs : 0 ≤ spn us i) (hle : ∀ j ∈ dn, j < us.length ∧ spn us j ≤ spn us i) :
    Inv us rms (dn ++ [i]) need (fstep us rms F i) := by
  obtain ⟨h1, h2, h3, h4, h5, h6, h7, h8, h9, h10⟩ := h
  have hx0 := h6 i hi hd
  have hil : i < F.taken.length := by omega
  obtain ⟨x, hx⟩ : ∃ x, x = mn F.short (gR rms i) := ⟨_, rfl⟩
  have e : fstep us rms F i = ⟨F.short - x, F.taken.set i x, if 0 < x then spn us i else F.price⟩ := by unfold fstep; rw [hx]; rfl
  have hc := mn_cases F.short (gR rms i)
  rw [← hx] at hc
  have hxl : 0 ≤ x := by rcases hc with ⟨_, h⟩ | ⟨_, h⟩ <;> rw [h] <;> assumption
  have hxr : x ≤ gR rms i := by rcases hc with ⟨a, h⟩ | ⟨_, h⟩ <;> rw [h] <;> grind
  rw [e]
  have hg : ∀ j, gR (F.taken.set i x) j = if j = i then x else gR F.taken j := gR_set hil x
  have hne : ∀ j, j ∈ dn → j ≠ i := fun j hj e => hd (e ▸ hj)
  refine ⟨by simp [h1], ?_, fun j hj => ?_, fun j hj => ?_, fun hp j hj => ?_, fun j hj hn => ?_, ?_, fun j hj hp => ?_, fun j hj hp => ?_, ?_⟩
  · show 0 ≤ F.short - x
    rcases hc with ⟨_, h⟩ | ⟨_, h⟩ <;> rw [h] <;> grind
  · simp only
    rw [hg]
    split
    · exact hxl
    · exact h3 j hj
  · simp only
    rw [hg]
    rcases List.mem_append.1 hj with hj | hj
    · rw [if_neg (hne j hj)]; exact h4 j hj
    · simp at hj; subst hj; rw [if_pos rfl]; exact hxr
  · have hp : 0 < F.short - x := hp
    simp only
    rw [hg]
    rcases List.mem_append.1 hj with hj | hj
    · rw [if_neg (hne j hj)]; exact h5 (by grind) j hj
    · simp at hj; subst hj; rw [if_pos rfl]
      rcases hc with ⟨_, h⟩ | ⟨_, h⟩
      · rw [h] at hp; exfalso; grind
      · exact h
  · simp only
    rw [hg]
    rw [if_neg (fun e => hn (by simp [e]))]
    exact h6 j hj fun hh => hn (by simp [hh])
  · show sumR (F.taken.set i x) + (F.short - x) = need
    rw [sumR_set hil, hx0]
    grind
  · simp only at hp ⊢
    rw [hg]
    by_cases hx2 : 0 < x
    · rw [if_pos hx2] at hp
      rcases List.mem_append.1 hj with hj | hj
      · rw [if_neg (hne j hj)]
        refine h5 ?_ j hj
        rcases hc with ⟨_, h⟩ | ⟨h', h⟩ <;> grind
      · simp at hj; subst hj; omega
    · rw [if_neg hx2] at hp
      rcases List.mem_append.1 hj with hj | hj
      · rw [if_neg (hne j hj)]; exact h8 j hj hp
      · simp at hj; subst hj
        rcases h10 with h | ⟨q, hq, h⟩
        · omega
        · have := (hle q hq).2; omega
  · simp only at hp ⊢
    rw [hg] at hp
    by_cases hx2 : 0 < x
    · rw [if_pos hx2]
      by_cases hji : j = i
      · subst hji; exact Int.le_refl _
      · rw [if_neg hji] at hp
        by_cases hjd : j ∈ dn
        · exact (hle j hjd).2
        · rw [h6 j hj hjd] at hp; exact absurd hp (by decide)
    · rw [if_neg hx2]
      by_cases hji : j = i
      · subst hji; rw [if_pos rfl] at hp; exact absurd hp hx2
      · rw [if_neg hji] at hp; exact h9 j hj hp
  · simp only
    split
    · exact .inr ⟨i, by simp, rfl⟩
    · rcases h10 with h | ⟨q, hq, h⟩
      · exact .inl h
      · exact .inr ⟨q, by simp [hq], h⟩
/-- The steps, one by one, for whatever holds of them. -/
theorem steps_ind {us : List UD} {ord : List Nat} (ho : Ord us ord) (P : List Nat → Prop) (h0 : P []) (hs : ∀ dn i, P dn → i < us.length → i ∉ dn → (∀ j ∈ dn, j < us.length ∧ spn us j ≤ spn us i) → (∃ k, dn = ord.take k ∧ ord[k]? = some i) → P (dn ++ [i])) : P ord := by
  have : ∀ k, k ≤ ord.length → P (ord.take k) := by
    intro k
    induction k with
    | zero => intro _; exact h0
    | succ k ih =>
      intro hk
      obtain ⟨i, hi⟩ : ∃ i, ord[k]? = some i := ⟨ord[k], List.getElem?_eq_getElem _⟩
      obtain ⟨h1, h2⟩ := ord_split ho hi
      have hts : ord.take (k + 1) = ord.take k ++ [i] := by rw [List.take_add_one, hi]; rfl
      rw [hts]
      refine hs _ i (ih (by omega)) (ho.lt i (List.mem_of_getElem? hi)) h1 (fun j hj => ?_) ⟨k, rfl, hi⟩
      have hjo := List.mem_of_mem_take hj
      refine ⟨ho.lt j hjo, ?_⟩
      have hsrt := ho.srt
      have e : ord = ord.take k ++ ord.drop k := (List.take_append_drop k ord).symm
      rw [e, List.pairwise_append] at hsrt
      have hid : i ∈ ord.drop k := by
        obtain ⟨hl, rfl⟩ := List.getElem?_eq_some_iff.1 hi
        rw [List.drop_eq_getElem_cons hl]
        exact List.mem_cons_self ..
      have := hsrt.2.2 j hj i hid
      unfold lexlt at this
      omega
  have := this ord.length (Nat.le_refl _)
  rwa [List.take_length] at this
theorem fillF_snoc (us : List UD) (rms : List Rat) (dn : List Nat) (i : Nat) (need : Int) : fillF us rms (dn ++ [i]) need = fstep us rms (fillF us rms dn need) i := by simp [fillF]
theorem inv_all {us : List UD} {rms : List Rat} {ord : List Nat} {need : Int} (ho : Ord us ord) (hr : ∀ i, i < us.length → 0 ≤ gR rms i) (hs : ∀ i, i < us.length → 0 ≤ spn us i) (hn : 0 ≤ need) : Inv us rms ord need (fillF us rms ord need) := by
  refine steps_ind ho (fun dn => Inv us rms dn need (fillF us rms dn need)) (inv_start hn) fun dn i h hi hd hle _ => ?_
  rw [fillF_snoc]
  exact inv_step h hi hd (hr i hi) (hs i hi) hle
end Go.Proofs.YtpmlocilhhjifaaGreat.Eng
end
section
set_option linter.unusedSimpArgs false
set_option linter.unusedVariables false
namespace Go.Proofs.YtpmlocilhhjifaaGreat.Eng
open Go.RowKit Go.Proofs
theorem fstep_at {us : List UD} {rms : List Rat} {F : FS} {i : Nat} {x : Rat} (hx : x = mn F.short (gR rms i)) : fstep us rms F i = ⟨F.short - x, F.taken.set i x, if 0 < x then spn us i else F.price⟩ := by unfold fstep; rw [hx]; rfl
theorem price_le {us : List UD} {rms : List Rat} {dn : List Nat} {need : Int} {F : FS} {i : Nat} (h : Inv us rms dn need F) (hs : 0 ≤ spn us i) (hle : ∀ j ∈ dn, j < us.length ∧ spn us j ≤ spn us i) : F.price ≤ spn us i := by
  rcases h.t3 with e | ⟨q, hq, e⟩
  · omega
  · have := (hle q hq).2; omega
theorem mono_all {us : List UD} {rms : List Rat} {ord : List Nat} {a b : Int} (ho : Ord us ord) (hr : ∀ i, i < us.length → 0 ≤ gR rms i) (hs : ∀ i, i < us.length → 0 ≤ spn us i) (ha : 0 ≤ a) (hab : a ≤ b) :
    (fillF us rms ord a).short ≤ (fillF us rms ord b).short ∧ (∀ i, gR (fillF us rms ord a).taken i ≤ gR (fillF us rms ord b).taken i) ∧ (fillF us rms ord a).price ≤ (fillF us rms ord b).price := by
  have key := steps_ind ho (fun dn => Inv us rms dn a (fillF us rms dn a) ∧ Inv us rms dn b (fillF us rms dn b) ∧ (fillF us rms dn a).short ≤ (fillF us rms dn b).short ∧ (∀ i, gR (fillF us rms dn a).taken i ≤ gR (fillF us rms dn b).taken i) ∧ (fillF us rms dn a).price ≤ (fillF us rms dn b).price)
    ⟨inv_start ha, inv_start (by omega), by show (a : Rat) ≤ (b : Rat); exact_mod_cast hab, fun i => Rat.le_refl, Int.le_refl _⟩ ?_
  · exact key.2.2
  · intro dn i ⟨hA, hB, h1, h2, h3⟩ hi hd hle _
    have sA := inv_step hA hi hd (hr i hi) (hs i hi) hle
    have sB := inv_step hB hi hd (hr i hi) (hs i hi) hle
    have pA := price_le hA (hs i hi) hle
    have lA : i < (fillF us rms dn a).taken.length := by rw [hA.len]; exact hi
    have lB : i < (fillF us rms dn b).taken.length := by rw [hB.len]; exact hi
    have zA := hA.sh
    have zB := hB.sh
    have zr := hr i hi
    rw [fillF_snoc, fillF_snoc]
    refine ⟨sA, sB, ?_⟩
    clear sA sB
    obtain ⟨x, hx⟩ : ∃ x, x = mn (fillF us rms dn a).short (gR rms i) := ⟨_, rfl⟩
    obtain ⟨y, hy⟩ : ∃ y, y = mn (fillF us rms dn b).short (gR rms i) := ⟨_, rfl⟩
    rw [fstep_at hx, fstep_at hy]
    have cx := mn_cases (fillF us rms dn a).short (gR rms i)
    have cy := mn_cases (fillF us rms dn b).short (gR rms i)
    rw [← hx] at cx
    rw [← hy] at cy
    have hxy : x ≤ y := by rcases cx with ⟨c1, c2⟩ | ⟨c1, c2⟩ <;> rcases cy with ⟨c3, c4⟩ | ⟨c3, c4⟩ <;> grind
    refine ⟨?_, fun j => ?_, ?_⟩
    · simp only
      rcases cx with ⟨c1, c2⟩ | ⟨c1, c2⟩ <;> rcases cy with ⟨c3, c4⟩ | ⟨c3, c4⟩ <;> grind
    · simp only
      rw [gR_set lA, gR_set lB]
      split
      · exact hxy
      · exact h2 j
    · simp only
      by_cases hx0 : 0 < x
      · rw [if_pos hx0, if_pos (by grind)]
        exact Int.le_refl _
      · rw [if_neg hx0]
        split
        · exact pA
        · exact h3
theorem fold_out {us : List UD} {rms : List Rat} {i : Nat} : ∀ {l : List Nat} {F : FS}, i ∉ l → gR (l.foldl (fstep us rms) F).taken i = gR F.taken i
  | [], F, _ => rfl
  | j :: l, F, h => by
    rw [List.foldl_cons, fold_out (fun hh => h (by simp [hh]))]
    unfold fstep gR
    simp only
    rw [List.getElem?_set_ne (by rintro rfl; exact h (by simp))]
theorem nodup_of {us : List UD} {ord : List Nat} (ho : Ord us ord) {k i : Nat} (hk : ord[k]? = some i) : i ∉ ord.drop (k + 1) := by
  have hs := ho.srt
  obtain ⟨h, rfl⟩ := List.getElem?_eq_some_iff.1 hk
  rw [← List.take_append_drop k ord, List.drop_eq_getElem_cons h, List.pairwise_append] at hs
  intro hh
  exact lexlt_irr ((List.pairwise_cons.1 hs.2.1).1 _ hh)
/-- What is given at its step stays. -/
theorem final_at {us : List UD} {rms : List Rat} {ord : List Nat} {need : Int} (ho : Ord us ord) {k i : Nat} (hk : ord[k]? = some i) : gR (fillF us rms ord need).taken i = mn (fillF us rms (ord.take k) need).short (gR rms i) := by
  have hi := ho.lt i (List.mem_of_getElem? hk)
  have e : fillF us rms ord need = (ord.drop (k + 1)).foldl (fstep us rms) (fillF us rms (ord.take k ++ [i]) need) := by
    unfold fillF
    rw [← List.foldl_append]
    congr 1
    obtain ⟨h, rfl⟩ := List.getElem?_eq_some_iff.1 hk
    conv => lhs; rw [← List.take_append_drop k ord, List.drop_eq_getElem_cons h]
    simp
  rw [e, fold_out (nodup_of ho hk), fillF_snoc, fstep_at rfl]
  simp only
  rw [gR_set (by rw [fillF_len]; exact hi), if_pos rfl]
theorem addn_all {us : List UD} {rms rms' : List Rat} {ord : List Nat} {a b : Int} (ho : Ord us ord) (hr : ∀ i, i < us.length → 0 ≤ gR rms i) (hs : ∀ i, i < us.length → 0 ≤ spn us i) (ha : 0 ≤ a) (hb : 0 ≤ b)
    (h' : ∀ i, i < us.length → gR rms' i = gR rms i - gR (fillF us rms ord a).taken i) :
    (fillF us rms ord (a + b)).short = (fillF us rms ord a).short + (fillF us rms' ord b).short ∧ (∀ i, i < us.length → gR (fillF us rms ord (a + b)).taken i = gR (fillF us rms ord a).taken i + gR (fillF us rms' ord b).taken i) ∧
      (fillF us rms ord (a + b)).price = max (fillF us rms ord a).price (fillF us rms' ord b).price := by
  have hAll := inv_all (need := a) ho hr hs ha
  have hr' : ∀ i, i < us.length → 0 ≤ gR rms' i := fun i hi => by
    rw [h' i hi]
    have := hAll.hi i (ho.mem i hi)
    grind
  have key := steps_ind ho (fun dn => Inv us rms dn a (fillF us rms dn a) ∧ Inv us rms' dn b (fillF us rms' dn b) ∧ (fillF us rms dn (a + b)).taken.length = us.length ∧ (fillF us rms dn (a + b)).short = (fillF us rms dn a).short + (fillF us rms' dn b).short ∧ ((fillF us rms dn a).short = 0 ∨ (fillF us rms' dn b).short = b) ∧
      (∀ i, gR (fillF us rms dn (a + b)).taken i = gR (fillF us rms dn a).taken i + gR (fillF us rms' dn b).taken i) ∧ (fillF us rms dn (a + b)).price = max (fillF us rms dn a).price (fillF us rms' dn b).price)
    ⟨inv_start ha, inv_start hb, by simp [fillF, fill0], by show ((a + b : Int) : Rat) = (a : Rat) + (b : Rat); exact Rat.intCast_add a b, .inr rfl, (fun i => by show gR (List.replicate _ 0) i = gR (List.replicate _ 0) i + gR (List.replicate _ 0) i; rw [gR_zero]; grind), rfl⟩ ?_
  · exact ⟨key.2.2.2.1, fun i _ => key.2.2.2.2.2.1 i, key.2.2.2.2.2.2⟩
  · intro dn i ⟨hA, hB, hCl, h1, h2, h3, h4⟩ hi hd hle ⟨k, hdk, hk⟩
    have sA := inv_step hA hi hd (hr i hi) (hs i hi) hle
    have sB := inv_step hB hi hd (hr' i hi) (hs i hi) hle
    have pA := price_le hA (hs i hi) hle
    have pB := price_le hB (hs i hi) hle
    have lA : i < (fillF us rms dn a).taken.length := by rw [hA.len]; exact hi
    have lB : i < (fillF us rms' dn b).taken.length := by rw [hB.len]; exact hi
    have lC : i < (fillF us rms dn (a + b)).taken.length := by rw [hCl]; exact hi
    have zA := hA.sh
    have zB := hB.sh
    have zr := hr i hi
    have hfin := final_at (rms := rms) (need := a) ho hk
    rw [← hdk] at hfin
    have hri := h' i hi
    rw [fillF_snoc, fillF_snoc, fillF_snoc]
    refine ⟨sA, sB, by rw [fstep_len]; exact hCl, ?_⟩
    clear sA sB
    obtain ⟨x, hx⟩ : ∃ x, x = mn (fillF us rms dn a).short (gR rms i) := ⟨_, rfl⟩
    rw [← hx] at hfin
    rw [hfin] at hri
    obtain ⟨y, hy⟩ : ∃ y, y = mn (fillF us rms' dn b).short (gR rms' i) := ⟨_, rfl⟩
    obtain ⟨z, hz⟩ : ∃ z, z = mn (fillF us rms dn (a + b)).short (gR rms i) := ⟨_, rfl⟩
    rw [fstep_at hx, fstep_at hy, fstep_at hz]
    have cx := mn_cases (fillF us rms dn a).short (gR rms i)
    have cy := mn_cases (fillF us rms' dn b).short (gR rms' i)
    have cz := mn_cases (fillF us rms dn (a + b)).short (gR rms i)
    rw [← hx] at cx
    rw [← hy] at cy
    rw [← hz] at cz
    rw [hri] at cy
    rw [h1] at cz
    have hxyz : z = x + y := by rcases cx with ⟨c1, c2⟩ | ⟨c1, c2⟩ <;> rcases cy with ⟨c3, c4⟩ | ⟨c3, c4⟩ <;> rcases cz with ⟨c5, c6⟩ | ⟨c5, c6⟩ <;> grind
    have hx0 : 0 ≤ x := by rcases cx with ⟨c1, c2⟩ | ⟨c1, c2⟩ <;> grind
    have hy0 : 0 ≤ y := by rcases cy with ⟨c3, c4⟩ | ⟨c3, c4⟩ <;> rcases cx with ⟨c1, c2⟩ | ⟨c1, c2⟩ <;> grind
    refine ⟨?_, ?_, fun j => ?_, ?_⟩
    · simp only
      rw [h1, hxyz]
      grind
    · simp only
      rcases cx with ⟨c1, c2⟩ | ⟨c1, c2⟩
      · left; rw [c2]; grind
      · rcases h2 with h2 | h2
        · left; rw [h2] at c1; exfalso; grind
        · right
          rcases cy with ⟨c3, c4⟩ | ⟨c3, c4⟩ <;> grind
    · simp only
      rw [gR_set lA, gR_set lB, gR_set lC]
      split
      · exact hxyz
      · exact h3 j
    · simp only
      by_cases c1 : 0 < x
      · rw [if_pos c1, if_pos (show 0 < z by grind)]
        split <;> omega
      · rw [if_neg c1]
        by_cases c2 : 0 < y
        · rw [if_pos c2, if_pos (show 0 < z by grind)]
          omega
        · rw [if_neg c2, if_neg (show ¬ 0 < z by grind)]
          exact h4
end Go.Proofs.YtpmlocilhhjifaaGreat.Eng
end
