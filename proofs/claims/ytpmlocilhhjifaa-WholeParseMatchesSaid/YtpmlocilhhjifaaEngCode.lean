/- Code: what the abstract machine tells of a function's body holds of the model's. -/
import Derived.Test.YtpmlocilhhjifaaEngReg
set_option linter.unusedSimpArgs false
set_option linter.unusedVariables false
namespace Go.Proofs.Ytpmlocilhhjifaa.Eng
open Go.RowKit

theorem edgesOk_at {ops : Array Oper} {n : Nat} : ∀ (r : List Oper) (i : Nat), edgesOk ops n r i = true → ∀ (j : Nat) o, r[j]? = some o → (∀ e ∈ o.after, Region.binds .any e = true → e.on < i + j) ∧ ∀ d, o.dst = some d → d < n
  | [], _, _, j, o, ho => by simp at ho
  | x :: r, i, h, 0, o, ho => by
    simp at ho; subst ho
    simp only [edgesOk, Bool.and_eq_true, List.all_eq_true] at h
    refine ⟨fun e he hb => ?_, fun d hd => ?_⟩
    · have := h.1.1 e (by simpa using he)
      rw [hb] at this
      have := Nat.le_of_ble_eq_true (by simpa using this)
      omega
    · have := h.1.2
      rw [hd] at this
      exact Nat.le_of_ble_eq_true this
  | x :: r, i, h, j + 1, o, ho => by
    simp only [edgesOk, Bool.and_eq_true] at h
    have := edgesOk_at r (i + 1) h.2 j o (by simpa using ho)
    refine ⟨fun e he hb => ?_, this.2⟩
    have := this.1 e he hb
    omega
theorem tOkRow_at {ops : Array Oper} {bj : Nat} {y : Oper} : ∀ (r : List Oper) (i : Nat), tOkRow ops bj y i r = true → ∀ (k : Nat) x, r[k]? = some x → touch ops x y = true → bj.testBit (i + k) = true
  | [], _, _, k, x, hx, _ => by simp at hx
  | z :: r, i, h, 0, x, hx, ht => by
    simp at hx; subst hx
    simp only [tOkRow, Bool.and_eq_true, ht] at h
    simpa using h.1
  | z :: r, i, h, k + 1, x, hx, ht => by
    simp only [tOkRow, Bool.and_eq_true] at h
    have := tOkRow_at r (i + 1) h.2 k x (by simpa using hx) ht
    rwa [show i + 1 + k = i + (k + 1) by omega] at this
theorem tOkGo_at {ops : Array Oper} {bits : List Nat} : ∀ (r pre : List Oper) (j : Nat), pre.length = j → tOkGo ops bits pre r j = true → ∀ (i k : Nat) x y, i < j + k → (pre ++ r)[i]? = some x → r[k]? = some y → touch ops x y = true → ((nth bits (j + k)).getD 0).testBit i = true
  | [], _, _, _, _, i, k, x, y, _, _, hy, _ => by simp at hy
  | z :: r, pre, j, hl, h, i, 0, x, y, hik, hx, hy, ht => by
    simp at hy; subst hy
    simp only [tOkGo, Bool.and_eq_true] at h
    rw [List.getElem?_append_left (by omega)] at hx
    have := tOkRow_at pre 0 h.1 i x hx ht
    simpa using this
  | z :: r, pre, j, hl, h, i, k + 1, x, y, hik, hx, hy, ht => by
    simp only [tOkGo, Bool.and_eq_true] at h
    have := tOkGo_at r (pre ++ [z]) (j + 1) (by simp [hl]) h.2 i k x y (by omega) (by simpa using hx) (by simpa using hy) ht
    rwa [show j + 1 + k = j + (k + 1) by omega] at this
theorem touch_at {ops : Array Oper} (h : tOkGo ops (bitsGo ops.toList []) [] ops.toList 0 = true) {i j : Nat} {x y : Oper} (hij : i < j) (hx : ops[i]? = some x) (hy : ops[j]? = some y) (ht : touch ops x y = true) : bitOf ops j i = true := by
  have := tOkGo_at ops.toList [] 0 rfl h i j x y (by omega) (by simpa using hx) (by simpa using hy) ht
  simpa [bitOf] using this

section
variable {P : Program} {ty : Nat → TI} {T : Nat → List DV → List DV → Prop} {C : Ctx} {S : AS} {ρ : Nat → Value} {a : Act} {w : World}

theorem yielded_of (g : Gam C S ρ a w) {ops : Array Oper} {j d : Nat} {oj : Oper} {b : Bool} (h1 : ops[j]? = some oj) (h2 : oj.dst = some d) (h3 : S.t d = .v (.one (.sc (.bool b)))) : yielded ops a.tmps j = some b := by
  have hx := g.slots d
  rw [h3] at hx
  have e1 : a.tmps.getD d undef = .bool b := RD.sc_inv hx
  have hq : a.tmps[d]? = some (.bool b) := by
    rw [Array.getD_eq_getD_getElem?] at e1
    cases hq : a.tmps[d]? with
    | none => rw [hq] at e1; simp [undef] at e1
    | some v => rw [hq] at e1; simp at e1; rw [e1]
  simp [yielded, h1, h2, hq]
theorem yielded_none (g : Gam C S ρ a w) {ops : Array Oper} {j d : Nat} {oj : Oper} (h1 : ops[j]? = some oj) (h2 : oj.dst = some d) (h3 : S.t d = .tp []) : yielded ops a.tmps j = none := by
  have hx := g.slots d
  rw [h3] at hx
  obtain ⟨vs, e1, hv⟩ := hx
  have : vs = [] := by cases vs with | nil => rfl | cons _ _ => exact hv.elim
  subst this
  rw [Array.getD_eq_getD_getElem?] at e1
  cases hq : a.tmps[d]? with
  | none => simp [yielded, h1, h2, hq]
  | some v => rw [hq] at e1; simp at e1; simp [yielded, h1, h2, hq, e1]
/-- Is it wanted? As the model says; and so in every state that agrees. -/
theorem awant_ok {ops : Array Oper} {o : Oper} {K : Bool → Prop} (h : awant ops S o K) : ∃ b, K b ∧ ∀ (S' : AS) (ρ : Nat → Value) (a : Act) (w : World), (∀ k ∈ readsT ops o, S'.t k = S.t k) → Gam C S' ρ a w → Region.wanted o (yielded ops a.tmps) = b := by
  unfold awant at h
  split at h
  · rename_i hg
    exact ⟨true, h, fun S' ρ a w _ g => by simp [Region.wanted, hg]⟩
  · rename_i j wnt hg
    split at h
    · rename_i oj hoj
      split at h
      · rename_i d hd
        split at h
        · rename_i b hb
          have key : ∀ (S' : AS) (ρ : Nat → Value) (a : Act) (w : World), (∀ k ∈ readsT ops o, S'.t k = S.t k) → Gam C S' ρ a w → yielded ops a.tmps j = some b := fun S' ρ a w hS g => by
            have hmem : d ∈ readsT ops o := by simp [readsT, hg, hoj, hd]
            exact yielded_of g (by rw [nth_eq] at hoj; simpa using hoj) hd (by rw [hS d hmem]; exact hb)
          split at h
          · exact ⟨true, h, fun S' ρ a w hS g => by simp [Region.wanted, hg, key S' ρ a w hS g]⟩
          · exact ⟨true, h, fun S' ρ a w hS g => by simp [Region.wanted, hg, key S' ρ a w hS g]⟩
          · exact ⟨false, h, fun S' ρ a w hS g => by simp [Region.wanted, hg, key S' ρ a w hS g]⟩
          · exact ⟨false, h, fun S' ρ a w hS g => by simp [Region.wanted, hg, key S' ρ a w hS g]⟩
        · rename_i hb
          refine ⟨false, h, fun S' ρ a w hS g => ?_⟩
          have hmem : d ∈ readsT ops o := by simp [readsT, hg, hoj, hd]
          have := yielded_none g (j := j) (by rw [nth_eq] at hoj; simpa using hoj) hd (by rw [hS d hmem]; exact hb)
          simp [Region.wanted, hg, this]
        · exact h.elim
      · exact h.elim
    · exact h.elim

/-- One step of the text's order: what it does, there and in every state that agrees. -/
structure StepOk (P : Program) (ty : Nat → TI) (C : Ctx) (ops : Array Oper) (S : AS) (o : Oper) (E : Eff) : Prop where
  go : ∀ (S' : AS) (ρ : Nat → Value) (a : Act) (w : World), (∀ k ∈ readsT ops o, S'.t k = S.t k) → (∀ s ∈ E.rd ++ E.bl.map (·.1), S'.b s = S.b s) → Gam C S' ρ a w →
    ∀ (i : Nat) (K : Act → World → Prop) (Q : Exit → Act → World → Prop), ops[i]? = some o → (∀ ρ' a' w', Gam C (S'.app o.dst E) ρ' a' w' → K a' w') → wpOp P ops Q i K a w
theorem stepOk_of (hW : World1 P ty T) {ops : Array Oper} {o : Oper} (hd : ∀ d, o.dst = some d → d < C.N) {draw : Bool} {r : List Oper} {i : Nat} {l : List Fp} {K : AS → Prop}
    (h : areg (real T) ty ops draw (o :: r) i l S K) : ∃ E, StepOk P ty C ops S o E ∧ areg (real T) ty ops draw r (i + 1) (addFp i E l) (S.app o.dst E) K := by
  simp only [areg] at h
  obtain ⟨b, h, hb⟩ := awant_ok (C := C) h
  cases b with
  | true =>
    obtain ⟨E, h, hsp⟩ := aop_split h
    refine ⟨E, ⟨fun S' ρ a w h1 h2 g i K Q ho hK => ?_⟩, h⟩
    have hop := hsp S' (fun k hk => h1 k (by simp only [readsT]; exact List.mem_append.2 (.inl (List.mem_flatMap.2 ⟨_, by simpa using hk, by simp [opNames]⟩)))) h2
    obtain ⟨E', rfl, hf⟩ := aop_ok hW g hd hop
    unfold wpOp
    rw [ho]
    simp only [hb S' ρ a w h1 g, if_true]
    exact .inl (hf K Q hK)
  | false =>
    refine ⟨⟨.tp [], [], []⟩, ⟨fun S' ρ a w h1 h2 g i K Q ho hK => ?_⟩, by simpa [addFp] using h⟩
    unfold wpOp
    rw [ho]
    simp only [hb S' ρ a w h1 g]
    exact hK ρ _ w (g.put hd ⟨[], rfl, trivial⟩)

/-- A region in the text's order. -/
theorem areg_text (hW : World1 P ty T) {ops : Array Oper} (hok : edgesOk ops C.N ops.toList 0 = true) {Q : Exit → Act → World → Prop} {K : AS → Prop} (hQ : ∀ S' ρ' a' w', K S' → Gam C S' ρ' a' w' → Q .normal a' w') :
    ∀ (r : List Oper) (i : Nat) (l : List Fp) (S : AS) (ρ : Nat → Value) (a : Act) (w : World), ops.toList.drop i = r → areg (real T) ty ops false r i l S K → Gam C S ρ a w → wpOps P ops Q (List.range' i r.length) a w
  | [], i, l, S, ρ, a, w, _, h, g => hQ S ρ a w h g
  | o :: r, i, l, S, ρ, a, w, hr, h, g => by
    have hi : ops[i]? = some o := by
      have : (ops.toList.drop i)[0]? = some o := by rw [hr]; rfl
      rw [List.getElem?_drop] at this
      simpa using this
    have hd := (edgesOk_at ops.toList 0 hok i o (by simpa using hi)).2
    obtain ⟨E, hs, h⟩ := stepOk_of hW hd h
    rw [List.length_cons, List.range'_succ, wpOps_cons]
    refine hs.go S ρ a w (fun _ _ => rfl) (fun _ _ => rfl) g i _ Q hi fun ρ' a' w' g' => ?_
    refine areg_text hW hok hQ r (i + 1) _ _ ρ' a' w' ?_ h g'
    have := congrArg List.tail hr
    rwa [List.tail_drop] at this

/-- The trace of the text's order. -/
theorem areg_trace (hW : World1 P ty T) {ops : Array Oper} (hok : edgesOk ops C.N ops.toList 0 = true) {K : AS → Prop} (S0 : AS) :
    ∀ (r : List Oper) (i : Nat) (l : List Fp) (st : Nat → Stp), ops.toList.drop i = r → areg (real T) ty ops true r i l (M st S0 i fun _ => true) K →
    (∀ j, j < i → ∃ o, ops[j]? = some o ∧ (st j).1 = o.dst ∧ StepOk P ty C ops (M st S0 j fun _ => true) o (st j).2) →
    (∀ q ∈ l, q.1 < i ∧ q.2.1 = (st q.1).2.rd ∧ q.2.2 = (st q.1).2.bl.map (·.1)) → (∀ j, j < i → ((st j).2.rd ≠ [] ∨ (st j).2.bl ≠ []) → ∃ q ∈ l, q.1 = j) → l.Pairwise (fun p q => q.1 < p.1) →
    ∃ (st' : Nat → Stp) (l' : List Fp), (∀ j, j < ops.size → ∃ o, ops[j]? = some o ∧ (st' j).1 = o.dst ∧ StepOk P ty C ops (M st' S0 j fun _ => true) o (st' j).2) ∧
      (∀ q ∈ l', q.1 < ops.size ∧ q.2.1 = (st' q.1).2.rd ∧ q.2.2 = (st' q.1).2.bl.map (·.1)) ∧ (∀ j, j < ops.size → ((st' j).2.rd ≠ [] ∨ (st' j).2.bl ≠ []) → ∃ q ∈ l', q.1 = j) ∧
      l'.Pairwise (fun p q => q.1 < p.1) ∧ safe (bitsGo ops.toList []) l' = true ∧ K (M st' S0 ops.size fun _ => true)
  | [], i, l, st, hr, h, h1, h2, h3, h0 => by
    have hi : ops.size ≤ i := by simpa using hr
    simp only [areg] at h
    obtain ⟨hs, h⟩ := h
    have hcut : ∀ n, n ≤ i → ops.size ≤ n → n = ops.size → True := fun _ _ _ _ => trivial
    by_cases he : i = ops.size
    · subst he
      exact ⟨st, l, h1, h2, h3, h0, hs, h⟩
    · obtain ⟨o, ho, _⟩ := h1 ops.size (by omega)
      simp at ho
  | o :: r, i, l, st, hr, h, h1, h2, h3, h0 => by
    have hi : ops[i]? = some o := by
      have : (ops.toList.drop i)[0]? = some o := by rw [hr]; rfl
      rw [List.getElem?_drop] at this
      simpa using this
    have hd := (edgesOk_at ops.toList 0 hok i o (by simpa using hi)).2
    obtain ⟨E, hs, h⟩ := stepOk_of hW hd h
    -- the new step, at its place
    let st2 : Nat → Stp := fun j => if j = i then (o.dst, E) else st j
    have hst : ∀ j, j ≠ i → st2 j = st j := fun j hj => by simp only [st2]; rw [if_neg hj]
    have hM : ∀ n, n ≤ i → M st2 S0 n (fun _ => true) = M st S0 n (fun _ => true) := by
      intro n
      induction n with
      | zero => intro _; rfl
      | succ n ih => intro hn; simp only [M]; rw [ih (by omega), hst n (by omega)]
    have hMi : M st2 S0 (i + 1) (fun _ => true) = (M st S0 i fun _ => true).app o.dst E := by
      simp only [M]
      rw [hM i (Nat.le_refl _)]
      simp [st2]
    refine areg_trace hW hok S0 r (i + 1) (addFp i E l) st2 ?_ (by rw [hMi]; exact h) (fun j hj => ?_) (fun q hq => ?_) (fun j hj hne => ?_) ?_
    · have := congrArg List.tail hr
      rwa [List.tail_drop] at this
    · by_cases hji : j = i
      · subst hji
        refine ⟨o, hi, by simp [st2], ?_⟩
        rw [hM j (Nat.le_refl _)]
        simpa [st2] using hs
      · obtain ⟨o', h4, h5, h6⟩ := h1 j (by omega)
        refine ⟨o', h4, by rw [hst j hji]; exact h5, ?_⟩
        rw [hM j (by omega), hst j hji]
        exact h6
    · unfold addFp at hq
      split at hq
      · obtain ⟨a1, a2, a3⟩ := h2 q hq
        exact ⟨by omega, by rw [hst _ (by omega)]; exact a2, by rw [hst _ (by omega)]; exact a3⟩
      · rcases List.mem_cons.1 hq with rfl | hq
        · simp [st2]
        · obtain ⟨a1, a2, a3⟩ := h2 q hq
          exact ⟨by omega, by rw [hst _ (by omega)]; exact a2, by rw [hst _ (by omega)]; exact a3⟩
    · by_cases hji : j = i
      · subst hji
        simp only [st2, if_true] at hne
        unfold addFp
        split
        · rename_i e1 e2; simp [e1, e2] at hne
        · exact ⟨_, List.mem_cons_self, rfl⟩
      · rw [hst j hji] at hne
        obtain ⟨q, hq, h4⟩ := h3 j (by omega) hne
        unfold addFp
        split
        · exact ⟨q, hq, h4⟩
        · exact ⟨q, List.mem_cons_of_mem _ hq, h4⟩
    · unfold addFp
      split
      · exact h0
      · exact List.pairwise_cons.2 ⟨fun q hq => (h2 q hq).1, h0⟩

theorem disj_spec : ∀ {l l' : List Nat}, disj l l' = true → ∀ s, s ∈ l → s ∈ l' → False
  | [], _, _, s, h, _ => by cases h
  | x :: l, l', h, s, h1, h2 => by
    simp only [disj, Bool.and_eq_true] at h
    rcases List.mem_cons.1 h1 with rfl | h1
    · have : (l'.any fun b => Nat.beq s b) = true := List.any_eq_true.2 ⟨s, h2, Nat.beq_refl _⟩
      rw [this] at h
      simp at h
    · exact disj_spec h.2 s h1 h2
theorem safe1_at {bits : List Nat} {i : Nat} {r wr : List Nat} : ∀ {l : List Fp}, safe1 bits i r wr l = true → ∀ q ∈ l, (disj wr q.2.1 = true ∧ disj wr q.2.2 = true ∧ disj r q.2.2 = true) ∨ ((nth bits i).getD 0).testBit q.1 = true
  | [], _, q, h => by cases h
  | (j, r', w') :: l, h, q, hq => by
    simp only [safe1, Bool.and_eq_true, Bool.or_eq_true] at h
    rcases List.mem_cons.1 hq with rfl | hq
    · rcases h.1 with h1 | h1
      · exact .inl ⟨h1.1.1, h1.1.2, h1.2⟩
      · exact .inr h1
    · exact safe1_at h.2 q hq
/-- Two that touch one block are in order. -/
theorem safe_at {bits : List Nat} : ∀ {l : List Fp}, safe bits l = true → l.Pairwise (fun p q => q.1 < p.1) → ∀ p ∈ l, ∀ q ∈ l, q.1 < p.1 →
    (disj p.2.2 q.2.1 = true ∧ disj p.2.2 q.2.2 = true ∧ disj p.2.1 q.2.2 = true) ∨ ((nth bits p.1).getD 0).testBit q.1 = true
  | [], _, _, p, hp, _, _, _ => by cases hp
  | (i, r, wr) :: l, h, hpw, p, hp, q, hq, hlt => by
    simp only [safe, Bool.and_eq_true] at h
    obtain ⟨h1, h2⟩ := List.pairwise_cons.1 hpw
    rcases List.mem_cons.1 hp with rfl | hp
    · rcases List.mem_cons.1 hq with rfl | hq
      · exact absurd hlt (Nat.lt_irrefl _)
      · exact safe1_at h.1 q hq
    · rcases List.mem_cons.1 hq with rfl | hq
      · have := h1 p hp
        simp only at this hlt
        omega
      · exact safe_at h.2 h2 p hp q hq hlt

/-- How many have not come up. -/
def unl (n : Nat) (listed : Array Bool) : Nat := (List.range n).countP fun j => !listed.getD j true
theorem unl_set {n i : Nat} {listed : Array Bool} (hi : i < n) (hs : listed.size = n) (h : listed.getD i true = false) : unl n (listed.setIfInBounds i true) < unl n listed := by
  have gen : ∀ (l : List Nat), l.countP (fun j => !(listed.setIfInBounds i true).getD j true) ≤ l.countP (fun j => !listed.getD j true) ∧ (i ∈ l → l.countP (fun j => !(listed.setIfInBounds i true).getD j true) < l.countP (fun j => !listed.getD j true)) := by
    intro l
    induction l with
    | nil => exact ⟨Nat.le_refl _, fun h => by cases h⟩
    | cons x l ih =>
      simp only [List.countP_cons]
      have hx : ∀ x, (listed.setIfInBounds i true).getD x true = if x = i then true else listed.getD x true := fun x => by
        simp only [Array.getD_eq_getD_getElem?, Array.getElem?_setIfInBounds]
        by_cases hxi : x = i
        · subst hxi; simp [hs, hi]
        · simp [hxi, Ne.symm hxi]
      rw [hx]
      by_cases hxi : x = i
      · subst hxi
        simp only [if_true, h]
        have := ih.1
        refine ⟨?_, fun _ => ?_⟩ <;> simp only [Bool.not_true, Bool.not_false, if_true, Bool.false_eq_true, if_false] <;> omega
      · rw [if_neg hxi]
        refine ⟨by omega, fun hm => ?_⟩
        have := ih.2 (by rcases List.mem_cons.1 hm with h1 | h1; exact absurd h1.symm hxi; exact h1)
        omega
  exact (gen _).2 (List.mem_range.2 hi)
theorem ready_all {ops : Array Oper} {N : Nat} (hok : edgesOk ops N ops.toList 0 = true) {listed : Array Bool} (hs : listed.size = ops.size) (hr : Region.ready .any ops listed = []) : ∀ j, j < ops.size → listed.getD j false = true := by
  intro j
  induction j using Nat.strongRecOn with
  | _ j ih =>
    intro hj
    cases hq : listed.getD j false with
    | true => rfl
    | false =>
      exfalso
      have hmem : j ∈ Region.ready .any ops listed := by
        refine mem_ready.2 ⟨?_, ops[j], Array.getElem?_eq_getElem hj, fun e he hb => ?_⟩
        · simp only [Array.getD_eq_getD_getElem?] at hq ⊢
          have : j < listed.size := by omega
          simp [this] at hq ⊢
          exact hq
        · have hlt := (edgesOk_at ops.toList 0 hok j ops[j] (by simp [hj])).1 e he hb
          exact ih e.on (by omega) (by omega)
      rw [hr] at hmem
      cases hmem

theorem areg_any (hW : World1 P ty T) {ops : Array Oper} (hok : edgesOk ops C.N ops.toList 0 = true) (htok : tOkGo ops (bitsGo ops.toList []) [] ops.toList 0 = true) {Q : Exit → Act → World → Prop} {K : AS → Prop}
    (hQ : ∀ S' ρ' a' w', K S' → Gam C S' ρ' a' w' → Q .normal a' w') {S0 : AS} (h : areg (real T) ty ops true ops.toList 0 [] S0 K) (g0 : Gam C S0 ρ a w) :
    wpAny P .any ops Q ops.size (Array.replicate ops.size false) a w := by
  obtain ⟨st, l, hst, hl1, hl2, hpw, hsafe, hK⟩ := areg_trace hW hok S0 ops.toList 0 [] (fun _ => (none, ⟨.u, [], []⟩)) rfl h (fun j hj => by omega) (fun q hq => by cases hq) (fun j hj => by omega) List.Pairwise.nil
  -- whoever touches the same is in order
  have ordT : ∀ i j oi oj, i < j → ops[i]? = some oi → ops[j]? = some oj → touch ops oi oj = true → bitOf ops j i = true := fun i j oi oj hij h1 h2 h3 => touch_at htok hij h1 h2 h3
  have ordB : ∀ i j s, i < j → j < ops.size → ((s ∈ (st i).2.rd ++ (st i).2.bl.map (·.1) ∧ wrB (st j) s) ∨ (s ∈ (st j).2.rd ++ (st j).2.bl.map (·.1) ∧ wrB (st i) s)) → bitOf ops j i = true := by
    intro i j s hij hj hc
    have hne : ∀ k, s ∈ (st k).2.rd ++ (st k).2.bl.map (·.1) → ((st k).2.rd ≠ [] ∨ (st k).2.bl ≠ []) := fun k hk => by
      rcases List.mem_append.1 hk with hk | hk
      · exact .inl (List.ne_nil_of_mem hk)
      · refine .inr ?_
        intro he
        rw [he] at hk
        cases hk
    have hi' : (st i).2.rd ≠ [] ∨ (st i).2.bl ≠ [] := by
      rcases hc with ⟨h1, _⟩ | ⟨_, h2⟩
      · exact hne i h1
      · exact hne i (List.mem_append.2 (.inr h2))
    have hj' : (st j).2.rd ≠ [] ∨ (st j).2.bl ≠ [] := by
      rcases hc with ⟨_, h2⟩ | ⟨h1, _⟩
      · exact hne j (List.mem_append.2 (.inr h2))
      · exact hne j h1
    obtain ⟨q, hq, hqi⟩ := hl2 i (by omega) hi'
    obtain ⟨p, hp, hpj⟩ := hl2 j hj hj'
    have hb := safe_at hsafe hpw p hp q hq (by omega)
    rw [hpj, hqi] at hb
    rcases hb with ⟨d1, d2, d3⟩ | hb
    · exfalso
      obtain ⟨_, p1, p2⟩ := hl1 p hp
      obtain ⟨_, q1, q2⟩ := hl1 q hq
      rw [hpj] at p1 p2
      rw [hqi] at q1 q2
      rw [p2, q1] at d1
      rw [p2, q2] at d2
      rw [p1, q2] at d3
      rcases hc with ⟨h1, h2⟩ | ⟨h1, h2⟩
      · rcases List.mem_append.1 h1 with h1 | h1
        · exact disj_spec d1 s h2 h1
        · exact disj_spec d2 s h2 h1
      · rcases List.mem_append.1 h1 with h1 | h1
        · exact disj_spec d3 s h1 h2
        · exact disj_spec d2 s h1 h2
    · exact hb
  have main : ∀ (fuel : Nat) (listed : Array Bool) (ρ : Nat → Value) (a : Act) (w : World), listed.size = ops.size → unl ops.size listed ≤ fuel →
      (∀ j o, ops[j]? = some o → listed.getD j false = true → ∀ e ∈ o.after, Region.binds .any e = true → listed.getD e.on false = true) →
      Gam C (M st S0 ops.size fun j => listed.getD j false) ρ a w → wpAny P .any ops Q fuel listed a w := by
    intro fuel
    induction fuel with
    | zero =>
      intro listed ρ a w hs hu hcl g
      have hnone : ∀ j, j < ops.size → listed.getD j true = true := fun j hj => by
        have h0 : unl ops.size listed = 0 := by omega
        unfold unl at h0
        rw [List.countP_eq_zero] at h0
        have := h0 j (List.mem_range.2 hj)
        simpa using this
      have hr : Region.ready .any ops listed = [] := by
        apply List.eq_nil_iff_forall_not_mem.2
        intro i hi
        obtain ⟨h1, o, h2, _⟩ := mem_ready.1 hi
        have := hnone i (Array.getElem?_eq_some_iff.1 h2).1
        rw [h1] at this
        cases this
      refine ⟨hr, hQ _ ρ a w hK ?_⟩
      rw [M_congr ops.size _ (fun j => listed.getD j false) (fun j hj => (ready_all hok hs hr j hj).symm)]
      exact g
    | succ fuel ih =>
      intro listed ρ a w hs hu hcl g
      refine ⟨fun hr => hQ _ ρ a w hK (by rw [M_congr ops.size _ (fun j => listed.getD j false) (fun j hj => (ready_all hok hs hr j hj).symm)]; exact g), fun i hi => ?_⟩
      obtain ⟨h1, o, h2, h3⟩ := mem_ready.1 hi
      have hin : i < ops.size := (Array.getElem?_eq_some_iff.1 h2).1
      have hLi : listed.getD i false = false := by
        simp only [Array.getD_eq_getD_getElem?] at h1 ⊢
        have : i < listed.size := by omega
        simp [this] at h1 ⊢
        exact h1
      have early : ∀ j, bitOf ops i j = true → listed.getD j false = true := fun j hb => bit_listed (L := fun j => listed.getD j false) hcl j i o h2 h3 hb
      have late : ∀ j, j < ops.size → bitOf ops j i = true → listed.getD j false = false := fun j hj hb => by
        cases hq : listed.getD j false with
        | false => rfl
        | true =>
          have : listed.getD i false = true := bit_listed (L := fun j => listed.getD j false) hcl i j ops[j] (Array.getElem?_eq_getElem hj) (hcl j _ (Array.getElem?_eq_getElem hj) hq) hb
          rw [hLi] at this
          cases this
      obtain ⟨o', ho', hdst, hstep⟩ := hst i hin
      have : o' = o := Option.some.inj (ho'.symm.trans h2)
      subst this
      have hdstj : ∀ j, j < ops.size → ∃ oj, ops[j]? = some oj ∧ (st j).1 = oj.dst := fun j hj => by obtain ⟨oj, a1, a2, _⟩ := hst j hj; exact ⟨oj, a1, a2⟩
      refine hstep.go (M st S0 ops.size fun j => listed.getD j false) ρ a w (fun k hk => ?_) (fun s hs' => ?_) g i _ Q h2 fun ρ' a' w' g' => ?_
      · refine M_t ops.size i _ _ (by omega) (fun j hj hw => ?_) (fun j hj hjn hw => ?_)
        · obtain ⟨oj, a1, a2⟩ := hdstj j (by omega)
          have a3 : oj.dst = some k := by rw [← a2]; exact hw
          exact early j (ordT j i oj o' hj a1 h2 (by simp [touch, a3, memN_iff.2 hk]))
        · by_cases hji : j = i
          · subst hji; exact hLi
          · obtain ⟨oj, a1, a2⟩ := hdstj j hjn
            have a3 : oj.dst = some k := by rw [← a2]; exact hw
            exact late j hjn (ordT i j o' oj (by omega) h2 a1 (by simp [touch, a3, memN_iff.2 hk]))
      · refine M_b ops.size i _ _ (by omega) (fun j hj hw => ?_) (fun j hj hjn hw => ?_)
        · exact early j (ordB j i s hj hin (.inr ⟨hs', hw⟩))
        · by_cases hji : j = i
          · subst hji; exact hLi
          · exact late j hjn (ordB i j s (by omega) hjn (.inl ⟨hs', hw⟩))
      · refine ih (listed.setIfInBounds i true) ρ' a' w' (by simpa using hs) ?_ ?_ ?_
        · have := unl_set hin hs h1
          omega
        · intro j oj hoj hj e he hb
          by_cases hji : j = i
          · subst hji
            have : oj = o' := Option.some.inj (hoj.symm.trans h2)
            subst this
            exact getD_set_true (h3 e he hb)
          · rw [getD_set_ne false (Ne.symm hji)] at hj
            exact getD_set_true (hcl j oj hoj hj e he hb)
        · have hins : M st S0 ops.size (fun j => (listed.setIfInBounds i true).getD j false) = M st S0 ops.size (ins (fun j => listed.getD j false) i) := M_congr _ _ _ fun j hj => by
            simp only [ins, Array.getD_eq_getD_getElem?, Array.getElem?_setIfInBounds]
            by_cases hji : j = i
            · subst hji; simp [hs, hin]
            · simp [hji, Ne.symm hji]
          rw [hins, M_ins _ hLi ops.size hin (fun j hij hjn hLj => ?_)]
          · rw [hdst]; exact g'
          · obtain ⟨oj, a1, a2⟩ := hdstj j hjn
            refine ⟨fun k hk hk' => ?_, fun s hs1 hs2 => ?_⟩
            · have b1 : o'.dst = some k := by rw [← hdst]; exact hk
              have b2 : oj.dst = some k := by rw [← a2]; exact hk'
              have := late j hjn (ordT i j o' oj hij h2 a1 (by simp [touch, b1, b2]))
              rw [this] at hLj
              cases hLj
            · have := late j hjn (ordB i j s hij hjn (.inl ⟨List.mem_append.2 (.inr hs1), hs2⟩))
              rw [this] at hLj
              cases hLj
  refine main ops.size _ ρ a w (by simp) ?_ (fun j o ho hj => ?_) ?_
  · unfold unl
    have := List.countP_le_length (p := fun j => !(Array.replicate ops.size false).getD j true) (l := List.range ops.size)
    simpa using this
  · simp only [Array.getD_eq_getD_getElem?, Array.getElem?_replicate] at hj
    split at hj <;> simp at hj
  · have : M st S0 ops.size (fun j => (Array.replicate ops.size false).getD j false) = S0 := by
      have : ∀ n, M st S0 n (fun j => (Array.replicate ops.size false).getD j false) = S0 := by
        intro n
        induction n with
        | zero => rfl
        | succ n ih =>
          have : (Array.replicate ops.size false).getD n false = false := by
            simp only [Array.getD_eq_getD_getElem?, Array.getElem?_replicate]
            split <;> rfl
          simp only [M, this]
          exact ih
      exact this _
    rw [this]
    exact g0
end
end Go.Proofs.Ytpmlocilhhjifaa.Eng
