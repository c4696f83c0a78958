/- Regions: whatever order is drawn, the state behind is the one that the text's order gives. -/
import Derived.Test.YtpmlocilhhjifaaGreatEngLoc
import Derived.LoopN
import Derived.Test.YtpmlocilhhjifaaGreatEngTy
import Derived.Test.YtpmlocilhhjifaaGreatProg
section
set_option linter.unusedSimpArgs false
set_option linter.unusedVariables false
namespace Go.Proofs.YtpmlocilhhjifaaGreat.Eng
open Go.RowKit

/-! ### Effects laid in any order -/
abbrev Stp := Option Nat × Eff
def M (st : Nat → Stp) (S : AS) : Nat → (Nat → Bool) → AS
  | 0, _ => S
  | n + 1, L => match L n with
    | true => (M st S n L).app (st n).1 (st n).2
    | false => M st S n L
def wrT (x : Stp) (k : Nat) : Prop := x.1 = some k
def wrB (x : Stp) (s : Nat) : Prop := s ∈ x.2.bl.map (·.1)
theorem setB_other {f : Nat → BE} {s : Nat} : ∀ (l : List (Nat × BE)), s ∉ l.map (·.1) → setB f l s = f s
  | [], _ => rfl
  | (r, e) :: l, h => by
    simp only [List.map_cons, List.mem_cons, not_or] at h
    simp only [setB]
    rw [setB_other l h.2, upd_ne _ _ h.1]
theorem setB_same {f g : Nat → BE} {s : Nat} : ∀ (l : List (Nat × BE)), s ∈ l.map (·.1) → setB f l s = setB g l s
  | [], h => by simp at h
  | (r, e) :: l, h => by
    simp only [setB]
    by_cases hl : s ∈ l.map (·.1)
    · exact setB_same l hl
    · simp only [List.map_cons, List.mem_cons, hl, or_false] at h
      subst h
      rw [setB_other l hl, setB_other l hl, upd_same, upd_same]
theorem putT_other {f : Nat → AT} {d : Option Nat} {r : AT} {k : Nat} (h : d ≠ some k) : putT f d r k = f k := by
  cases d with
  | none => rfl
  | some j => exact upd_ne _ _ (by rintro rfl; exact h rfl)
theorem putT_same {f g : Nat → AT} {k : Nat} {r : AT} : putT f (some k) r k = putT g (some k) r k := by simp [putT, upd_same]
section
variable {st : Nat → Stp} {S : AS}
theorem M_t {k : Nat} : ∀ (n i : Nat) (L L' : Nat → Bool), i ≤ n → (∀ j, j < i → wrT (st j) k → L j = L' j) → (∀ j, i ≤ j → j < n → wrT (st j) k → L j = false) → (M st S n L).t k = (M st S i L').t k := by
  intro n
  induction n with
  | zero => intro i L L' hi h1 h2; obtain rfl : i = 0 := (by omega); rfl
  | succ n ih =>
    intro i L L' hi h1 h2
    by_cases hin : i = n + 1
    · subst hin
      have ih' := ih n L L' (Nat.le_refl _) (fun j hj => h1 j (by omega)) (fun j a b => by omega)
      simp only [M]
      by_cases hw : wrT (st n) k
      · rw [h1 n (by omega) hw]
        have hw' : (st n).1 = some k := hw
        cases L' n with
        | true => simp only [AS.app, hw']; exact putT_same
        | false => exact ih'
      · cases L n <;> cases L' n <;> simp only [AS.app] <;> first | exact ih' | (rw [putT_other hw]; exact ih') | (rw [putT_other hw, putT_other hw]; exact ih')
    · have ih' := ih i L L' (by omega) h1 (fun j a b => h2 j a (by omega))
      simp only [M]
      by_cases hw : wrT (st n) k
      · rw [h2 n (by omega) (by omega) hw]; exact ih'
      · cases L n with
        | true => simp only [AS.app]; rw [putT_other hw]; exact ih'
        | false => exact ih'
theorem M_b {s : Nat} : ∀ (n i : Nat) (L L' : Nat → Bool), i ≤ n → (∀ j, j < i → wrB (st j) s → L j = L' j) → (∀ j, i ≤ j → j < n → wrB (st j) s → L j = false) → (M st S n L).b s = (M st S i L').b s := by
  intro n
  induction n with
  | zero => intro i L L' hi h1 h2; obtain rfl : i = 0 := (by omega); rfl
  | succ n ih =>
    intro i L L' hi h1 h2
    by_cases hin : i = n + 1
    · subst hin
      have ih' := ih n L L' (Nat.le_refl _) (fun j hj => h1 j (by omega)) (fun j a b => by omega)
      simp only [M]
      by_cases hw : wrB (st n) s
      · rw [h1 n (by omega) hw]
        cases L' n with
        | true => simp only [AS.app]; exact setB_same _ hw
        | false => exact ih'
      · cases L n <;> cases L' n <;> simp only [AS.app] <;> first | exact ih' | (rw [setB_other _ hw]; exact ih') | (rw [setB_other _ hw, setB_other _ hw]; exact ih')
    · have ih' := ih i L L' (by omega) h1 (fun j a b => h2 j a (by omega))
      simp only [M]
      by_cases hw : wrB (st n) s
      · rw [h2 n (by omega) (by omega) hw]; exact ih'
      · cases L n with
        | true => simp only [AS.app]; rw [setB_other _ hw]; exact ih'
        | false => exact ih'
/-- Two effects that touch different things. -/
def Apart (x y : Stp) : Prop := (∀ k, wrT x k → ¬ wrT y k) ∧ ∀ s, wrB x s → ¬ wrB y s
theorem AS.app_comm {S : AS} {x y : Stp} (h : Apart x y) : (S.app x.1 x.2).app y.1 y.2 = (S.app y.1 y.2).app x.1 x.2 := by
  simp only [AS.app]
  congr 1
  · funext k
    by_cases h1 : wrT x k
    · have h2 : y.1 ≠ some k := h.1 k h1
      have h1' : x.1 = some k := h1
      rw [putT_other h2, h1']
      exact putT_same
    · have h1' : x.1 ≠ some k := h1
      rw [putT_other h1']
      by_cases h2 : y.1 = some k
      · rw [h2]; exact putT_same
      · rw [putT_other h2, putT_other h2, putT_other h1']
  · funext s
    by_cases h1 : wrB x s
    · have h2 : ¬ wrB y s := h.2 s h1
      rw [setB_other _ h2]
      exact setB_same _ h1
    · rw [setB_other (f := setB S.b y.2.bl) _ h1]
      by_cases h2 : wrB y s
      · exact setB_same _ h2
      · rw [setB_other _ h2, setB_other _ h2, setB_other _ h1]
theorem M_congr : ∀ (n : Nat) (L L' : Nat → Bool), (∀ j, j < n → L j = L' j) → M st S n L = M st S n L'
  | 0, _, _, _ => rfl
  | n + 1, L, L', h => by simp only [M]; rw [h n (by omega), M_congr n L L' (fun j hj => h j (by omega))]
def ins (L : Nat → Bool) (i : Nat) : Nat → Bool := fun j => if j = i then true else L j
theorem M_ins {i : Nat} (L : Nat → Bool) (hi : L i = false) : ∀ n, i < n → (∀ j, i < j → j < n → L j = true → Apart (st i) (st j)) → M st S n (ins L i) = (M st S n L).app (st i).1 (st i).2
  | 0, h, _ => by omega
  | n + 1, h, hc => by
    by_cases hin : i = n
    · subst hin
      simp only [M, hi]
      have : ins L i i = true := by simp [ins]
      rw [this]
      simp only
      rw [M_congr i (ins L i) L (fun j hj => by simp [ins]; intro e; omega)]
    · have ih := M_ins L hi n (by omega) (fun j a b => hc j a (by omega))
      simp only [M]
      have e1 : ins L i n = L n := by simp only [ins]; rw [if_neg (by omega)]
      rw [e1]
      cases hLn : L n with
      | true => simp only; rw [ih, AS.app_comm (hc n (by omega) (by omega) hLn)]
      | false => simp only; exact ih
end

/-! ### Who waits for whom -/
theorem bitsGo_len : ∀ (r : List Oper) (acc : List Nat), (bitsGo r acc).length = acc.length + r.length
  | [], acc => by simp [bitsGo]
  | o :: r, acc => by simp only [bitsGo]; rw [bitsGo_len r]; simp; omega
theorem bitsGo_pre : ∀ (r : List Oper) (acc : List Nat) (j : Nat), j < acc.length → (bitsGo r acc)[j]? = acc[j]?
  | [], acc, j, _ => rfl
  | o :: r, acc, j, h => by simp only [bitsGo]; rw [bitsGo_pre r _ j (by simp; omega), List.getElem?_append_left h]
theorem bitsGo_at : ∀ (r : List Oper) (acc : List Nat) (j : Nat) (o : Oper), r[j]? = some o → ∃ acc', (bitsGo r acc)[acc.length + j]? = some (maskOf acc' o.after.toList) ∧ acc'.length = acc.length + j ∧ ∀ q, q < acc'.length → acc'[q]? = (bitsGo r acc)[q]?
  | [], acc, j, o, h => by simp at h
  | x :: r, acc, 0, o, h => by
    simp at h; subst h
    refine ⟨acc, ?_, by simp, fun q hq => ?_⟩
    · simp only [bitsGo, Nat.add_zero]
      rw [bitsGo_pre r _ _ (by simp)]
      simp
    · simp only [bitsGo]
      rw [bitsGo_pre r _ q (by simp; omega), List.getElem?_append_left hq]
  | x :: r, acc, j + 1, o, h => by
    simp only [bitsGo]
    obtain ⟨acc', h1, h2, h3⟩ := bitsGo_at r (acc ++ [maskOf acc x.after.toList]) j o (by simpa using h)
    refine ⟨acc', by rw [← h1]; congr 1; simp; omega, by rw [h2]; simp; omega, h3⟩
theorem maskOf_bit {acc : List Nat} {i : Nat} : ∀ (es : List Edge), (maskOf acc es).testBit i = true → ∃ e ∈ es, Region.binds .any e = true ∧ (e.on = i ∨ ((nth acc e.on).getD 0).testBit i = true)
  | [], h => by simp [maskOf] at h
  | e :: es, h => by
    simp only [maskOf] at h
    cases hb : Region.binds .any e with
    | false =>
      rw [hb] at h
      obtain ⟨e', h1, h2⟩ := maskOf_bit es h
      exact ⟨e', by simp [h1], h2⟩
    | true =>
      rw [hb] at h
      simp only [cond_true] at h
      change (((2 ^ e.on) ||| ((nth acc e.on).getD 0)) ||| (maskOf acc es)).testBit i = true at h
      simp only [Nat.testBit_or, Bool.or_eq_true, Nat.testBit_two_pow] at h
      rcases h with (h | h) | h
      · exact ⟨e, by simp, hb, .inl (by simpa using h)⟩
      · exact ⟨e, by simp, hb, .inr h⟩
      · obtain ⟨e', h1, h2⟩ := maskOf_bit es h
        exact ⟨e', by simp [h1], h2⟩
def bitOf (ops : Array Oper) (j i : Nat) : Bool := ((nth (bitsGo ops.toList []) j).getD 0).testBit i
/-- What j waits for lies in every closed set that bears what j waits for at once. -/
theorem bit_listed {ops : Array Oper} {L : Nat → Bool} (hcl : ∀ j o, ops[j]? = some o → L j = true → ∀ e ∈ o.after, Region.binds .any e = true → L e.on = true) (i : Nat) :
    ∀ (j : Nat) (o : Oper), ops[j]? = some o → (∀ e ∈ o.after, Region.binds .any e = true → L e.on = true) → bitOf ops j i = true → L i = true := by
  intro j
  induction j using Nat.strongRecOn with
  | _ j ih =>
    intro o ho hd hb
    obtain ⟨acc', h1, h2, h3⟩ := bitsGo_at ops.toList [] j o (by simpa using ho)
    unfold bitOf at hb
    rw [nth_eq] at hb
    simp only [List.length_nil, Nat.zero_add] at h1 h2
    rw [h1] at hb
    obtain ⟨e, he, hbe, h4⟩ := maskOf_bit _ hb
    have hLe := hd e (by simpa using he) hbe
    rcases h4 with h4 | h4
    · rw [← h4]; exact hLe
    · rw [nth_eq] at h4
      by_cases hlt : e.on < j
      · rw [h3 _ (by omega)] at h4
        have hej : e.on < ops.size := by
          have : j < ops.size := (Array.getElem?_eq_some_iff.1 ho).1
          omega
        refine ih e.on hlt ops[e.on] (Array.getElem?_eq_getElem hej) (fun e' he' hb' => hcl e.on _ (Array.getElem?_eq_getElem hej) hLe e' he' hb') ?_
        unfold bitOf
        rw [nth_eq]
        exact h4
      · rw [List.getElem?_eq_none (by omega)] at h4
        simp at h4

/-! ### The checks -/
def readsT (ops : Array Oper) (o : Oper) : List Nat := o.op.operands.toList.flatMap opNames ++ (match o.guard with
  | some (j, _) => match nth ops.toList j with | some oj => oj.dst.toList | none => []
  | none => [])
def memN (k : Nat) : List Nat → Bool
  | [] => false
  | j :: r => Nat.beq k j || memN k r
theorem memN_iff {k : Nat} : ∀ {l : List Nat}, memN k l = true ↔ k ∈ l
  | [] => by simp [memN]
  | j :: r => by simp [memN, memN_iff (l := r)]
/-- Numbers i and j touch one slot. -/
def touch (ops : Array Oper) (x y : Oper) : Bool :=
  (match x.dst with | some d => memN d (readsT ops y) || (match y.dst with | some e => Nat.beq d e | none => false) | none => false) ||
  (match y.dst with | some d => memN d (readsT ops x) | none => false)
def tOkRow (ops : Array Oper) (bj : Nat) (y : Oper) : Nat → List Oper → Bool
  | _, [] => true
  | i, x :: r => (!touch ops x y || bj.testBit i) && tOkRow ops bj y (i + 1) r
/-- Every two that touch one slot are in order. The list is reversed: the latest first. -/
def tOkGo (ops : Array Oper) (bits : List Nat) : List Oper → List Oper → Nat → Bool
  | _, [], _ => true
  | pre, y :: r, j => tOkRow ops ((nth bits j).getD 0) y 0 pre && tOkGo ops bits (pre ++ [y]) r (j + 1)
def edgesOk (ops : Array Oper) (n : Nat) : List Oper → Nat → Bool
  | [], _ => true
  | o :: r, i => (o.after.toList.all fun e => !Region.binds .any e || Nat.ble (e.on + 1) i) && (match o.dst with | some d => Nat.ble (d + 1) n | none => true) && edgesOk ops n r (i + 1)
def regOk (n : Nat) (ops : Array Oper) (draw : Bool) : Bool := edgesOk ops n ops.toList 0 && (!draw || tOkGo ops (bitsGo ops.toList []) [] ops.toList 0)
def codeOk (n : Nat) : Code → Bool
  | .region _ ops draw => regOk n ops draw
  | .seq a b => codeOk n a && codeOk n b
  | .cond _ a b => codeOk n a && codeOk n b
  | .block _ c => codeOk n c
  | .loop c => codeOk n c
  | _ => true
end Go.Proofs.YtpmlocilhhjifaaGreat.Eng
end
section
set_option linter.unusedSimpArgs false
set_option linter.unusedVariables false
namespace Go.Proofs.YtpmlocilhhjifaaGreat.Eng
open Go.RowKit

theorem edgesOk_at {ops : Array Oper} {n : Nat} : ∀ (r : List Oper) (i : Nat), edgesOk ops n r i = true → ∀ (j : Nat) o, r[j]? = some o → (∀ e ∈ o.after, Region.binds .any e = true → e.on < i + j) ∧ ∀ d, o.dst = some d → d < n
  | [], _, _, j, o, ho => by simp at ho
  | x :: r, i, h, 0, o, ho => by
    simp at ho; subst ho
    simp only [edgesOk, Bool.and_eq_true, List.all_eq_true] at h
    refine ⟨fun e he hb => ?_, fun d hd => ?_⟩
    · have := h.1.1 e (by simpa using he)
      rw [hb] at this
      have := Nat.le_of_ble_eq_true (by simpa using this)
      omega
    · have := h.1.2
      rw [hd] at this
      exact Nat.le_of_ble_eq_true this
  | x :: r, i, h, j + 1, o, ho => by
    simp only [edgesOk, Bool.and_eq_true] at h
    have := edgesOk_at r (i + 1) h.2 j o (by simpa using ho)
    refine ⟨fun e he hb => ?_, this.2⟩
    have := this.1 e he hb
    omega
theorem tOkRow_at {ops : Array Oper} {bj : Nat} {y : Oper} : ∀ (r : List Oper) (i : Nat), tOkRow ops bj y i r = true → ∀ (k : Nat) x, r[k]? = some x → touch ops x y = true → bj.testBit (i + k) = true
  | [], _, _, k, x, hx, _ => by simp at hx
  | z :: r, i, h, 0, x, hx, ht => by
    simp at hx; subst hx
    simp only [tOkRow, Bool.and_eq_true, ht] at h
    simpa using h.1
  | z :: r, i, h, k + 1, x, hx, ht => by
    simp only [tOkRow, Bool.and_eq_true] at h
    have := tOkRow_at r (i + 1) h.2 k x (by simpa using hx) ht
    rwa [show i + 1 + k = i + (k + 1) by omega] at this
theorem tOkGo_at {ops : Array Oper} {bits : List Nat} : ∀ (r pre : List Oper) (j : Nat), pre.length = j → tOkGo ops bits pre r j = true → ∀ (i k : Nat) x y, i < j + k → (pre ++ r)[i]? = some x → r[k]? = some y → touch ops x y = true → ((nth bits (j + k)).getD 0).testBit i = true
  | [], _, _, _, _, i, k, x, y, _, _, hy, _ => by simp at hy
  | z :: r, pre, j, hl, h, i, 0, x, y, hik, hx, hy, ht => by
    simp at hy; subst hy
    simp only [tOkGo, Bool.and_eq_true] at h
    rw [List.getElem?_append_left (by omega)] at hx
    have := tOkRow_at pre 0 h.1 i x hx ht
    simpa using this
  | z :: r, pre, j, hl, h, i, k + 1, x, y, hik, hx, hy, ht => by
    simp only [tOkGo, Bool.and_eq_true] at h
    have := tOkGo_at r (pre ++ [z]) (j + 1) (by simp [hl]) h.2 i k x y (by omega) (by simpa using hx) (by simpa using hy) ht
    rwa [show j + 1 + k = j + (k + 1) by omega] at this
theorem touch_at {ops : Array Oper} (h : tOkGo ops (bitsGo ops.toList []) [] ops.toList 0 = true) {i j : Nat} {x y : Oper} (hij : i < j) (hx : ops[i]? = some x) (hy : ops[j]? = some y) (ht : touch ops x y = true) : bitOf ops j i = true := by
  have := tOkGo_at ops.toList [] 0 rfl h i j x y (by omega) (by simpa using hx) (by simpa using hy) ht
  simpa [bitOf] using this

section
variable {P : Program} {ty : Nat → TI} {T : Nat → List DV → List DV → Prop} {C : Ctx} {S : AS} {ρ : Nat → Value} {a : Act} {w : World}

theorem yielded_of (g : Gam C S ρ a w) {ops : Array Oper} {j d : Nat} {oj : Oper} {b : Bool} (h1 : ops[j]? = some oj) (h2 : oj.dst = some d) (h3 : S.t d = .v (.one (.sc (.bool b)))) : yielded ops a.tmps j = some b := by
  have hx := g.slots d
  rw [h3] at hx
  have e1 : a.tmps.getD d undef = .bool b := RD.sc_inv hx
  have hq : a.tmps[d]? = some (.bool b) := by
    rw [Array.getD_eq_getD_getElem?] at e1
    cases hq : a.tmps[d]? with
    | none => rw [hq] at e1; simp [undef] at e1
    | some v => rw [hq] at e1; simp at e1; rw [e1]
  simp [yielded, h1, h2, hq]
theorem yielded_none (g : Gam C S ρ a w) {ops : Array Oper} {j d : Nat} {oj : Oper} (h1 : ops[j]? = some oj) (h2 : oj.dst = some d) (h3 : S.t d = .tp []) : yielded ops a.tmps j = none := by
  have hx := g.slots d
  rw [h3] at hx
  obtain ⟨vs, e1, hv⟩ := hx
  have : vs = [] := by cases vs with | nil => rfl | cons _ _ => exact hv.elim
  subst this
  rw [Array.getD_eq_getD_getElem?] at e1
  cases hq : a.tmps[d]? with
  | none => simp [yielded, h1, h2, hq]
  | some v => rw [hq] at e1; simp at e1; simp [yielded, h1, h2, hq, e1]
/-- Is it wanted? As the model says; and so in every state that agrees. -/
theorem awant_ok {ops : Array Oper} {o : Oper} {K : Bool → Prop} (h : awant ops S o K) : ∃ b, K b ∧ ∀ (S' : AS) (ρ : Nat → Value) (a : Act) (w : World), (∀ k ∈ readsT ops o, S'.t k = S.t k) → Gam C S' ρ a w → Region.wanted o (yielded ops a.tmps) = b := by
  unfold awant at h
  split at h
  · rename_i hg
    exact ⟨true, h, fun S' ρ a w _ g => by simp [Region.wanted, hg]⟩
  · rename_i j wnt hg
    split at h
    · rename_i oj hoj
      split at h
      · rename_i d hd
        split at h
        · rename_i b hb
          have key : ∀ (S' : AS) (ρ : Nat → Value) (a : Act) (w : World), (∀ k ∈ readsT ops o, S'.t k = S.t k) → Gam C S' ρ a w → yielded ops a.tmps j = some b := fun S' ρ a w hS g => by
            have hmem : d ∈ readsT ops o := by simp [readsT, hg, hoj, hd]
            exact yielded_of g (by rw [nth_eq] at hoj; simpa using hoj) hd (by rw [hS d hmem]; exact hb)
          split at h
          · exact ⟨true, h, fun S' ρ a w hS g => by simp [Region.wanted, hg, key S' ρ a w hS g]⟩
          · exact ⟨true, h, fun S' ρ a w hS g => by simp [Region.wanted, hg, key S' ρ a w hS g]⟩
          · exact ⟨false, h, fun S' ρ a w hS g => by simp [Region.wanted, hg, key S' ρ a w hS g]⟩
          · exact ⟨false, h, fun S' ρ a w hS g => by simp [Region.wanted, hg, key S' ρ a w hS g]⟩
        · rename_i hb
          refine ⟨false, h, fun S' ρ a w hS g => ?_⟩
          have hmem : d ∈ readsT ops o := by simp [readsT, hg, hoj, hd]
          have := yielded_none g (j := j) (by rw [nth_eq] at hoj; simpa using hoj) hd (by rw [hS d hmem]; exact hb)
          simp [Region.wanted, hg, this]
        · exact h.elim
      · exact h.elim
    · exact h.elim

/-- One step of the text's order: what it does, there and in every state that agrees. -/
structure StepOk (P : Program) (ty : Nat → TI) (C : Ctx) (ops : Array Oper) (S : AS) (o : Oper) (E : Eff) : Prop where
  go : ∀ (S' : AS) (ρ : Nat → Value) (a : Act) (w : World), (∀ k ∈ readsT ops o, S'.t k = S.t k) → (∀ s ∈ E.rd ++ E.bl.map (·.1), S'.b s = S.b s) → Gam C S' ρ a w →
    ∀ (i : Nat) (K : Act → World → Prop) (Q : Exit → Act → World → Prop), ops[i]? = some o → (∀ ρ' a' w', Gam C (S'.app o.dst E) ρ' a' w' → K a' w') → wpOp P ops Q i K a w
theorem stepOk_of (hW : World1 P ty T) {ops : Array Oper} {o : Oper} (hd : ∀ d, o.dst = some d → d < C.N) {draw : Bool} {r : List Oper} {i : Nat} {l : List Fp} {K : AS → Prop}
    (h : areg (real T) ty ops draw (o :: r) i l S K) : ∃ E, StepOk P ty C ops S o E ∧ areg (real T) ty ops draw r (i + 1) (addFp i E l) (S.app o.dst E) K := by
  simp only [areg] at h
  obtain ⟨b, h, hb⟩ := awant_ok (C := C) h
  cases b with
  | true =>
    obtain ⟨E, h, hsp⟩ := aop_split h
    refine ⟨E, ⟨fun S' ρ a w h1 h2 g i K Q ho hK => ?_⟩, h⟩
    have hop := hsp S' (fun k hk => h1 k (by simp only [readsT]; exact List.mem_append.2 (.inl (List.mem_flatMap.2 ⟨_, by simpa using hk, by simp [opNames]⟩)))) h2
    obtain ⟨E', rfl, hf⟩ := aop_ok hW g hd hop
    unfold wpOp
    rw [ho]
    simp only [hb S' ρ a w h1 g, if_true]
    exact .inl (hf K Q hK)
  | false =>
    refine ⟨⟨.tp [], [], []⟩, ⟨fun S' ρ a w h1 h2 g i K Q ho hK => ?_⟩, by simpa [addFp] using h⟩
    unfold wpOp
    rw [ho]
    simp only [hb S' ρ a w h1 g]
    exact hK ρ _ w (g.put hd ⟨[], rfl, trivial⟩)

/-- A region in the text's order. -/
theorem areg_text (hW : World1 P ty T) {ops : Array Oper} (hok : edgesOk ops C.N ops.toList 0 = true) {Q : Exit → Act → World → Prop} {K : AS → Prop} (hQ : ∀ S' ρ' a' w', K S' → Gam C S' ρ' a' w' → Q .normal a' w') :
    ∀ (r : List Oper) (i : Nat) (l : List Fp) (S : AS) (ρ : Nat → Value) (a : Act) (w : World), ops.toList.drop i = r → areg (real T) ty ops false r i l S K → Gam C S ρ a w → wpOps P ops Q (List.range' i r.length) a w
  | [], i, l, S, ρ, a, w, _, h, g => hQ S ρ a w h g
  | o :: r, i, l, S, ρ, a, w, hr, h, g => by
    have hi : ops[i]? = some o := by
      have : (ops.toList.drop i)[0]? = some o := by rw [hr]; rfl
      rw [List.getElem?_drop] at this
      simpa using this
    have hd := (edgesOk_at ops.toList 0 hok i o (by simpa using hi)).2
    obtain ⟨E, hs, h⟩ := stepOk_of hW hd h
    rw [List.length_cons, List.range'_succ, wpOps_cons]
    refine hs.go S ρ a w (fun _ _ => rfl) (fun _ _ => rfl) g i _ Q hi fun ρ' a' w' g' => ?_
    refine areg_text hW hok hQ r (i + 1) _ _ ρ' a' w' ?_ h g'
    have := congrArg List.tail hr
    rwa [List.tail_drop] at this

/-- The trace of the text's order. -/
theorem areg_trace (hW : World1 P ty T) {ops : Array Oper} (hok : edgesOk ops C.N ops.toList 0 = true) {K : AS → Prop} (S0 : AS) :
    ∀ (r : List Oper) (i : Nat) (l : List Fp) (st : Nat → Stp), ops.toList.drop i = r → areg (real T) ty ops true r i l (M st S0 i fun _ => true) K →
    (∀ j, j < i → ∃ o, ops[j]? = some o ∧ (st j).1 = o.dst ∧ StepOk P ty C ops (M st S0 j fun _ => true) o (st j).2) →
    (∀ q ∈ l, q.1 < i ∧ q.2.1 = (st q.1).2.rd ∧ q.2.2 = (st q.1).2.bl.map (·.1)) → (∀ j, j < i → ((st j).2.rd ≠ [] ∨ (st j).2.bl ≠ []) → ∃ q ∈ l, q.1 = j) → l.Pairwise (fun p q => q.1 < p.1) →
    ∃ (st' : Nat → Stp) (l' : List Fp), (∀ j, j < ops.size → ∃ o, ops[j]? = some o ∧ (st' j).1 = o.dst ∧ StepOk P ty C ops (M st' S0 j fun _ => true) o (st' j).2) ∧
      (∀ q ∈ l', q.1 < ops.size ∧ q.2.1 = (st' q.1).2.rd ∧ q.2.2 = (st' q.1).2.bl.map (·.1)) ∧ (∀ j, j < ops.size → ((st' j).2.rd ≠ [] ∨ (st' j).2.bl ≠ []) → ∃ q ∈ l', q.1 = j) ∧
      l'.Pairwise (fun p q => q.1 < p.1) ∧ safe (bitsGo ops.toList []) l' = true ∧ K (M st' S0 ops.size fun _ => true)
  | [], i, l, st, hr, h, h1, h2, h3, h0 => by
    have hi : ops.size ≤ i := by simpa using hr
    simp only [areg] at h
    obtain ⟨hs, h⟩ := h
    have hcut : ∀ n, n ≤ i → ops.size ≤ n → n = ops.size → True := fun _ _ _ _ => trivial
    by_cases he : i = ops.size
    · subst he
      exact ⟨st, l, h1, h2, h3, h0, hs, h⟩
    · obtain ⟨o, ho, _⟩ := h1 ops.size (by omega)
      simp at ho
  | o :: r, i, l, st, hr, h, h1, h2, h3, h0 => by
    have hi : ops[i]? = some o := by
      have : (ops.toList.drop i)[0]? = some o := by rw [hr]; rfl
      rw [List.getElem?_drop] at this
      simpa using this
    have hd := (edgesOk_at ops.toList 0 hok i o (by simpa using hi)).2
    obtain ⟨E, hs, h⟩ := stepOk_of hW hd h
    -- the new step, at its place
    let st2 : Nat → Stp := fun j => if j = i then (o.dst, E) else st j
    have hst : ∀ j, j ≠ i → st2 j = st j := fun j hj => by simp only [st2]; rw [if_neg hj]
    have hM : ∀ n, n ≤ i → M st2 S0 n (fun _ => true) = M st S0 n (fun _ => true) := by
      intro n
      induction n with
      | zero => intro _; rfl
      | succ n ih => intro hn; simp only [M]; rw [ih (by omega), hst n (by omega)]
    have hMi : M st2 S0 (i + 1) (fun _ => true) = (M st S0 i fun _ => true).app o.dst E := by
      simp only [M]
      rw [hM i (Nat.le_refl _)]
      simp [st2]
    refine areg_trace hW hok S0 r (i + 1) (addFp i E l) st2 ?_ (by rw [hMi]; exact h) (fun j hj => ?_) (fun q hq => ?_) (fun j hj hne => ?_) ?_
    · have := congrArg List.tail hr
      rwa [List.tail_drop] at this
    · by_cases hji : j = i
      · subst hji
        refine ⟨o, hi, by simp [st2], ?_⟩
        rw [hM j (Nat.le_refl _)]
        simpa [st2] using hs
      · obtain ⟨o', h4, h5, h6⟩ := h1 j (by omega)
        refine ⟨o', h4, by rw [hst j hji]; exact h5, ?_⟩
        rw [hM j (by omega), hst j hji]
        exact h6
    · unfold addFp at hq
      split at hq
      · obtain ⟨a1, a2, a3⟩ := h2 q hq
        exact ⟨by omega, by rw [hst _ (by omega)]; exact a2, by rw [hst _ (by omega)]; exact a3⟩
      · rcases List.mem_cons.1 hq with rfl | hq
        · simp [st2]
        · obtain ⟨a1, a2, a3⟩ := h2 q hq
          exact ⟨by omega, by rw [hst _ (by omega)]; exact a2, by rw [hst _ (by omega)]; exact a3⟩
    · by_cases hji : j = i
      · subst hji
        simp only [st2, if_true] at hne
        unfold addFp
        split
        · rename_i e1 e2; simp [e1, e2] at hne
        · exact ⟨_, List.mem_cons_self, rfl⟩
      · rw [hst j hji] at hne
        obtain ⟨q, hq, h4⟩ := h3 j (by omega) hne
        unfold addFp
        split
        · exact ⟨q, hq, h4⟩
        · exact ⟨q, List.mem_cons_of_mem _ hq, h4⟩
    · unfold addFp
      split
      · exact h0
      · exact List.pairwise_cons.2 ⟨fun q hq => (h2 q hq).1, h0⟩

theorem disj_spec : ∀ {l l' : List Nat}, disj l l' = true → ∀ s, s ∈ l → s ∈ l' → False
  | [], _, _, s, h, _ => by cases h
  | x :: l, l', h, s, h1, h2 => by
    simp only [disj, Bool.and_eq_true] at h
    rcases List.mem_cons.1 h1 with rfl | h1
    · have : (l'.any fun b => Nat.beq s b) = true := List.any_eq_true.2 ⟨s, h2, Nat.beq_refl _⟩
      rw [this] at h
      simp at h
    · exact disj_spec h.2 s h1 h2
theorem safe1_at {bits : List Nat} {i : Nat} {r wr : List Nat} : ∀ {l : List Fp}, safe1 bits i r wr l = true → ∀ q ∈ l, (disj wr q.2.1 = true ∧ disj wr q.2.2 = true ∧ disj r q.2.2 = true) ∨ ((nth bits i).getD 0).testBit q.1 = true
  | [], _, q, h => by cases h
  | (j, r', w') :: l, h, q, hq => by
    simp only [safe1, Bool.and_eq_true, Bool.or_eq_true] at h
    rcases List.mem_cons.1 hq with rfl | hq
    · rcases h.1 with h1 | h1
      · exact .inl ⟨h1.1.1, h1.1.2, h1.2⟩
      · exact .inr h1
    · exact safe1_at h.2 q hq
/-- Two that touch one block are in order. -/
theorem safe_at {bits : List Nat} : ∀ {l : List Fp}, safe bits l = true → l.Pairwise (fun p q => q.1 < p.1) → ∀ p ∈ l, ∀ q ∈ l, q.1 < p.1 →
    (disj p.2.2 q.2.1 = true ∧ disj p.2.2 q.2.2 = true ∧ disj p.2.1 q.2.2 = true) ∨ ((nth bits p.1).getD 0).testBit q.1 = true
  | [], _, _, p, hp, _, _, _ => by cases hp
  | (i, r, wr) :: l, h, hpw, p, hp, q, hq, hlt => by
    simp only [safe, Bool.and_eq_true] at h
    obtain ⟨h1, h2⟩ := List.pairwise_cons.1 hpw
    rcases List.mem_cons.1 hp with rfl | hp
    · rcases List.mem_cons.1 hq with rfl | hq
      · exact absurd hlt (Nat.lt_irrefl _)
      · exact safe1_at h.1 q hq
    · rcases List.mem_cons.1 hq with rfl | hq
      · have := h1 p hp
        simp only at this hlt
        omega
      · exact safe_at h.2 h2 p hp q hq hlt

/-- How many have not come up. -/
def unl (n : Nat) (listed : Array Bool) : Nat := (List.range n).countP fun j => !listed.getD j true
theorem unl_set {n i : Nat} {listed : Array Bool} (hi : i < n) (hs : listed.size = n) (h : listed.getD i true = false) : unl n (listed.setIfInBounds i true) < unl n listed := by
  have gen : ∀ (l : List Nat), l.countP (fun j => !(listed.setIfInBounds i true).getD j true) ≤ l.countP (fun j => !listed.getD j true) ∧ (i ∈ l → l.countP (fun j => !(listed.setIfInBounds i true).getD j true) < l.countP (fun j => !listed.getD j true)) := by
    intro l
    induction l with
    | nil => exact ⟨Nat.le_refl _, fun h => by cases h⟩
    | cons x l ih =>
      simp only [List.countP_cons]
      have hx : ∀ x, (listed.setIfInBounds i true).getD x true = if x = i then true else listed.getD x true := fun x => by
        simp only [Array.getD_eq_getD_getElem?, Array.getElem?_setIfInBounds]
        by_cases hxi : x = i
        · subst hxi; simp [hs, hi]
        · simp [hxi, Ne.symm hxi]
      rw [hx]
      by_cases hxi : x = i
      · subst hxi
        simp only [if_true, h]
        have := ih.1
        refine ⟨?_, fun _ => ?_⟩ <;> simp only [Bool.not_true, Bool.not_false, if_true, Bool.false_eq_true, if_false] <;> omega
      · rw [if_neg hxi]
        refine ⟨by omega, fun hm => ?_⟩
        have := ih.2 (by rcases List.mem_cons.1 hm with h1 | h1; exact absurd h1.symm hxi; exact h1)
        omega
  exact (gen _).2 (List.mem_range.2 hi)
theorem ready_all {ops : Array Oper} {N : Nat} (hok : edgesOk ops N ops.toList 0 = true) {listed : Array Bool} (hs : listed.size = ops.size) (hr : Region.ready .any ops listed = []) : ∀ j, j < ops.size → listed.getD j false = true := by
  intro j
  induction j using Nat.strongRecOn with
  | _ j ih =>
    intro hj
    cases hq : listed.getD j false with
    | true => rfl
    | false =>
      exfalso
      have hmem : j ∈ Region.ready .any ops listed := by
        refine mem_ready.2 ⟨?_, ops[j], Array.getElem?_eq_getElem hj, fun e he hb => ?_⟩
        · simp only [Array.getD_eq_getD_getElem?] at hq ⊢
          have : j < listed.size := by omega
          simp [this] at hq ⊢
          exact hq
        · have hlt := (edgesOk_at ops.toList 0 hok j ops[j] (by simp [hj])).1 e he hb
          exact ih e.on (by omega) (by omega)
      rw [hr] at hmem
      cases hmem

theorem areg_any (hW : World1 P ty T) {ops : Array Oper} (hok : edgesOk ops C.N ops.toList 0 = true) (htok : tOkGo ops (bitsGo ops.toList []) [] ops.toList 0 = true) {Q : Exit → Act → World → Prop} {K : AS → Prop}
    (hQ : ∀ S' ρ' a' w', K S' → Gam C S' ρ' a' w' → Q .normal a' w') {S0 : AS} (h : areg (real T) ty ops true ops.toList 0 [] S0 K) (g0 : Gam C S0 ρ a w) :
    wpAny P .any ops Q ops.size (Array.replicate ops.size false) a w := by
  obtain ⟨st, l, hst, hl1, hl2, hpw, hsafe, hK⟩ := areg_trace hW hok S0 ops.toList 0 [] (fun _ => (none, ⟨.u, [], []⟩)) rfl h (fun j hj => by omega) (fun q hq => by cases hq) (fun j hj => by omega) List.Pairwise.nil
  -- whoever touches the same is in order
  have ordT : ∀ i j oi oj, i < j → ops[i]? = some oi → ops[j]? = some oj → touch ops oi oj = true → bitOf ops j i = true := fun i j oi oj hij h1 h2 h3 => touch_at htok hij h1 h2 h3
  have ordB : ∀ i j s, i < j → j < ops.size → ((s ∈ (st i).2.rd ++ (st i).2.bl.map (·.1) ∧ wrB (st j) s) ∨ (s ∈ (st j).2.rd ++ (st j).2.bl.map (·.1) ∧ wrB (st i) s)) → bitOf ops j i = true := by
    intro i j s hij hj hc
    have hne : ∀ k, s ∈ (st k).2.rd ++ (st k).2.bl.map (·.1) → ((st k).2.rd ≠ [] ∨ (st k).2.bl ≠ []) := fun k hk => by
      rcases List.mem_append.1 hk with hk | hk
      · exact .inl (List.ne_nil_of_mem hk)
      · refine .inr ?_
        intro he
        rw [he] at hk
        cases hk
    have hi' : (st i).2.rd ≠ [] ∨ (st i).2.bl ≠ [] := by
      rcases hc with ⟨h1, _⟩ | ⟨_, h2⟩
      · exact hne i h1
      · exact hne i (List.mem_append.2 (.inr h2))
    have hj' : (st j).2.rd ≠ [] ∨ (st j).2.bl ≠ [] := by
      rcases hc with ⟨_, h2⟩ | ⟨h1, _⟩
      · exact hne j (List.mem_append.2 (.inr h2))
      · exact hne j h1
    obtain ⟨q, hq, hqi⟩ := hl2 i (by omega) hi'
    obtain ⟨p, hp, hpj⟩ := hl2 j hj hj'
    have hb := safe_at hsafe hpw p hp q hq (by omega)
    rw [hpj, hqi] at hb
    rcases hb with ⟨d1, d2, d3⟩ | hb
    · exfalso
      obtain ⟨_, p1, p2⟩ := hl1 p hp
      obtain ⟨_, q1, q2⟩ := hl1 q hq
      rw [hpj] at p1 p2
      rw [hqi] at q1 q2
      rw [p2, q1] at d1
      rw [p2, q2] at d2
      rw [p1, q2] at d3
      rcases hc with ⟨h1, h2⟩ | ⟨h1, h2⟩
      · rcases List.mem_append.1 h1 with h1 | h1
        · exact disj_spec d1 s h2 h1
        · exact disj_spec d2 s h2 h1
      · rcases List.mem_append.1 h1 with h1 | h1
        · exact disj_spec d3 s h1 h2
        · exact disj_spec d2 s h1 h2
    · exact hb
  have main : ∀ (fuel : Nat) (listed : Array Bool) (ρ : Nat → Value) (a : Act) (w : World), listed.size = ops.size → unl ops.size listed ≤ fuel →
      (∀ j o, ops[j]? = some o → listed.getD j false = true → ∀ e ∈ o.after, Region.binds .any e = true → listed.getD e.on false = true) →
      Gam C (M st S0 ops.size fun j => listed.getD j false) ρ a w → wpAny P .any ops Q fuel listed a w := by
    intro fuel
    induction fuel with
    | zero =>
      intro listed ρ a w hs hu hcl g
      have hnone : ∀ j, j < ops.size → listed.getD j true = true := fun j hj => by
        have h0 : unl ops.size listed = 0 := by omega
        unfold unl at h0
        rw [List.countP_eq_zero] at h0
        have := h0 j (List.mem_range.2 hj)
        simpa using this
      have hr : Region.ready .any ops listed = [] := by
        apply List.eq_nil_iff_forall_not_mem.2
        intro i hi
        obtain ⟨h1, o, h2, _⟩ := mem_ready.1 hi
        have := hnone i (Array.getElem?_eq_some_iff.1 h2).1
        rw [h1] at this
        cases this
      refine ⟨hr, hQ _ ρ a w hK ?_⟩
      rw [M_congr ops.size _ (fun j => listed.getD j false) (fun j hj => (ready_all hok hs hr j hj).symm)]
      exact g
    | succ fuel ih =>
      intro listed ρ a w hs hu hcl g
      refine ⟨fun hr => hQ _ ρ a w hK (by rw [M_congr ops.size _ (fun j => listed.getD j false) (fun j hj => (ready_all hok hs hr j hj).symm)]; exact g), fun i hi => ?_⟩
      obtain ⟨h1, o, h2, h3⟩ := mem_ready.1 hi
      have hin : i < ops.size := (Array.getElem?_eq_some_iff.1 h2).1
      have hLi : listed.getD i false = false := by
        simp only [Array.getD_eq_getD_getElem?] at h1 ⊢
        have : i < listed.size := by omega
        simp [this] at h1 ⊢
        exact h1
      have early : ∀ j, bitOf ops i j = true → listed.getD j false = true := fun j hb => bit_listed (L := fun j => listed.getD j false) hcl j i o h2 h3 hb
      have late : ∀ j, j < ops.size → bitOf ops j i = true → listed.getD j false = false := fun j hj hb => by
        cases hq : listed.getD j false with
        | false => rfl
        | true =>
          have : listed.getD i false = true := bit_listed (L := fun j => listed.getD j false) hcl i j ops[j] (Array.getElem?_eq_getElem hj) (hcl j _ (Array.getElem?_eq_getElem hj) hq) hb
          rw [hLi] at this
          cases this
      obtain ⟨o', ho', hdst, hstep⟩ := hst i hin
      have : o' = o := Option.some.inj (ho'.symm.trans h2)
      subst this
      have hdstj : ∀ j, j < ops.size → ∃ oj, ops[j]? = some oj ∧ (st j).1 = oj.dst := fun j hj => by obtain ⟨oj, a1, a2, _⟩ := hst j hj; exact ⟨oj, a1, a2⟩
      refine hstep.go (M st S0 ops.size fun j => listed.getD j false) ρ a w (fun k hk => ?_) (fun s hs' => ?_) g i _ Q h2 fun ρ' a' w' g' => ?_
      · refine M_t ops.size i _ _ (by omega) (fun j hj hw => ?_) (fun j hj hjn hw => ?_)
        · obtain ⟨oj, a1, a2⟩ := hdstj j (by omega)
          have a3 : oj.dst = some k := by rw [← a2]; exact hw
          exact early j (ordT j i oj o' hj a1 h2 (by simp [touch, a3, memN_iff.2 hk]))
        · by_cases hji : j = i
          · subst hji; exact hLi
          · obtain ⟨oj, a1, a2⟩ := hdstj j hjn
            have a3 : oj.dst = some k := by rw [← a2]; exact hw
            exact late j hjn (ordT i j o' oj (by omega) h2 a1 (by simp [touch, a3, memN_iff.2 hk]))
      · refine M_b ops.size i _ _ (by omega) (fun j hj hw => ?_) (fun j hj hjn hw => ?_)
        · exact early j (ordB j i s hj hin (.inr ⟨hs', hw⟩))
        · by_cases hji : j = i
          · subst hji; exact hLi
          · exact late j hjn (ordB i j s (by omega) hjn (.inl ⟨hs', hw⟩))
      · refine ih (listed.setIfInBounds i true) ρ' a' w' (by simpa using hs) ?_ ?_ ?_
        · have := unl_set hin hs h1
          omega
        · intro j oj hoj hj e he hb
          by_cases hji : j = i
          · subst hji
            have : oj = o' := Option.some.inj (hoj.symm.trans h2)
            subst this
            exact getD_set_true (h3 e he hb)
          · rw [getD_set_ne false (Ne.symm hji)] at hj
            exact getD_set_true (hcl j oj hoj hj e he hb)
        · have hins : M st S0 ops.size (fun j => (listed.setIfInBounds i true).getD j false) = M st S0 ops.size (ins (fun j => listed.getD j false) i) := M_congr _ _ _ fun j hj => by
            simp only [ins, Array.getD_eq_getD_getElem?, Array.getElem?_setIfInBounds]
            by_cases hji : j = i
            · subst hji; simp [hs, hin]
            · simp [hji, Ne.symm hji]
          rw [hins, M_ins _ hLi ops.size hin (fun j hij hjn hLj => ?_)]
          · rw [hdst]; exact g'
          · obtain ⟨oj, a1, a2⟩ := hdstj j hjn
            refine ⟨fun k hk hk' => ?_, fun s hs1 hs2 => ?_⟩
            · have b1 : o'.dst = some k := by rw [← hdst]; exact hk
              have b2 : oj.dst = some k := by rw [← a2]; exact hk'
              have := late j hjn (ordT i j o' oj hij h2 a1 (by simp [touch, b1, b2]))
              rw [this] at hLj
              cases hLj
            · have := late j hjn (ordB i j s hij hjn (.inl ⟨List.mem_append.2 (.inr hs1), hs2⟩))
              rw [this] at hLj
              cases hLj
  refine main ops.size _ ρ a w (by simp) ?_ (fun j o ho hj => ?_) ?_
  · unfold unl
    have := List.countP_le_length (p := fun j => !(Array.replicate ops.size false).getD j true) (l := List.range ops.size)
    simpa using this
  · simp only [Array.getD_eq_getD_getElem?, Array.getElem?_replicate] at hj
    split at hj <;> simp at hj
  · have : M st S0 ops.size (fun j => (Array.replicate ops.size false).getD j false) = S0 := by
      have : ∀ n, M st S0 n (fun j => (Array.replicate ops.size false).getD j false) = S0 := by
        intro n
        induction n with
        | zero => rfl
        | succ n ih =>
          have : (Array.replicate ops.size false).getD n false = false := by
            simp only [Array.getD_eq_getD_getElem?, Array.getElem?_replicate]
            split <;> rfl
          simp only [M, this]
          exact ih
      exact this _
    rw [this]
    exact g0
end
end Go.Proofs.YtpmlocilhhjifaaGreat.Eng
end
section
set_option linter.unusedSimpArgs false
set_option linter.unusedVariables false
namespace Go.Proofs.YtpmlocilhhjifaaGreat.Eng
open Go.RowKit
section
variable {P : Program} {ty : Nat → TI} {T : Nat → List DV → List DV → Prop} {C : Ctx} {S : AS} {ρ : Nat → Value} {a : Act} {w : World}

theorem Wk.gam {L : AL} (h : Wk S L) (g : Gam C S ρ a w) : ∃ ρ', Gam C L.as ρ' a w := by
  obtain ⟨ren, hinj, hB, hT⟩ := h
  let ρ' : Nat → Value := fun s => match ren s with | some r => ρ r | none => .slice none 0 0
  have hρ : ∀ s r, ren s = some r → ρ' s = ρ r := fun s r h => by simp only [ρ', h]
  have hρn : ∀ s, ren s = none → ρ' s = .slice none 0 0 := fun s h => by simp only [ρ', h]
  -- what lives here lived there
  have hlive : ∀ s k, (L.as.b s).live → blkOf (ρ' s) = some k → ∃ r, ren s = some r ∧ (S.b r).live ∧ blkOf (ρ r) = some k := by
    intro s k hl hk
    have hb := hB s
    simp only [AL.as] at hl
    cases hbe : lkb L.b s with
    | no => rw [hbe] at hl; exact hl.elim
    | dead => rw [hbe] at hl; exact hl.elim
    | bx cs =>
      rw [hbe] at hb
      obtain ⟨r, h1, h2⟩ := hb
      exact ⟨r, h1, by rw [h2]; trivial, by rw [← hρ s r h1]; exact hk⟩
    | ar e es xs =>
      rw [hbe] at hb
      rcases hb with ⟨r, h1, h2⟩ | ⟨h1, _⟩
      · exact ⟨r, h1, by rw [h2]; trivial, by rw [← hρ s r h1]; exact hk⟩
      · rw [hρn s h1] at hk; cases hk
  have hok : ∀ t k, C.ok S.b ρ t k → C.ok L.as.b ρ' t k := fun t k h => ⟨h.1, fun ⟨s, h1, h2⟩ => by
    obtain ⟨r, _, h3, h4⟩ := hlive s k h1 h2
    exact h.2 ⟨r, h3, h4⟩⟩
  have hmono : ∀ t b, C.ok S.b ρ t b → b < w.heap.size → w.heap[b]? = w.heap[b]? ∧ C.ok L.as.b ρ' t b := fun t b h _ => ⟨rfl, hok t b h⟩
  refine ⟨ρ', ⟨g.size, g.defers, g.below, fun s => ?_, fun s s' k h1 h2 h3 h4 => ?_, fun k => ?_⟩⟩
  · have hb := hB s
    show BR C w (C.ok L.as.b ρ') (lkb L.b s) (ρ' s)
    cases hbe : lkb L.b s with
    | no => trivial
    | dead => trivial
    | bx cs =>
      rw [hbe] at hb
      obtain ⟨r, h1, h2⟩ := hb
      have := g.blocks r
      rw [h2] at this
      rw [hρ s r h1]
      exact this.mono (Nat.le_refl _) hmono (fun _ _ _ => rfl)
    | ar e es xs =>
      rw [hbe] at hb
      rcases hb with ⟨r, h1, h2⟩ | ⟨h1, rfl, h3⟩
      · have := g.blocks r
        rw [h2] at this
        rw [hρ s r h1]
        exact this.mono (Nat.le_refl _) hmono (fun _ _ _ => rfl)
      · rw [hρn s h1]
        exact ⟨h3, by simp, [], World.ownsRow_nil w C.n0 e es, trivial⟩
  · obtain ⟨r, a1, a2, a3⟩ := hlive s k h1 h3
    obtain ⟨r', b1, b2, b3⟩ := hlive s' k h2 h4
    have := g.apart r r' k a2 b2 a3 b3
    subst this
    have n1 : lkb L.b s ≠ .no := by intro e; simp only [AL.as, e] at h1; exact h1
    have n2 : lkb L.b s' ≠ .no := by intro e; simp only [AL.as, e] at h2; exact h2
    exact hinj s s' r a1 b1 n1 n2
  · have ht := hT k
    have hx := g.slots k
    show AR w (C.ok L.as.b ρ') L.as.b ρ' (lk L.t k) _
    cases hlk : lk L.t k with
    | u => trivial
    | v d =>
      rw [hlk] at ht
      rcases ht with ht | ⟨r, e, es, xs, h1, h2, rfl, h3⟩
      · have ht : S.t k = .v d := ht
        rw [ht] at hx
        exact RV.mono (Nat.le_refl _) hmono hx
      · rw [h1] at hx
        obtain ⟨_, hv⟩ := hx
        rw [hv]
        have hl : (S.b r).live := by rw [h2]; trivial
        have hb := g.blocks r
        rw [h2] at hb
        refine hb.data (fun t b hb _ => hok t b hb) (fun q hq => ⟨⟨.inr (g.lt hl hq).2, fun ⟨s, a1, a2⟩ => ?_⟩, (g.lt hl hq).1⟩)
        obtain ⟨r', b1, b2, b3⟩ := hlive s q a1 a2
        have := g.apart r r' q hl b2 hq b3
        subst this
        exact h3 s b1
    | tp ds =>
      rw [hlk] at ht
      have ht : S.t k = .tp ds := ht
      rw [ht] at hx
      obtain ⟨vs, e, h1⟩ := hx
      exact ⟨vs, e, h1.mono (Nat.le_refl _) hmono⟩
    | pd cs =>
      rw [hlk] at ht
      have ht : S.t k = .pd cs := ht
      rw [ht] at hx
      exact hx.mono (b' := L.as.b) (ρ' := ρ') (b := fun _ => .no) (ρ := ρ) (x := .pd cs) (Nat.le_refl _) hmono (fun s h => absurd rfl h)
    | p s es i off =>
      rw [hlk] at ht
      obtain ⟨r, h1, h2, h3⟩ := ht
      rw [h2] at hx
      obtain ⟨_, q, h4, h5⟩ := hx
      exact ⟨h3, q, by rw [hρ s r h1]; exact h4, h5⟩
    | ow s =>
      rw [hlk] at ht
      obtain ⟨h3, ⟨r, h1, h2⟩ | ⟨h1, sz, h2⟩⟩ := ht
      · rw [h2] at hx
        exact ⟨h3, by rw [hρ s r h1]; exact hx.2⟩
      · rw [h2] at hx
        refine ⟨h3, ?_⟩
        rw [hρn s h1]
        have hx' : RD w (C.ok S.b ρ) (.sl 3 sz []) (a.tmps.getD k undef) := hx
        generalize a.tmps.getD k undef = u at hx'
        cases hx' with
        | nil => rfl
        | sl _ _ _ _ _ _ ht => exact (ht rfl).elim

theorem acode_ok (hW : World1 P ty T) : ∀ (c : Code) {K : Exit → AS → Prop} {S : AS} {ρ : Nat → Value} {a : Act} {w : World}, codeOk C.N c = true → acode (real T) ty c K S → Gam C S ρ a w →
    c.wp P (fun e a' w' => ∃ S' ρ', K e S' ∧ Gam C S' ρ' a' w') a w := by
  intro c
  induction c with
  | skip => intro K S ρ a w _ h g; exact wp_skip ⟨S, ρ, h, g⟩
  | label l => intro K S ρ a w _ h g; exact wp_label ⟨S, ρ, h, g⟩
  | exit id => intro K S ρ a w _ h g; exact wp_exit ⟨S, ρ, h, g⟩
  | ret => intro K S ρ a w _ h g; exact wp_ret ⟨S, ρ, h, g⟩
  | region id ops draw =>
    intro K S ρ a w hok h g
    simp only [codeOk, regOk, Bool.and_eq_true] at hok
    simp only [acode] at h
    cases draw with
    | false =>
      refine wp_region ?_
      have := areg_text hW hok.1 (Q := fun e a' w' => ∃ S' ρ', K e S' ∧ Gam C S' ρ' a' w') (K := K .normal) (fun S' ρ' a' w' hk g' => ⟨S', ρ', hk, g'⟩) ops.toList 0 [] S ρ a w rfl h g
      rwa [← List.range_eq_range', Array.length_toList] at this
    | true =>
      refine wp_region_any hW.mixed ?_
      exact areg_any hW hok.1 (by simpa using hok.2) (K := K .normal) (fun S' ρ' a' w' hk g' => ⟨S', ρ', hk, g'⟩) h g.drew
  | seq x y ihx ihy =>
    intro K S ρ a w hok h g
    simp only [codeOk, Bool.and_eq_true] at hok
    simp only [acode] at h
    refine wp_seq (wp_mono (ihx hok.1 h g) fun e a' w' hh => ?_)
    obtain ⟨S', ρ', hk, g'⟩ := hh
    cases e with
    | normal => exact ihy hok.2 hk g'
    | _ => exact ⟨S', ρ', hk, g'⟩
  | cond c x y ihx ihy =>
    intro K S ρ a w hok h g
    simp only [codeOk, Bool.and_eq_true] at hok
    simp only [acode] at h
    have hc := ev_ok (ty := ty) g 4 c
    split at h
    · rename_i hce
      rw [hce] at hc
      exact wp_cond_true (RD.sc_inv hc) (ihx hok.1 h g)
    · rename_i hce
      rw [hce] at hc
      exact wp_cond_false (RD.sc_inv hc) (ihy hok.2 h g)
    · exact h.elim
  | block id x ih =>
    intro K S ρ a w hok h g
    simp only [codeOk] at hok
    simp only [acode] at h
    refine wp_block (wp_mono (ih hok h g) fun e a' w' hh => ?_)
    obtain ⟨S', ρ', hk, g'⟩ := hh
    cases e with
    | exit j =>
      simp only [Exit.inBlock]
      simp only at hk
      cases hj : Nat.beq j id with
      | true =>
        rw [hj] at hk
        have := Nat.eq_of_beq_eq_true hj
        subst this
        rw [if_pos rfl]
        exact ⟨S', ρ', hk, g'⟩
      | false =>
        rw [hj] at hk
        rw [if_neg (by rintro rfl; simp [Nat.beq_refl] at hj)]
        exact ⟨S', ρ', hk, g'⟩
    | _ => exact ⟨S', ρ', hk, g'⟩
  | loop x ih =>
    intro K S ρ a w hok h g
    simp only [codeOk] at hok
    obtain ⟨ι, I, m, i₀, hwk, hround⟩ := h
    have key : ∀ n i (ρ : Nat → Value) (a : Act) (w : World), m i < n → Gam C (I i).as ρ a w → Code.rounds P x (fun e a' w' => ∃ S' ρ', K e S' ∧ Gam C S' ρ' a' w') n a w := by
      intro n
      induction n with
      | zero => intro i ρ a w h; omega
      | succ n ihn =>
        intro i ρ a w hlt g
        rw [rounds_succ]
        refine wp_mono (ih hok (hround i) g) fun e a' w' hh => ?_
        obtain ⟨S', ρ', hk, g'⟩ := hh
        cases e with
        | normal =>
          obtain ⟨j, hj, hwk'⟩ := hk
          obtain ⟨ρ'', g''⟩ := hwk'.gam g'
          exact ihn j ρ'' a' w' (by omega) g''
        | _ => exact ⟨S', ρ', hk, g'⟩
    obtain ⟨ρ', g'⟩ := hwk.gam g
    exact wp_loop_rounds (m i₀ + 1) (key _ i₀ ρ' a w (by omega) g')
  | _ => intro K S ρ a w _ h _; exact h.elim

/-- A world of contracts as the abstract machine may lean on it. -/
structure Good (T : Nat → List DV → List DV → Prop) (π : Pi) : Prop where
  arith : ∀ op k a b K, (real T).arith op k a b K → π.arith op k a b K
  cmp : ∀ op a b K, (real T).cmp op a b K → π.cmp op a b K
  conv : ∀ k a K, (real T).conv k a K → π.conv k a K
  beq : ∀ n a b K, (real T).beq n a b K → π.beq n a b K
  call : ∀ f args K, (real T).call f args K → π.call f args K
  turn : ∀ f xs K, (real T).turn f xs K → π.turn f xs K
  get : ∀ xs i K, (real T).get xs i K → π.get xs i K
  getN : ∀ xs i K, (real T).getN xs i K → π.getN xs i K
  inb : ∀ xs i K, (real T).inb xs i K → π.inb xs i K
  put : ∀ xs i f K, (real T).put xs i f K → π.put xs i f K
  app : ∀ b s xs ys K, (real T).app b s xs ys K → π.app b s xs ys K
  len : ∀ xs K, (real T).len xs K → π.len xs K
  mks : ∀ b n c z K, (real T).mks b n c z K → π.mks b n c z K
  sli : ∀ xs l h K, (real T).sli xs l h K → π.sli xs l h K
  slen : ∀ s K, (real T).slen s K → π.slen s K
  sidx : ∀ s i K, (real T).sidx s i K → π.sidx s i K
  ssli : ∀ s l h K, (real T).ssli s l h K → π.ssli s l h K
  scat : ∀ a b K, (real T).scat a b K → π.scat a b K
  scmp : ∀ n a b K, (real T).scmp n a b K → π.scmp n a b K
  ofb : ∀ xs K, (real T).ofb xs K → π.ofb xs K
  chk : ∀ b K, (real T).chk b K → π.chk b K
  loop : ∀ F K S, (real T).loop F K S → π.loop F K S
theorem good_real : Good T (real T) := by constructor <;> intros <;> assumption

def resSem (tmps : Array Value) : ResultVar → Sem Value
  | .tmp t => pure (tmps.getD t undef)
  | .cell a t => do loadVar t (← asAddr (tmps.getD a undef))
theorem resOne_ok (hW : World1 P ty T) (g : Gam C S ρ a w) {x : ResultVar} {K : DV → Prop} (h : resOne ty S x K) : ∃ d v, K d ∧ (resSem a.tmps x).run P w = .ok v w ∧ RV w (fun t b => C.okx t b ∨ C.n0 ≤ b) d v := by
  cases x with
  | tmp t =>
    simp only [resOne] at h
    obtain ⟨d, k, r, h, g1, hd, _⟩ := gdv_ok g (g.slots t) h
    exact ⟨d, _, h, rfl, RV.mono (Nat.le_refl _) (fun t b hb _ => ⟨rfl, hb.1⟩) hd⟩
  | cell a' t =>
    simp only [resOne] at h
    have hx := g.slots a'
    split at h
    · rename_i s es i off hs
      rw [hs] at hx
      obtain ⟨_, k, hk, e1⟩ := hx
      have hb := g.blocks s
      split at h
      · rename_i cs hcs
        rw [hcs] at hb
        obtain ⟨b, arr, TT, e2, h1, h2, h3⟩ := hb
        rw [e2] at hk
        cases hk
        cases hc : (Nat.beq i 0 && Nat.beq off 0 && Nat.beq cs.length (ty t).size && (ty t).agg && Nat.ble 1 (ty t).size) with
        | false => rw [hc] at h; exact h.elim
        | true =>
          rw [hc] at h
          simp only [Bool.and_eq_true] at hc
          obtain ⟨⟨⟨⟨c1, c2⟩, c3⟩, c4⟩, c5⟩ := hc
          have c1 := Nat.eq_of_beq_eq_true c1
          have c2 := Nat.eq_of_beq_eq_true c2
          have c3 := Nat.eq_of_beq_eq_true c3
          subst c1
          subst c2
          have hlen := h3.length
          have ht := hW.types t (Nat.le_of_ble_eq_true c5)
          obtain ⟨v, h4, h5⟩ := run_loadVar_ok (P := P) (w := w) (ok := C.ok S.b ρ) ht (ad := ⟨b, 0, none⟩) rfl (cs := cs) c3 (fun j d hj => by
            obtain ⟨c, a1, a2⟩ := h3.get j d hj
            exact ⟨c, by rw [cell_of_row w b _ arr TT (0, 0) h2]; simpa using a1, a2⟩) (d := .ag cs) (by rw [c4]; rfl)
          refine ⟨_, v, h, ?_, RV.mono (Nat.le_refl _) (fun t b hb _ => ⟨rfl, hb.1⟩) h5⟩
          simp [resSem, e1, asAddr, h4]
      · exact h.elim
    · exact h.elim
theorem resAll_ok (hW : World1 P ty T) (g : Gam C S ρ a w) : ∀ (l : List ResultVar) {K : List DV → Prop}, resAll ty S l K → ∃ ds vs, K ds ∧ (l.mapM (resSem a.tmps)).run P w = .ok vs w ∧ RVs w (fun t b => C.okx t b ∨ C.n0 ≤ b) ds vs
  | [], K, h => ⟨[], [], h, rfl, trivial⟩
  | x :: l, K, h => by
    simp only [resAll] at h
    obtain ⟨d, v, h, h1, h2⟩ := resOne_ok hW g h
    obtain ⟨ds, vs, h, h3, h4⟩ := resAll_ok hW g l h
    refine ⟨d :: ds, v :: vs, h, ?_, h2, h4⟩
    rw [List.mapM_cons]
    simp only [Sem.run_bind, h1, Result.andThen, h3]
    rfl
theorem start_gam {okx : Nat → Nat → Prop} {w : World} {args : List DV} {vs : Array Value} {n : Nat} (hvs : RVs w (fun t b => okx t b ∨ w.heap.size ≤ b) args vs.toList) (hn : args.length ≤ n) :
    Gam ⟨w, okx, n⟩ (start args) (fun _ => .slice none 0 0) { tmps := vs ++ Array.replicate (n - vs.size) undef, defers := [] } w := by
  have hl := hvs.length
  have hno : ∀ k, ¬ Occ (start args).b (fun _ => .slice none 0 0) k := fun k ⟨s, h, _⟩ => h
  refine ⟨by simp at hl; simp; omega, rfl, Below.refl _ _, fun s => trivial, fun s s' k h => h.elim, fun k => ?_⟩
  have hat : ∀ (args : List DV) (vs : List Value) (k : Nat), RVs w (fun t b => okx t b ∨ w.heap.size ≤ b) args vs → (argT args k = .u) ∨ ∃ d v, argT args k = .v d ∧ vs[k]? = some v ∧ RV w (fun t b => okx t b ∨ w.heap.size ≤ b) d v := by
    intro args
    induction args with
    | nil => intro vs k _; exact .inl rfl
    | cons d args ih =>
      intro vs k h
      cases vs with
      | nil => exact h.elim
      | cons v vs =>
        cases k with
        | zero => exact .inr ⟨d, v, rfl, rfl, h.1⟩
        | succ k =>
          rcases ih vs k h.2 with h1 | ⟨d', v', h1, h2, h3⟩
          · exact .inl h1
          · exact .inr ⟨d', v', h1, by simpa using h2, h3⟩
  show AR w _ _ _ (argT args k) _
  rcases hat args vs.toList k hvs with h1 | ⟨d, v, h1, h2, h3⟩
  · rw [h1]; trivial
  · rw [h1]
    have h2' : vs[k]? = some v := by simpa using h2
    have hk : k < vs.size := (Array.getElem?_eq_some_iff.1 h2').1
    have : (vs ++ Array.replicate (n - vs.size) undef).getD k undef = v := by
      rw [Array.getD_eq_getD_getElem?, Array.getElem?_append_left hk, h2']
      rfl
    rw [this]
    exact RV.mono (Nat.le_refl _) (fun t b hb _ => ⟨rfl, hb, hno b⟩) h3
/-- The function's contract, out of its body. -/
theorem fn_ok (hW : World1 P ty T) {f : Nat} {fn : Func} (hf : P.funcs[f]? = some fn) {c : Code} (hb : fn.body = some c) {args rs : List DV} (hok : (codeOk fn.ntmps c && Nat.ble args.length fn.ntmps) = true)
    (h : ∀ π, Good T π → abody π ty fn args (fun rs' => SubVs rs' rs)) : CallOk P f args rs := by
  intro okx w vs hvs
  simp only [Bool.and_eq_true] at hok
  have hvs' := hvs.mono (w' := w) (Nat.le_refl _) (ok' := fun t b => okx t b ∨ w.heap.size ≤ b) (fun t b h _ => ⟨rfl, .inl h⟩)
  have hl := hvs.length
  have g := start_gam (n := fn.ntmps) hvs' (Nat.le_of_ble_eq_true hok.2)
  have hbody := h (real T) good_real
  unfold abody at hbody
  rw [hb] at hbody
  unfold abodyC at hbody
  refine calls_of_wp hf hb ?_
  refine wp_mono (acode_ok hW c hok.1 hbody g) ?_
  rintro e a' w' ⟨S', ρ', hk, g'⟩
  have fin : ∀ {K : List DV → Prop}, resAll ty S' fn.results.toList (fun rs' => SubVs rs' rs) → a'.defers = [] ∧ ∃ v, (results fn a'.tmps).run P w' = .ok v w' ∧ (∃ v', Ending.returned v = .returned v' ∧ Below w.heap.size w w' ∧
      ∃ us : List Value, RVs w' (fun t b => okx t b ∨ w.heap.size ≤ b) rs us ∧ v' = tupV us) := by
    intro K hr
    obtain ⟨ds, us, hsub, h1, h2⟩ := resAll_ok hW g' _ hr
    refine ⟨g'.defers, tupV us, ?_, _, rfl, g'.below, us, hsub.rv h2, rfl⟩
    have hres : results fn a'.tmps = (do let vs ← fn.results.mapM (resSem a'.tmps); pure (if h : vs.size = 1 then vs[0] else .tuple vs)) := by
      unfold results
      congr 1
    rw [hres, Array.mapM_eq_mapM_toList]
    simp only [Sem.run_bind, Sem.run_map, h1, Result.andThen]
    match us with
    | [] => rfl
    | [u] => rfl
    | u :: u' :: us => rfl
  cases e with
  | normal => exact fin (K := fun _ => True) hk
  | ret => exact fin (K := fun _ => True) hk
  | _ => exact hk.elim
end
end Go.Proofs.YtpmlocilhhjifaaGreat.Eng
end
section
set_option linter.unusedSimpArgs false
set_option linter.unusedVariables false
namespace Go.Proofs.YtpmlocilhhjifaaGreat.Eng
open Go.RowKit

def zInt : Int → Bool
  | .ofNat 0 => true
  | _ => false
theorem zInt_eq {n : Int} (h : zInt n = true) : n = 0 := by
  unfold zInt at h
  split at h
  · rfl
  · cases h
def zEq : D → Value → Bool
  | .sc (.int k n), .int k' n' => Nat.beq (kN k) (kN k') && zInt n && zInt n'
  | .sc (.bool false), .bool false => true
  | .sc (.string s), .string s' => Nat.beq s.size 0 && Nat.beq s'.size 0
  | .sc (.pointer none), .pointer none => true
  | .sc .nilFunc, .nilFunc => true
  | .sl _ _ [], .slice none 0 0 => true
  | _, _ => false
theorem size_zero {s s' : ByteArray} (h : s.size = 0) (h' : s'.size = 0) : s = s' := by
  cases s; cases s'
  simp [ByteArray.size] at h h'
  subst h h'
  rfl
theorem zEq_rd {w : World} {ok : Nat → Nat → Prop} {d : D} {v : Value} (h : zEq d v = true) : RD w ok d v := by
  unfold zEq at h
  split at h
  · simp only [Bool.and_eq_true] at h
    have h1 := kN_inj h.1.1
    have h2 := zInt_eq h.1.2
    have h3 := zInt_eq h.2
    subst h1 h2 h3
    exact .sc _ rfl
  · exact .sc _ rfl
  · simp only [Bool.and_eq_true] at h
    rw [size_zero (Nat.eq_of_beq_eq_true h.1) (Nat.eq_of_beq_eq_true h.2)]
    exact .sc _ rfl
  · exact .sc _ rfl
  · exact .sc _ rfl
  · exact .nil _ _
  · cases h
def zEqs : List D → List Value → Bool
  | [], [] => true
  | d :: ds, v :: vs => zEq d v && zEqs ds vs
  | _, _ => false
theorem zEqs_rd {w : World} {ok : Nat → Nat → Prop} : ∀ {ds : List D} {vs : List Value}, zEqs ds vs = true → RDs w ok ds vs
  | [], [], _ => trivial
  | _ :: _, _ :: _, h => by
    simp only [zEqs, Bool.and_eq_true] at h
    exact ⟨zEq_rd h.1, zEqs_rd h.2⟩
def isAggD : TypeDesc → Bool
  | .struct _ => true
  | .array _ _ => true
  | _ => false
def fieldsOk (ty : Nat → TI) : List Field → List (Nat × Nat × Nat) → Bool
  | [], [] => true
  | f :: F, q :: fs => Nat.beq f.offset q.1 && Nat.beq f.type q.2.2 && Nat.beq (ty q.2.2).size q.2.1 && Nat.ble 1 q.2.1 && fieldsOk ty F fs
  | _, _ => false
theorem fieldsOk_at {ty : Nat → TI} : ∀ {F : List Field} {fs : List (Nat × Nat × Nat)}, fieldsOk ty F fs = true → F.length = fs.length ∧ ∀ (j : Nat) f q, F[j]? = some f → fs[j]? = some q → f.offset = q.1 ∧ f.type = q.2.2 ∧ (ty q.2.2).size = q.2.1 ∧ 0 < q.2.1
  | [], [], _ => ⟨rfl, fun j f q h => by simp at h⟩
  | f :: F, q :: fs, h => by
    simp only [fieldsOk, Bool.and_eq_true] at h
    obtain ⟨h1, h2⟩ := fieldsOk_at h.2
    refine ⟨by simp [h1], fun j f' q' a b => ?_⟩
    cases j with
    | zero =>
      simp at a b
      subst a b
      exact ⟨Nat.eq_of_beq_eq_true h.1.1.1.1, Nat.eq_of_beq_eq_true h.1.1.1.2, Nat.eq_of_beq_eq_true h.1.1.2, Nat.le_of_ble_eq_true h.1.2⟩
    | succ j => exact h2 j f' q' (by simpa using a) (by simpa using b)
def zeroOk (ti : TI) : Value → Bool
  | .agg cs => ti.agg && zEqs ti.zero cs.toList
  | v => !ti.agg && zEqs ti.zero [v]
def kdOk (ty : Nat → TI) (t : Nat) : TypeDesc → Bool
  | .int k => match (ty t).kd with | .int k' => Nat.beq (kN k) (kN k') | .other => true | .ptr _ => true | _ => false
  | .bool => match (ty t).kd with | .bool => true | .other => true | .ptr _ => true | _ => false
  | .string => match (ty t).kd with | .str => true | .other => true | .ptr _ => true | _ => false
  | .slice e => match (ty t).kd with | .slc e' => Nat.beq e e' && Nat.ble 1 (ty e').size | .other => true | .ptr _ => true | _ => false
  | .struct F => match (ty t).kd with | .st fs => fieldsOk ty F.toList fs | .other => true | .ptr _ => true | _ => false
  | _ => match (ty t).kd with | .other => true | .ptr _ => true | _ => false
def tyChk (P : Program) (ty : Nat → TI) (t : Nat) : Bool :=
  match P.info? t, P.underlying t with
  | some i, some d => Nat.beq i.size (ty t).size && Nat.beq i.bytes (ty t).bytes && (match i.zero with | some z => zeroOk (ty t) z | none => false) && Nat.beq (ty t).zero.length (ty t).size && ((ty t).agg || Nat.beq (ty t).size 1) &&
      (match isAggD d, (ty t).agg with | true, true => true | false, false => true | _, _ => false) && kdOk ty t d && Nat.ble 1 (ty t).size
  | _, _ => false
theorem tyChk_ok {P : Program} {ty : Nat → TI} {t : Nat} (h : tyChk P ty t = true) : TyOk P ty t := by
  unfold tyChk at h
  split at h
  case h_2 => cases h
  rename_i i d hi hu
  simp only [Bool.and_eq_true] at h
  obtain ⟨⟨⟨⟨⟨⟨⟨h1, h2⟩, h3⟩, h4⟩, h5⟩, h6⟩, h7⟩, h8⟩ := h
  split at h3
  case h_2 => cases h3
  rename_i z hz
  have hl := Nat.eq_of_beq_eq_true h4
  refine ⟨⟨i, z, hi, Nat.eq_of_beq_eq_true h1, Nat.eq_of_beq_eq_true h2, hz, fun w ok => ?_⟩, ⟨hl, fun ha => ?_⟩, ?_, ?_⟩
  · unfold zeroOk at h3
    split at h3
    · rename_i cs
      simp only [Bool.and_eq_true] at h3
      rw [h3.1]
      exact ⟨cs, rfl, zEqs_rd h3.2⟩
    · rename_i v hv
      simp only [Bool.and_eq_true, Bool.not_eq_true'] at h3
      rw [h3.1]
      cases hq : (ty t).zero with
      | nil => rw [hq] at h3; simp [zEqs] at h3
      | cons x r =>
        rw [hq] at h3
        have h9 := zEqs_rd (w := w) (ok := ok) h3.2
        exact h9.1
  · rw [ha] at h5
    exact Nat.eq_of_beq_eq_true (by simpa using h5)
  · rw [hu]
    simp only [Option.map_some, Option.some.injEq]
    have : isAggD d = (ty t).agg := by
      cases ha : isAggD d <;> cases hb : (ty t).agg <;> rw [ha, hb] at h6 <;> first | rfl | cases h6
    rw [← this]
    cases d <;> rfl
  · unfold kdOk at h7
    split at h7 <;> split at h7 <;> first
      | exact absurd h7 (by decide)
      | (rename_i hk; rw [hk]; try simp only; first
          | done
          | trivial
          | (rw [hu]; done)
          | (have := kN_inj h7; subst this; rw [hu]; done)
          | (simp only [Bool.and_eq_true] at h7; have := Nat.eq_of_beq_eq_true h7.1; subst this; exact ⟨hu, Nat.le_of_ble_eq_true h7.2⟩)
          | (obtain ⟨a1, a2⟩ := fieldsOk_at h7; exact ⟨_, hu, a1, fun j f q b1 b2 => a2 j f q (by simpa using b1) b2⟩))
theorem tyLk_mem : ∀ (l : List (Nat × TI)) (t : Nat), (∃ q ∈ l, q.1 = t ∧ tyLk l t = q.2) ∨ tyLk l t = ⟨.other, 0, 0, false, []⟩
  | [], t => .inr rfl
  | (j, x) :: l, t => by
    simp only [tyLk]
    cases hb : Nat.beq j t with
    | true => exact .inl ⟨(j, x), by simp, Nat.eq_of_beq_eq_true hb, rfl⟩
    | false =>
      rcases tyLk_mem l t with ⟨q, h1, h2, h3⟩ | h
      · exact .inl ⟨q, by simp [h1], h2, h3⟩
      · exact .inr h
theorem all_types : (tyL.all fun q => tyChk Tryz.prog ty q.1) = true := by kernel_rfl
/-- Every contract that holds. -/
def TT (f : Nat) (args rs : List DV) : Prop := (∃ fn, Tryz.prog.funcs[f]? = some fn ∧ (fn.name == "runtime.NumGoroutine") = false ∧ fn.body.isSome = true) ∧ (match mutF f with
  | true => ∃ xs ys, args = [.one (.sl 1 0 xs)] ∧ rs = [.one (.sl 1 0 ys)] ∧ MutOk Tryz.prog f xs ys
  | false => CallOk Tryz.prog f args rs)
theorem types_ok (t : Nat) (h : 0 < (ty t).size) : TyOk Tryz.prog ty t := by
  rcases tyLk_mem tyL t with ⟨q, h1, h2, h3⟩ | h1
  · have := List.all_eq_true.1 all_types q h1
    rw [h2] at this
    exact tyChk_ok this
  · have : ty t = ⟨.other, 0, 0, false, []⟩ := h1
    rw [this] at h
    exact absurd h (by simp)
theorem known_ok (t : Nat) (h : (ty t).kd ≠ .other) : 0 < (ty t).size := by
  rcases tyLk_mem tyL t with ⟨q, h1, h2, h3⟩ | h1
  · have := List.all_eq_true.1 all_types q h1
    rw [h2] at this
    unfold tyChk at this
    split at this
    · simp only [Bool.and_eq_true] at this
      exact Nat.le_of_ble_eq_true this.2
    · cases this
  · have : ty t = ⟨.other, 0, 0, false, []⟩ := h1
    rw [this] at h
    exact absurd rfl h
theorem W0 : World1 Tryz.prog ty TT := ⟨by kernel_rfl, types_ok, known_ok, fun f xs ys hm h => ⟨h.1, by
    have h2 := h.2
    rw [hm] at h2
    obtain ⟨xs', ys', e1, e2, h3⟩ := h2
    simp only [List.cons.injEq, DV.one.injEq, D.sl.injEq, and_true, true_and] at e1 e2
    subst e1 e2
    exact h3⟩, fun f args r hm h => ⟨h.1, by have h2 := h.2; rw [hm] at h2; exact h2⟩⟩
/-- A contract, out of the body: the results up to the memory classes of empty slices. -/
theorem con' {f : Nat} {fn : Func} (hf : Tryz.prog.funcs[f]? = some fn) {c : Code} (hb : fn.body = some c) (hname : (fn.name == "runtime.NumGoroutine") = false) {args rs : List DV} (hok : (codeOk fn.ntmps c && Nat.ble args.length fn.ntmps && !mutF f) = true)
    (h : ∀ π (Q : List DV → Prop), Good TT π → (∀ rs', SubVs rs' rs → Q rs') → abody π ty fn args Q) : TT f args rs := by
  rw [Bool.and_eq_true] at hok
  refine ⟨⟨fn, hf, hname, by rw [hb]; rfl⟩, ?_⟩
  have hm : mutF f = false := by simpa using hok.2
  rw [hm]
  exact fn_ok W0 hf hb hok.1 fun π hg => h π _ hg fun _ h => h
/-- A contract, out of the body. -/
theorem con {f : Nat} {fn : Func} (hf : Tryz.prog.funcs[f]? = some fn) {c : Code} (hb : fn.body = some c) (hname : (fn.name == "runtime.NumGoroutine") = false) {args rs : List DV} (hok : (codeOk fn.ntmps c && Nat.ble args.length fn.ntmps && !mutF f) = true)
    (h : ∀ π (Q : List DV → Prop), Good TT π → Q rs → abody π ty fn args Q) : TT f args rs := con' hf hb hname hok fun π Q hg hQ => h π Q hg (hQ _ (SubVs.refl _))
end Go.Proofs.YtpmlocilhhjifaaGreat.Eng
end
section
set_option linter.unusedSimpArgs false
set_option linter.unusedVariables false
namespace Go.Proofs.YtpmlocilhhjifaaGreat.Eng
open Go.RowKit
section
variable {T : Nat → List DV → List DV → Prop} {π : Pi}

def inR (k : IntKind) (n : Int) : Prop := match k with
  | .i8 => -128 ≤ n ∧ n ≤ 127
  | .i16 => -32768 ≤ n ∧ n ≤ 32767
  | .i32 => -2147483648 ≤ n ∧ n ≤ 2147483647
  | .i64 => -9223372036854775808 ≤ n ∧ n ≤ 9223372036854775807
  | .u8 => 0 ≤ n ∧ n ≤ 255
  | .u16 => 0 ≤ n ∧ n ≤ 65535
  | .u32 => 0 ≤ n ∧ n ≤ 4294967295
  | .u64 => 0 ≤ n ∧ n ≤ 18446744073709551615
theorem wrap_id {k : IntKind} {n : Int} (h : inR k n) : k.wrap n = n := by
  cases k <;> simp only [inR] at h <;> simp only [IntKind.wrap, IntKind.bits, IntKind.signed] <;> simp <;> omega
theorem wrap_u {k : IntKind} {n : Int} (hk : k.signed = false) : k.wrap n = n % 2 ^ k.bits := by
  cases k <;> simp [IntKind.signed] at hk <;> simp [IntKind.wrap, IntKind.bits, IntKind.signed]
def cmpP (op : BinOp) (a b : Int) : Prop := match op with
  | .eql => a = b
  | .neq => a ≠ b
  | .lss => a < b
  | .leq => a ≤ b
  | .gtr => b < a
  | .geq => b ≤ a
  | _ => False
variable (h : Good T π)
include h
theorem Good.add' {k : IntKind} {a b : Int} {K : Int → Prop} (hr : inR k (a + b)) (hk : ∀ c, c = a + b → K c) : π.arith .add k a b K := h.arith _ _ _ _ _ ⟨_, rfl, hk _ (wrap_id hr)⟩
theorem Good.sub' {k : IntKind} {a b : Int} {K : Int → Prop} (hr : inR k (a - b)) (hk : ∀ c, c = a - b → K c) : π.arith .sub k a b K := h.arith _ _ _ _ _ ⟨_, rfl, hk _ (wrap_id hr)⟩
theorem Good.mul' {k : IntKind} {a b : Int} {K : Int → Prop} (hr : inR k (a * b)) (hk : ∀ c, c = a * b → K c) : π.arith .mul k a b K := h.arith _ _ _ _ _ ⟨_, rfl, hk _ (wrap_id hr)⟩
theorem Good.addw {k : IntKind} {a b : Int} {K : Int → Prop} (hk : ∀ c, c = k.wrap (a + b) → K c) : π.arith .add k a b K := h.arith _ _ _ _ _ ⟨_, rfl, hk _ rfl⟩
theorem Good.subw {k : IntKind} {a b : Int} {K : Int → Prop} (hk : ∀ c, c = k.wrap (a - b) → K c) : π.arith .sub k a b K := h.arith _ _ _ _ _ ⟨_, rfl, hk _ rfl⟩
theorem Good.mulw {k : IntKind} {a b : Int} {K : Int → Prop} (hk : ∀ c, c = k.wrap (a * b) → K c) : π.arith .mul k a b K := h.arith _ _ _ _ _ ⟨_, rfl, hk _ rfl⟩
theorem Good.quo' {k : IntKind} {a b : Int} {K : Int → Prop} (ha : 0 ≤ a) (hb : 0 < b) (hr : inR k a) (hk : ∀ c, c = a / b → K c) : π.arith .quo k a b K := by
  have h1 : a.tdiv b = a / b := Int.tdiv_eq_ediv_of_nonneg ha
  have h2 : a / b ≤ a := Int.ediv_le_self b ha
  have h3 : 0 ≤ a / b := Int.ediv_nonneg ha (by omega)
  have h4 : inR k (a / b) := by cases k <;> simp only [inR] at hr ⊢ <;> omega
  refine h.arith _ _ _ _ _ ⟨a / b, ?_, hk _ rfl⟩
  simp only [arithF]
  rw [if_neg (by omega), h1, wrap_id h4]
theorem Good.rem' {k : IntKind} {a b : Int} {K : Int → Prop} (ha : 0 ≤ a) (hb : 0 < b) (hk : ∀ c, c = a % b → K c) : π.arith .rem k a b K := by
  refine h.arith _ _ _ _ _ ⟨a % b, ?_, hk _ rfl⟩
  simp only [arithF]
  rw [if_neg (by omega), Int.tmod_eq_emod_of_nonneg ha]
theorem Good.shr' {k : IntKind} {a b : Int} {K : Int → Prop} (m : Nat) (hm : b = (m : Int)) (hb2 : m ≤ k.bits) (hk : ∀ c, c = a / 2 ^ m → K c) : π.arith .shr k a b K := by
  refine h.arith _ _ _ _ _ ⟨a / 2 ^ m, ?_, hk _ rfl⟩
  subst hm
  simp only [arithF, Int.toNat_natCast]
  rw [if_neg (by omega), Nat.min_eq_left (by omega), Int.fdiv_eq_ediv_of_nonneg _ (Int.pow_nonneg (by omega))]
theorem Good.shl' {k : IntKind} {a b : Int} {K : Int → Prop} (m : Nat) (hm : b = (m : Int)) (hb2 : m ≤ k.bits) (hr : inR k (a * 2 ^ m)) (hk : ∀ c, c = a * 2 ^ m → K c) : π.arith .shl k a b K := by
  refine h.arith _ _ _ _ _ ⟨a * 2 ^ m, ?_, hk _ rfl⟩
  subst hm
  simp only [arithF, Int.toNat_natCast]
  rw [if_neg (by omega), Nat.min_eq_left (by omega), wrap_id hr]
theorem Good.shlw {k : IntKind} {a b : Int} {K : Int → Prop} (m : Nat) (hm : b = (m : Int)) (hb2 : m ≤ k.bits) (hk : ∀ c, c = k.wrap (a * 2 ^ m) → K c) : π.arith .shl k a b K := by
  refine h.arith _ _ _ _ _ ⟨_, ?_, hk _ rfl⟩
  subst hm
  simp only [arithF, Int.toNat_natCast]
  rw [if_neg (by omega), Nat.min_eq_left (by omega)]
theorem Good.conv' {k : IntKind} {a : Int} {K : Int → Prop} (hk : ∀ c, c = k.wrap a → K c) : π.conv k a K := h.conv _ _ _ (hk _ rfl)
theorem Good.convi {k : IntKind} {a : Int} {K : Int → Prop} (hr : inR k a) (hk : K a) : π.conv k a K := h.conv _ _ _ (show K (k.wrap a) from by rw [wrap_id hr]; exact hk)
theorem Good.yes {op : BinOp} {a b : Int} {K : Bool → Prop} (hc : cmpP op a b) (hk : K true) : π.cmp op a b K := by
  refine h.cmp _ _ _ _ ⟨true, ?_, hk⟩
  cases op <;> simp [cmpP] at hc <;> simp [cmpF, hc]
theorem Good.no {op : BinOp} {a b : Int} {K : Bool → Prop} (ho : isCmp op = true) (hc : ¬ cmpP op a b) (hk : K false) : π.cmp op a b K := by
  refine h.cmp _ _ _ _ ⟨false, ?_, hk⟩
  cases op <;> simp [isCmp] at ho <;> simp [cmpP] at hc <;> simp [cmpF, hc]
theorem Good.dec {op : BinOp} {a b : Int} {K : Bool → Prop} (ho : isCmp op = true) (h1 : cmpP op a b → K true) (h2 : ¬ cmpP op a b → K false) : π.cmp op a b K := by
  by_cases hc : cmpP op a b
  · exact h.yes hc (h1 hc)
  · exact h.no ho hc (h2 hc)
theorem Good.beq' {n p q : Bool} {K : Bool → Prop} (hk : ∀ c, c = (bif n then p != q else p == q) → K c) : π.beq n p q K := h.beq _ _ _ _ (by cases n <;> exact hk _ rfl)
theorem Good.call' {f : Nat} {args : List DV} {K : List DV → Prop} (rs : List DV) (ht : T f args rs) (hk : K rs) : π.call f args K := h.call _ _ _ ⟨rs, ht, hk⟩
theorem Good.mut' {f : Nat} {xs : List (List D)} {K : List (List D) → Prop} (ys : List (List D)) (ht : T f [.one (.sl 1 0 xs)] [.one (.sl 1 0 ys)]) (hk : K ys) : π.turn f xs K := h.turn _ _ _ ⟨ys, ht, hk⟩
theorem Good.get' {xs : List (List D)} {i : Int} {K : List D → Prop} (k : Nat) (x : List D) (hi : i = (k : Int)) (hx : xs[k]? = some x) (hk : K x) : π.get xs i K := h.get _ _ _ ⟨k, x, hi, hx, hk⟩
theorem Good.getN' {xs : List (List D)} {i : Nat} {K : List D → Prop} (x : List D) (hx : xs[i]? = some x) (hk : K x) : π.getN xs i K := h.getN _ _ _ ⟨x, hx, hk⟩
theorem Good.inb' {xs : List (List D)} {i : Int} {K : Nat → Prop} (k : Nat) (hi : i = (k : Int)) (hl : k < xs.length) (hk : ∀ j, j = k → K j) : π.inb xs i K := h.inb _ _ _ ⟨k, hi, hl, hk _ rfl⟩
theorem Good.put' {xs : List (List D)} {i : Nat} {f : List D → Option (List D)} {K : List (List D) → Prop} (x x' : List D) (hx : xs[i]? = some x) (hf : f x = some x') (hl : x'.length = x.length) (hk : ∀ ys, ys = xs.set i x' → K ys) : π.put xs i f K :=
  h.put _ _ _ _ ⟨x, x', hx, hf, hl, hk _ rfl⟩
theorem Good.app' {b s : Nat} {xs ys : List (List D)} {K : List (List D) → Prop} (h0 : 0 < s) (h1 : ∀ y ∈ ys, y.length = s) (h2 : xs.length + ys.length ≤ maxLen) (h3 : (xs.length + ys.length) * b ≤ 140737488355328) (hk : ∀ zs, zs = xs ++ ys → K zs) : π.app b s xs ys K :=
  h.app _ _ _ _ _ ⟨h0, h1, h2, h3, hk _ rfl⟩
theorem Good.len' {xs : List (List D)} {K : Int → Prop} (hk : ∀ n, n = (xs.length : Int) → K n) : π.len xs K := h.len _ _ (hk _ rfl)
theorem Good.mks' {b : Nat} {n c : Int} {z : List D} {K : List (List D) → Prop} (k : Nat) (h1 : n = (k : Int)) (h2 : c = (k : Int)) (h3 : b * k ≤ 281474976710656) (h4 : k ≤ maxLen) (h5 : z ≠ []) (hk : ∀ xs, xs = List.replicate k z → K xs) : π.mks b n c z K :=
  h.mks _ _ _ _ _ ⟨k, h1, h2, h3, h4, h5, hk _ rfl⟩
theorem Good.sli' {xs : List (List D)} {l u : Option Int} {K : List (List D) → Prop} (lo hi : Nat) (h1 : loOk l lo) (h2 : hiOk u xs.length hi) (h3 : lo ≤ hi) (h4 : hi ≤ xs.length) (hk : ∀ ys, ys = (xs.take hi).drop lo → K ys) : π.sli xs l u K :=
  h.sli _ _ _ _ ⟨lo, hi, h1, h2, h3, h4, hk _ rfl⟩
theorem Good.slen' {s : ByteArray} {K : Int → Prop} (hk : ∀ n, n = (s.size : Int) → K n) : π.slen s K := h.slen _ _ (hk _ rfl)
theorem Good.sidx' {s : ByteArray} {i : Int} {K : Int → Prop} (k : Nat) (c : UInt8) (hi : i = (k : Int)) (hc : s[k]? = some c) (hk : ∀ n, n = (c.toNat : Int) → K n) : π.sidx s i K := h.sidx _ _ _ ⟨k, c, hi, hc, hk _ rfl⟩
theorem Good.ssli' {s : ByteArray} {l u : Option Int} {K : ByteArray → Prop} (lo hi : Nat) (h1 : loOk l lo) (h2 : hiOk u s.size hi) (h3 : lo ≤ hi) (h4 : hi ≤ s.size) (hk : ∀ t, t = s.extract lo hi → K t) : π.ssli s l u K :=
  h.ssli _ _ _ _ ⟨lo, hi, h1, h2, h3, h4, hk _ rfl⟩
theorem Good.scat' {a b : ByteArray} {K : ByteArray → Prop} (hl : a.size + b.size ≤ maxLen) (hk : ∀ t, t = a ++ b → K t) : π.scat a b K := h.scat _ _ _ ⟨hl, hk _ rfl⟩
theorem Good.scmp' {n : Bool} {a b : ByteArray} {K : Bool → Prop} (hk : ∀ c, c = (match n with | true => !(a.toList == b.toList) | false => a.toList == b.toList) → K c) : π.scmp n a b K := h.scmp _ _ _ _ (hk _ rfl)
theorem Good.ofb' {xs : List (List D)} {K : ByteArray → Prop} (l : List UInt8) (hx : xs = l.map byteD) (hk : ∀ t, t = ⟨l.toArray⟩ → K t) : π.ofb xs K := h.ofb _ _ ⟨l, hx, hk _ rfl⟩
theorem Good.chk' {b : Bool} {K : Prop} (hb : b = true) (hk : K) : π.chk b K := h.chk _ _ ⟨hb, hk⟩
theorem Good.loop' {F : (Exit → AS → Prop) → AS → Prop} {K : Exit → AS → Prop} {S : AS} (ι : Type) (P : ι → Prop) (I : ι → AL) (m : ι → Nat) (i₀ : ι) (h0 : P i₀) (hw : Wk S (I i₀))
    (hr : ∀ i (R : AS → Prop), P i → (∀ S' j, P j → m j < m i → Wk S' (I j) → R S') → F (fun e S' => match e with | .normal => R S' | e => K e S') (I i).as) : π.loop F K S :=
  h.loop _ _ _ ⟨{i : ι // P i}, fun i => I i.1, fun i => m i.1, ⟨i₀, h0⟩, hw, fun i => hr i.1 _ i.2 fun S' j hj hm hw => ⟨⟨j, hj⟩, hm, hw⟩⟩
omit h
def renF (l : List (Nat × Option Nat)) (s : Nat) : Option Nat := match l with
  | [] => none
  | (j, x) :: r => bif Nat.beq j s then x else renF r s
def wkB (S : AS) (ren : Nat → Option Nat) : List (Nat × BE) → Prop
  | [] => True
  | (s, be) :: l => WB S ren s be ∧ wkB S ren l
def wkT (S : AS) (L : AL) (ren : Nat → Option Nat) : List (Nat × AT) → Prop
  | [] => True
  | (k, x) :: l => WT S L ren (S.t k) x ∧ wkT S L ren l
def renOk1 (r : Option Nat) : List (Nat × Option Nat) → Bool
  | [] => true
  | (_, x) :: l => (match r, x with | some a, some b => !Nat.beq a b | _, _ => true) && renOk1 r l
def renOk : List (Nat × Option Nat) → Bool
  | [] => true
  | (_, r) :: l => renOk1 r l && renOk l
theorem renOk1_at {r : Nat} : ∀ {l : List (Nat × Option Nat)}, renOk1 (some r) l = true → ∀ s, renF l s ≠ some r
  | [], _, s, h => by cases h
  | (j, x) :: l, h, s, hs => by
    simp only [renOk1, Bool.and_eq_true] at h
    simp only [renF] at hs
    cases hb : Nat.beq j s with
    | true =>
      rw [hb] at hs
      simp only [cond_true] at hs
      subst hs
      simp [Nat.beq_refl] at h
    | false => rw [hb] at hs; exact renOk1_at h.2 s hs
theorem renNo {r : Nat} {l : List (Nat × Option Nat)} (h : renOk1 (some r) l = true) : ∀ s, renF l s ≠ some r := renOk1_at h
theorem renOk_inj : ∀ {l : List (Nat × Option Nat)}, renOk l = true → ∀ s s' r, renF l s = some r → renF l s' = some r → s = s'
  | [], _, s, s', r, h, _ => by cases h
  | (j, x) :: l, h, s, s', r, h1, h2 => by
    simp only [renOk, Bool.and_eq_true] at h
    simp only [renF] at h1 h2
    cases hb : Nat.beq j s <;> cases hb' : Nat.beq j s' <;> rw [hb] at h1 <;> rw [hb'] at h2 <;> simp only [cond_true, cond_false] at h1 h2
    · exact renOk_inj h.2 s s' r h1 h2
    · subst h2; exact absurd h1 (renOk1_at h.1 s)
    · subst h1; exact absurd h2 (renOk1_at h.1 s')
    · exact (Nat.eq_of_beq_eq_true hb).symm.trans (Nat.eq_of_beq_eq_true hb')
theorem Wk.of {S : AS} {L : AL} (ren : List (Nat × Option Nat)) (h1 : renOk ren = true) (h2 : wkB S (renF ren) L.b) (h3 : wkT S L (renF ren) L.t) : Wk S L := by
  refine ⟨renF ren, fun s s' r a b _ _ => renOk_inj h1 s s' r a b, fun s => ?_, fun k => ?_⟩
  · have : ∀ l, wkB S (renF ren) l → WB S (renF ren) s (lkb l s) := by
      intro l
      induction l with
      | nil => intro _; trivial
      | cons q l ih =>
        obtain ⟨j, be⟩ := q
        intro hh
        simp only [lkb]
        cases hb : Nat.beq j s with
        | true => have := Nat.eq_of_beq_eq_true hb; subst this; exact hh.1
        | false => exact ih hh.2
    exact this _ h2
  · have : ∀ l, wkT S L (renF ren) l → WT S L (renF ren) (S.t k) (lk l k) := by
      intro l
      induction l with
      | nil => intro _; trivial
      | cons q l ih =>
        obtain ⟨j, x⟩ := q
        intro hh
        simp only [lk]
        cases hb : Nat.beq j k with
        | true => have := Nat.eq_of_beq_eq_true hb; subst this; exact hh.1
        | false => exact ih hh.2
    exact this _ h3
end
end Go.Proofs.YtpmlocilhhjifaaGreat.Eng
end
