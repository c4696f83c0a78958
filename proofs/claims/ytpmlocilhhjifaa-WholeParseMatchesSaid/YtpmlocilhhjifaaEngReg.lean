/- Regions: whatever order is drawn, the state behind is the one that the text's order gives. -/
import Derived.Test.YtpmlocilhhjifaaEngLoc
set_option linter.unusedSimpArgs false
set_option linter.unusedVariables false
namespace Go.Proofs.Ytpmlocilhhjifaa.Eng
open Go.RowKit

/-! ### Effects laid in any order -/
abbrev Stp := Option Nat × Eff
def M (st : Nat → Stp) (S : AS) : Nat → (Nat → Bool) → AS
  | 0, _ => S
  | n + 1, L => match L n with
    | true => (M st S n L).app (st n).1 (st n).2
    | false => M st S n L
def wrT (x : Stp) (k : Nat) : Prop := x.1 = some k
def wrB (x : Stp) (s : Nat) : Prop := s ∈ x.2.bl.map (·.1)
theorem setB_other {f : Nat → BE} {s : Nat} : ∀ (l : List (Nat × BE)), s ∉ l.map (·.1) → setB f l s = f s
  | [], _ => rfl
  | (r, e) :: l, h => by
    simp only [List.map_cons, List.mem_cons, not_or] at h
    simp only [setB]
    rw [setB_other l h.2, upd_ne _ _ h.1]
theorem setB_same {f g : Nat → BE} {s : Nat} : ∀ (l : List (Nat × BE)), s ∈ l.map (·.1) → setB f l s = setB g l s
  | [], h => by simp at h
  | (r, e) :: l, h => by
    simp only [setB]
    by_cases hl : s ∈ l.map (·.1)
    · exact setB_same l hl
    · simp only [List.map_cons, List.mem_cons, hl, or_false] at h
      subst h
      rw [setB_other l hl, setB_other l hl, upd_same, upd_same]
theorem putT_other {f : Nat → AT} {d : Option Nat} {r : AT} {k : Nat} (h : d ≠ some k) : putT f d r k = f k := by
  cases d with
  | none => rfl
  | some j => exact upd_ne _ _ (by rintro rfl; exact h rfl)
theorem putT_same {f g : Nat → AT} {k : Nat} {r : AT} : putT f (some k) r k = putT g (some k) r k := by simp [putT, upd_same]
section
variable {st : Nat → Stp} {S : AS}
theorem M_t {k : Nat} : ∀ (n i : Nat) (L L' : Nat → Bool), i ≤ n → (∀ j, j < i → wrT (st j) k → L j = L' j) → (∀ j, i ≤ j → j < n → wrT (st j) k → L j = false) → (M st S n L).t k = (M st S i L').t k := by
  intro n
  induction n with
  | zero => intro i L L' hi h1 h2; obtain rfl : i = 0 := (by omega); rfl
  | succ n ih =>
    intro i L L' hi h1 h2
    by_cases hin : i = n + 1
    · subst hin
      have ih' := ih n L L' (Nat.le_refl _) (fun j hj => h1 j (by omega)) (fun j a b => by omega)
      simp only [M]
      by_cases hw : wrT (st n) k
      · rw [h1 n (by omega) hw]
        have hw' : (st n).1 = some k := hw
        cases L' n with
        | true => simp only [AS.app, hw']; exact putT_same
        | false => exact ih'
      · cases L n <;> cases L' n <;> simp only [AS.app] <;> first | exact ih' | (rw [putT_other hw]; exact ih') | (rw [putT_other hw, putT_other hw]; exact ih')
    · have ih' := ih i L L' (by omega) h1 (fun j a b => h2 j a (by omega))
      simp only [M]
      by_cases hw : wrT (st n) k
      · rw [h2 n (by omega) (by omega) hw]; exact ih'
      · cases L n with
        | true => simp only [AS.app]; rw [putT_other hw]; exact ih'
        | false => exact ih'
theorem M_b {s : Nat} : ∀ (n i : Nat) (L L' : Nat → Bool), i ≤ n → (∀ j, j < i → wrB (st j) s → L j = L' j) → (∀ j, i ≤ j → j < n → wrB (st j) s → L j = false) → (M st S n L).b s = (M st S i L').b s := by
  intro n
  induction n with
  | zero => intro i L L' hi h1 h2; obtain rfl : i = 0 := (by omega); rfl
  | succ n ih =>
    intro i L L' hi h1 h2
    by_cases hin : i = n + 1
    · subst hin
      have ih' := ih n L L' (Nat.le_refl _) (fun j hj => h1 j (by omega)) (fun j a b => by omega)
      simp only [M]
      by_cases hw : wrB (st n) s
      · rw [h1 n (by omega) hw]
        cases L' n with
        | true => simp only [AS.app]; exact setB_same _ hw
        | false => exact ih'
      · cases L n <;> cases L' n <;> simp only [AS.app] <;> first | exact ih' | (rw [setB_other _ hw]; exact ih') | (rw [setB_other _ hw, setB_other _ hw]; exact ih')
    · have ih' := ih i L L' (by omega) h1 (fun j a b => h2 j a (by omega))
      simp only [M]
      by_cases hw : wrB (st n) s
      · rw [h2 n (by omega) (by omega) hw]; exact ih'
      · cases L n with
        | true => simp only [AS.app]; rw [setB_other _ hw]; exact ih'
        | false => exact ih'
/-- Two effects that touch different things. -/
def Apart (x y : Stp) : Prop := (∀ k, wrT x k → ¬ wrT y k) ∧ ∀ s, wrB x s → ¬ wrB y s
theorem AS.app_comm {S : AS} {x y : Stp} (h : Apart x y) : (S.app x.1 x.2).app y.1 y.2 = (S.app y.1 y.2).app x.1 x.2 := by
  simp only [AS.app]
  congr 1
  · funext k
    by_cases h1 : wrT x k
    · have h2 : y.1 ≠ some k := h.1 k h1
      have h1' : x.1 = some k := h1
      rw [putT_other h2, h1']
      exact putT_same
    · have h1' : x.1 ≠ some k := h1
      rw [putT_other h1']
      by_cases h2 : y.1 = some k
      · rw [h2]; exact putT_same
      · rw [putT_other h2, putT_other h2, putT_other h1']
  · funext s
    by_cases h1 : wrB x s
    · have h2 : ¬ wrB y s := h.2 s h1
      rw [setB_other _ h2]
      exact setB_same _ h1
    · rw [setB_other (f := setB S.b y.2.bl) _ h1]
      by_cases h2 : wrB y s
      · exact setB_same _ h2
      · rw [setB_other _ h2, setB_other _ h2, setB_other _ h1]
theorem M_congr : ∀ (n : Nat) (L L' : Nat → Bool), (∀ j, j < n → L j = L' j) → M st S n L = M st S n L'
  | 0, _, _, _ => rfl
  | n + 1, L, L', h => by simp only [M]; rw [h n (by omega), M_congr n L L' (fun j hj => h j (by omega))]
def ins (L : Nat → Bool) (i : Nat) : Nat → Bool := fun j => if j = i then true else L j
theorem M_ins {i : Nat} (L : Nat → Bool) (hi : L i = false) : ∀ n, i < n → (∀ j, i < j → j < n → L j = true → Apart (st i) (st j)) → M st S n (ins L i) = (M st S n L).app (st i).1 (st i).2
  | 0, h, _ => by omega
  | n + 1, h, hc => by
    by_cases hin : i = n
    · subst hin
      simp only [M, hi]
      have : ins L i i = true := by simp [ins]
      rw [this]
      simp only
      rw [M_congr i (ins L i) L (fun j hj => by simp [ins]; intro e; omega)]
    · have ih := M_ins L hi n (by omega) (fun j a b => hc j a (by omega))
      simp only [M]
      have e1 : ins L i n = L n := by simp only [ins]; rw [if_neg (by omega)]
      rw [e1]
      cases hLn : L n with
      | true => simp only; rw [ih, AS.app_comm (hc n (by omega) (by omega) hLn)]
      | false => simp only; exact ih
end

/-! ### Who waits for whom -/
theorem bitsGo_len : ∀ (r : List Oper) (acc : List Nat), (bitsGo r acc).length = acc.length + r.length
  | [], acc => by simp [bitsGo]
  | o :: r, acc => by simp only [bitsGo]; rw [bitsGo_len r]; simp; omega
theorem bitsGo_pre : ∀ (r : List Oper) (acc : List Nat) (j : Nat), j < acc.length → (bitsGo r acc)[j]? = acc[j]?
  | [], acc, j, _ => rfl
  | o :: r, acc, j, h => by simp only [bitsGo]; rw [bitsGo_pre r _ j (by simp; omega), List.getElem?_append_left h]
theorem bitsGo_at : ∀ (r : List Oper) (acc : List Nat) (j : Nat) (o : Oper), r[j]? = some o → ∃ acc', (bitsGo r acc)[acc.length + j]? = some (maskOf acc' o.after.toList) ∧ acc'.length = acc.length + j ∧ ∀ q, q < acc'.length → acc'[q]? = (bitsGo r acc)[q]?
  | [], acc, j, o, h => by simp at h
  | x :: r, acc, 0, o, h => by
    simp at h; subst h
    refine ⟨acc, ?_, by simp, fun q hq => ?_⟩
    · simp only [bitsGo, Nat.add_zero]
      rw [bitsGo_pre r _ _ (by simp)]
      simp
    · simp only [bitsGo]
      rw [bitsGo_pre r _ q (by simp; omega), List.getElem?_append_left hq]
  | x :: r, acc, j + 1, o, h => by
    simp only [bitsGo]
    obtain ⟨acc', h1, h2, h3⟩ := bitsGo_at r (acc ++ [maskOf acc x.after.toList]) j o (by simpa using h)
    refine ⟨acc', by rw [← h1]; congr 1; simp; omega, by rw [h2]; simp; omega, h3⟩
theorem maskOf_bit {acc : List Nat} {i : Nat} : ∀ (es : List Edge), (maskOf acc es).testBit i = true → ∃ e ∈ es, Region.binds .any e = true ∧ (e.on = i ∨ ((nth acc e.on).getD 0).testBit i = true)
  | [], h => by simp [maskOf] at h
  | e :: es, h => by
    simp only [maskOf] at h
    cases hb : Region.binds .any e with
    | false =>
      rw [hb] at h
      obtain ⟨e', h1, h2⟩ := maskOf_bit es h
      exact ⟨e', by simp [h1], h2⟩
    | true =>
      rw [hb] at h
      simp only [cond_true] at h
      change (((2 ^ e.on) ||| ((nth acc e.on).getD 0)) ||| (maskOf acc es)).testBit i = true at h
      simp only [Nat.testBit_or, Bool.or_eq_true, Nat.testBit_two_pow] at h
      rcases h with (h | h) | h
      · exact ⟨e, by simp, hb, .inl (by simpa using h)⟩
      · exact ⟨e, by simp, hb, .inr h⟩
      · obtain ⟨e', h1, h2⟩ := maskOf_bit es h
        exact ⟨e', by simp [h1], h2⟩
def bitOf (ops : Array Oper) (j i : Nat) : Bool := ((nth (bitsGo ops.toList []) j).getD 0).testBit i
/-- What j waits for lies in every closed set that bears what j waits for at once. -/
theorem bit_listed {ops : Array Oper} {L : Nat → Bool} (hcl : ∀ j o, ops[j]? = some o → L j = true → ∀ e ∈ o.after, Region.binds .any e = true → L e.on = true) (i : Nat) :
    ∀ (j : Nat) (o : Oper), ops[j]? = some o → (∀ e ∈ o.after, Region.binds .any e = true → L e.on = true) → bitOf ops j i = true → L i = true := by
  intro j
  induction j using Nat.strongRecOn with
  | _ j ih =>
    intro o ho hd hb
    obtain ⟨acc', h1, h2, h3⟩ := bitsGo_at ops.toList [] j o (by simpa using ho)
    unfold bitOf at hb
    rw [nth_eq] at hb
    simp only [List.length_nil, Nat.zero_add] at h1 h2
    rw [h1] at hb
    obtain ⟨e, he, hbe, h4⟩ := maskOf_bit _ hb
    have hLe := hd e (by simpa using he) hbe
    rcases h4 with h4 | h4
    · rw [← h4]; exact hLe
    · rw [nth_eq] at h4
      by_cases hlt : e.on < j
      · rw [h3 _ (by omega)] at h4
        have hej : e.on < ops.size := by
          have : j < ops.size := (Array.getElem?_eq_some_iff.1 ho).1
          omega
        refine ih e.on hlt ops[e.on] (Array.getElem?_eq_getElem hej) (fun e' he' hb' => hcl e.on _ (Array.getElem?_eq_getElem hej) hLe e' he' hb') ?_
        unfold bitOf
        rw [nth_eq]
        exact h4
      · rw [List.getElem?_eq_none (by omega)] at h4
        simp at h4

/-! ### The checks -/
def readsT (ops : Array Oper) (o : Oper) : List Nat := o.op.operands.toList.flatMap opNames ++ (match o.guard with
  | some (j, _) => match nth ops.toList j with | some oj => oj.dst.toList | none => []
  | none => [])
def memN (k : Nat) : List Nat → Bool
  | [] => false
  | j :: r => Nat.beq k j || memN k r
theorem memN_iff {k : Nat} : ∀ {l : List Nat}, memN k l = true ↔ k ∈ l
  | [] => by simp [memN]
  | j :: r => by simp [memN, memN_iff (l := r)]
/-- Numbers i and j touch one slot. -/
def touch (ops : Array Oper) (x y : Oper) : Bool :=
  (match x.dst with | some d => memN d (readsT ops y) || (match y.dst with | some e => Nat.beq d e | none => false) | none => false) ||
  (match y.dst with | some d => memN d (readsT ops x) | none => false)
def tOkRow (ops : Array Oper) (bj : Nat) (y : Oper) : Nat → List Oper → Bool
  | _, [] => true
  | i, x :: r => (!touch ops x y || bj.testBit i) && tOkRow ops bj y (i + 1) r
/-- Every two that touch one slot are in order. The list is reversed: the latest first. -/
def tOkGo (ops : Array Oper) (bits : List Nat) : List Oper → List Oper → Nat → Bool
  | _, [], _ => true
  | pre, y :: r, j => tOkRow ops ((nth bits j).getD 0) y 0 pre && tOkGo ops bits (pre ++ [y]) r (j + 1)
def edgesOk (ops : Array Oper) (n : Nat) : List Oper → Nat → Bool
  | [], _ => true
  | o :: r, i => (o.after.toList.all fun e => !Region.binds .any e || Nat.ble (e.on + 1) i) && (match o.dst with | some d => Nat.ble (d + 1) n | none => true) && edgesOk ops n r (i + 1)
def regOk (n : Nat) (ops : Array Oper) (draw : Bool) : Bool := edgesOk ops n ops.toList 0 && (!draw || tOkGo ops (bitsGo ops.toList []) [] ops.toList 0)
def codeOk (n : Nat) : Code → Bool
  | .region _ ops draw => regOk n ops draw
  | .seq a b => codeOk n a && codeOk n b
  | .cond _ a b => codeOk n a && codeOk n b
  | .block _ c => codeOk n c
  | .loop c => codeOk n c
  | _ => true
end Go.Proofs.Ytpmlocilhhjifaa.Eng
