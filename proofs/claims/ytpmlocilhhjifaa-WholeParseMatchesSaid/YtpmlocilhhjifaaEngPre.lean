/- The table of types is the program's; the world of all contracts. -/
import Derived.Test.YtpmlocilhhjifaaEngFn
import Derived.Test.YtpmlocilhhjifaaEngTy
import Derived.Test.YtpmlocilhhjifaaProg
set_option linter.unusedSimpArgs false
set_option linter.unusedVariables false
namespace Go.Proofs.Ytpmlocilhhjifaa.Eng
open Go.RowKit

def zInt : Int → Bool
  | .ofNat 0 => true
  | _ => false
theorem zInt_eq {n : Int} (h : zInt n = true) : n = 0 := by
  unfold zInt at h
  split at h
  · rfl
  · cases h
def zEq : D → Value → Bool
  | .sc (.int k n), .int k' n' => Nat.beq (kN k) (kN k') && zInt n && zInt n'
  | .sc (.bool false), .bool false => true
  | .sc (.string s), .string s' => Nat.beq s.size 0 && Nat.beq s'.size 0
  | .sc (.pointer none), .pointer none => true
  | .sc .nilFunc, .nilFunc => true
  | .sl _ _ [], .slice none 0 0 => true
  | _, _ => false
theorem size_zero {s s' : ByteArray} (h : s.size = 0) (h' : s'.size = 0) : s = s' := by
  cases s; cases s'
  simp [ByteArray.size] at h h'
  subst h h'
  rfl
theorem zEq_rd {w : World} {ok : Nat → Nat → Prop} {d : D} {v : Value} (h : zEq d v = true) : RD w ok d v := by
  unfold zEq at h
  split at h
  · simp only [Bool.and_eq_true] at h
    have h1 := kN_inj h.1.1
    have h2 := zInt_eq h.1.2
    have h3 := zInt_eq h.2
    subst h1 h2 h3
    exact .sc _ rfl
  · exact .sc _ rfl
  · simp only [Bool.and_eq_true] at h
    rw [size_zero (Nat.eq_of_beq_eq_true h.1) (Nat.eq_of_beq_eq_true h.2)]
    exact .sc _ rfl
  · exact .sc _ rfl
  · exact .sc _ rfl
  · exact .nil _ _
  · cases h
def zEqs : List D → List Value → Bool
  | [], [] => true
  | d :: ds, v :: vs => zEq d v && zEqs ds vs
  | _, _ => false
theorem zEqs_rd {w : World} {ok : Nat → Nat → Prop} : ∀ {ds : List D} {vs : List Value}, zEqs ds vs = true → RDs w ok ds vs
  | [], [], _ => trivial
  | _ :: _, _ :: _, h => by
    simp only [zEqs, Bool.and_eq_true] at h
    exact ⟨zEq_rd h.1, zEqs_rd h.2⟩
def isAggD : TypeDesc → Bool
  | .struct _ => true
  | .array _ _ => true
  | _ => false
def fieldsOk (ty : Nat → TI) : List Field → List (Nat × Nat × Nat) → Bool
  | [], [] => true
  | f :: F, q :: fs => Nat.beq f.offset q.1 && Nat.beq f.type q.2.2 && Nat.beq (ty q.2.2).size q.2.1 && Nat.ble 1 q.2.1 && fieldsOk ty F fs
  | _, _ => false
theorem fieldsOk_at {ty : Nat → TI} : ∀ {F : List Field} {fs : List (Nat × Nat × Nat)}, fieldsOk ty F fs = true → F.length = fs.length ∧ ∀ (j : Nat) f q, F[j]? = some f → fs[j]? = some q → f.offset = q.1 ∧ f.type = q.2.2 ∧ (ty q.2.2).size = q.2.1 ∧ 0 < q.2.1
  | [], [], _ => ⟨rfl, fun j f q h => by simp at h⟩
  | f :: F, q :: fs, h => by
    simp only [fieldsOk, Bool.and_eq_true] at h
    obtain ⟨h1, h2⟩ := fieldsOk_at h.2
    refine ⟨by simp [h1], fun j f' q' a b => ?_⟩
    cases j with
    | zero =>
      simp at a b
      subst a b
      exact ⟨Nat.eq_of_beq_eq_true h.1.1.1.1, Nat.eq_of_beq_eq_true h.1.1.1.2, Nat.eq_of_beq_eq_true h.1.1.2, Nat.le_of_ble_eq_true h.1.2⟩
    | succ j => exact h2 j f' q' (by simpa using a) (by simpa using b)
def zeroOk (ti : TI) : Value → Bool
  | .agg cs => ti.agg && zEqs ti.zero cs.toList
  | v => !ti.agg && zEqs ti.zero [v]
def kdOk (ty : Nat → TI) (t : Nat) : TypeDesc → Bool
  | .int k => match (ty t).kd with | .int k' => Nat.beq (kN k) (kN k') | .other => true | .ptr _ => true | _ => false
  | .bool => match (ty t).kd with | .bool => true | .other => true | .ptr _ => true | _ => false
  | .string => match (ty t).kd with | .str => true | .other => true | .ptr _ => true | _ => false
  | .slice e => match (ty t).kd with | .slc e' => Nat.beq e e' && Nat.ble 1 (ty e').size | .other => true | .ptr _ => true | _ => false
  | .struct F => match (ty t).kd with | .st fs => fieldsOk ty F.toList fs | .other => true | .ptr _ => true | _ => false
  | _ => match (ty t).kd with | .other => true | .ptr _ => true | _ => false
def tyChk (P : Program) (ty : Nat → TI) (t : Nat) : Bool :=
  match P.info? t, P.underlying t with
  | some i, some d => Nat.beq i.size (ty t).size && Nat.beq i.bytes (ty t).bytes && (match i.zero with | some z => zeroOk (ty t) z | none => false) && Nat.beq (ty t).zero.length (ty t).size && ((ty t).agg || Nat.beq (ty t).size 1) &&
      (match isAggD d, (ty t).agg with | true, true => true | false, false => true | _, _ => false) && kdOk ty t d && Nat.ble 1 (ty t).size
  | _, _ => false
theorem tyChk_ok {P : Program} {ty : Nat → TI} {t : Nat} (h : tyChk P ty t = true) : TyOk P ty t := by
  unfold tyChk at h
  split at h
  case h_2 => cases h
  rename_i i d hi hu
  simp only [Bool.and_eq_true] at h
  obtain ⟨⟨⟨⟨⟨⟨⟨h1, h2⟩, h3⟩, h4⟩, h5⟩, h6⟩, h7⟩, h8⟩ := h
  split at h3
  case h_2 => cases h3
  rename_i z hz
  have hl := Nat.eq_of_beq_eq_true h4
  refine ⟨⟨i, z, hi, Nat.eq_of_beq_eq_true h1, Nat.eq_of_beq_eq_true h2, hz, fun w ok => ?_⟩, ⟨hl, fun ha => ?_⟩, ?_, ?_⟩
  · unfold zeroOk at h3
    split at h3
    · rename_i cs
      simp only [Bool.and_eq_true] at h3
      rw [h3.1]
      exact ⟨cs, rfl, zEqs_rd h3.2⟩
    · rename_i v hv
      simp only [Bool.and_eq_true, Bool.not_eq_true'] at h3
      rw [h3.1]
      cases hq : (ty t).zero with
      | nil => rw [hq] at h3; simp [zEqs] at h3
      | cons x r =>
        rw [hq] at h3
        have h9 := zEqs_rd (w := w) (ok := ok) h3.2
        exact h9.1
  · rw [ha] at h5
    exact Nat.eq_of_beq_eq_true (by simpa using h5)
  · rw [hu]
    simp only [Option.map_some, Option.some.injEq]
    have : isAggD d = (ty t).agg := by
      cases ha : isAggD d <;> cases hb : (ty t).agg <;> rw [ha, hb] at h6 <;> first | rfl | cases h6
    rw [← this]
    cases d <;> rfl
  · unfold kdOk at h7
    split at h7 <;> split at h7 <;> first
      | exact absurd h7 (by decide)
      | (rename_i hk; rw [hk]; try simp only; first
          | done
          | trivial
          | (rw [hu]; done)
          | (have := kN_inj h7; subst this; rw [hu]; done)
          | (simp only [Bool.and_eq_true] at h7; have := Nat.eq_of_beq_eq_true h7.1; subst this; exact ⟨hu, Nat.le_of_ble_eq_true h7.2⟩)
          | (obtain ⟨a1, a2⟩ := fieldsOk_at h7; exact ⟨_, hu, a1, fun j f q b1 b2 => a2 j f q (by simpa using b1) b2⟩))
theorem tyLk_mem : ∀ (l : List (Nat × TI)) (t : Nat), (∃ q ∈ l, q.1 = t ∧ tyLk l t = q.2) ∨ tyLk l t = ⟨.other, 0, 0, false, []⟩
  | [], t => .inr rfl
  | (j, x) :: l, t => by
    simp only [tyLk]
    cases hb : Nat.beq j t with
    | true => exact .inl ⟨(j, x), by simp, Nat.eq_of_beq_eq_true hb, rfl⟩
    | false =>
      rcases tyLk_mem l t with ⟨q, h1, h2, h3⟩ | h
      · exact .inl ⟨q, by simp [h1], h2, h3⟩
      · exact .inr h
theorem all_types : (tyL.all fun q => tyChk Try.prog ty q.1) = true := by kernel_rfl
/-- Every contract that holds. -/
def TT (f : Nat) (args rs : List DV) : Prop := (∃ fn, Try.prog.funcs[f]? = some fn ∧ (fn.name == "runtime.NumGoroutine") = false ∧ fn.body.isSome = true) ∧ (match mutF f with
  | true => ∃ xs ys, args = [.one (.sl 1 0 xs)] ∧ rs = [.one (.sl 1 0 ys)] ∧ MutOk Try.prog f xs ys
  | false => CallOk Try.prog f args rs)
theorem types_ok (t : Nat) (h : 0 < (ty t).size) : TyOk Try.prog ty t := by
  rcases tyLk_mem tyL t with ⟨q, h1, h2, h3⟩ | h1
  · have := List.all_eq_true.1 all_types q h1
    rw [h2] at this
    exact tyChk_ok this
  · have : ty t = ⟨.other, 0, 0, false, []⟩ := h1
    rw [this] at h
    exact absurd h (by simp)
theorem known_ok (t : Nat) (h : (ty t).kd ≠ .other) : 0 < (ty t).size := by
  rcases tyLk_mem tyL t with ⟨q, h1, h2, h3⟩ | h1
  · have := List.all_eq_true.1 all_types q h1
    rw [h2] at this
    unfold tyChk at this
    split at this
    · simp only [Bool.and_eq_true] at this
      exact Nat.le_of_ble_eq_true this.2
    · cases this
  · have : ty t = ⟨.other, 0, 0, false, []⟩ := h1
    rw [this] at h
    exact absurd rfl h
theorem W0 : World1 Try.prog ty TT := ⟨by kernel_rfl, types_ok, known_ok, fun f xs ys hm h => ⟨h.1, by
    have h2 := h.2
    rw [hm] at h2
    obtain ⟨xs', ys', e1, e2, h3⟩ := h2
    simp only [List.cons.injEq, DV.one.injEq, D.sl.injEq, and_true, true_and] at e1 e2
    subst e1 e2
    exact h3⟩, fun f args r hm h => ⟨h.1, by have h2 := h.2; rw [hm] at h2; exact h2⟩⟩
/-- A contract, out of the body: the results up to the memory classes of empty slices. -/
theorem con' {f : Nat} {fn : Func} (hf : Try.prog.funcs[f]? = some fn) {c : Code} (hb : fn.body = some c) (hname : (fn.name == "runtime.NumGoroutine") = false) {args rs : List DV} (hok : (codeOk fn.ntmps c && Nat.ble args.length fn.ntmps && !mutF f) = true)
    (h : ∀ π (Q : List DV → Prop), Good TT π → (∀ rs', SubVs rs' rs → Q rs') → abody π ty fn args Q) : TT f args rs := by
  rw [Bool.and_eq_true] at hok
  refine ⟨⟨fn, hf, hname, by rw [hb]; rfl⟩, ?_⟩
  have hm : mutF f = false := by simpa using hok.2
  rw [hm]
  exact fn_ok W0 hf hb hok.1 fun π hg => h π _ hg fun _ h => h
/-- A contract, out of the body. -/
theorem con {f : Nat} {fn : Func} (hf : Try.prog.funcs[f]? = some fn) {c : Code} (hb : fn.body = some c) (hname : (fn.name == "runtime.NumGoroutine") = false) {args rs : List DV} (hok : (codeOk fn.ntmps c && Nat.ble args.length fn.ntmps && !mutF f) = true)
    (h : ∀ π (Q : List DV → Prop), Good TT π → Q rs → abody π ty fn args Q) : TT f args rs := con' hf hb hname hok fun π Q hg hQ => h π Q hg (hQ _ (SubVs.refl _))
end Go.Proofs.Ytpmlocilhhjifaa.Eng
