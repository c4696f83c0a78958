/- Each operation of the abstract machine is what the model does. -/
import Derived.Test.YtpmlocilhhjifaaGreatEngStep
set_option linter.unusedSimpArgs false
set_option linter.unusedVariables false
namespace Go.Proofs.YtpmlocilhhjifaaGreat.Eng
open Go.RowKit

/-! ### What the stops ask for -/
def arithF (op : BinOp) (k : IntKind) (a b : Int) : Option Int := match op with
  | .add => some (k.wrap (a + b))
  | .sub => some (k.wrap (a - b))
  | .mul => some (k.wrap (a * b))
  | .quo => if b = 0 then none else some (k.wrap (a.tdiv b))
  | .rem => if b = 0 then none else some (a.tmod b)
  | .shl => if b < 0 then none else some (k.wrap (a * 2 ^ min b.toNat k.bits))
  | .shr => if b < 0 then none else some (a.fdiv (2 ^ min b.toNat k.bits))
  | _ => none
def cmpF (op : BinOp) (a b : Int) : Option Bool := match op with
  | .eql => some (a == b)
  | .neq => some (a != b)
  | .lss => some (decide (a < b))
  | .leq => some (decide (a ≤ b))
  | .gtr => some (decide (a > b))
  | .geq => some (decide (a ≥ b))
  | _ => none
def loOk (l : Option Int) (n : Nat) : Prop := match l with | none => n = 0 | some i => i = (n : Int)
def hiOk (h : Option Int) (len n : Nat) : Prop := match h with | none => n = len | some i => i = (n : Int)
def byteD (c : UInt8) : List D := [.sc (.int .u8 c.toNat)]

def WB (S : AS) (ren : Nat → Option Nat) (s : Nat) : BE → Prop
  | .no => True
  | .dead => False
  | .bx cs => ∃ r, ren s = some r ∧ S.b r = .bx cs
  | .ar e es xs => (∃ r, ren s = some r ∧ S.b r = .ar e es xs) ∨ (ren s = none ∧ xs = [] ∧ 0 < es)
def WT (S : AS) (L : AL) (ren : Nat → Option Nat) (x : AT) : AT → Prop
  | .u => True
  | .v d => x = .v d ∨ ∃ r e es xs, x = .ow r ∧ S.b r = .ar e es xs ∧ d = .one (.sl 1 es xs) ∧ ∀ s, ren s ≠ some r
  | .tp ds => x = .tp ds
  | .pd cs => x = .pd cs
  | .p s es i off => ∃ r, ren s = some r ∧ x = .p r es i off ∧ lkb L.b s ≠ .no
  | .ow s => lkb L.b s ≠ .no ∧ ((∃ r, ren s = some r ∧ x = .ow r) ∨ (ren s = none ∧ ∃ sz, x = .v (.one (.sl 3 sz []))))
/-- The state is one that the head of the loop speaks of. -/
def Wk (S : AS) (L : AL) : Prop := ∃ ren : Nat → Option Nat, (∀ s s' r, ren s = some r → ren s' = some r → lkb L.b s ≠ .no → lkb L.b s' ≠ .no → s = s') ∧
  (∀ s, WB S ren s (lkb L.b s)) ∧ ∀ k, WT S L ren (S.t k) (lk L.t k)

def real (T : Nat → List DV → List DV → Prop) : Pi where
  arith op k a b K := ∃ c, arithF op k a b = some c ∧ K c
  cmp op a b K := ∃ c, cmpF op a b = some c ∧ K c
  conv k a K := K (k.wrap a)
  beq n a b K := K (match n with | true => a != b | false => a == b)
  call f args K := ∃ r, T f args r ∧ K r
  turn f xs K := ∃ ys, T f [.one (.sl 1 0 xs)] [.one (.sl 1 0 ys)] ∧ K ys
  get xs i K := ∃ (k : Nat) (x : List D), i = (k : Int) ∧ xs[k]? = some x ∧ K x
  getN xs i K := ∃ x, xs[i]? = some x ∧ K x
  inb xs i K := ∃ k : Nat, i = (k : Int) ∧ k < xs.length ∧ K k
  put xs i f K := ∃ x x', xs[i]? = some x ∧ f x = some x' ∧ x'.length = x.length ∧ K (xs.set i x')
  app bytes size xs ys K := 0 < size ∧ (∀ y ∈ ys, y.length = size) ∧ xs.length + ys.length ≤ maxLen ∧ (xs.length + ys.length) * bytes ≤ 140737488355328 ∧ K (xs ++ ys)
  len xs K := K (xs.length : Int)
  mks bytes n c zero K := ∃ k : Nat, n = (k : Int) ∧ c = (k : Int) ∧ bytes * k ≤ 281474976710656 ∧ k ≤ maxLen ∧ zero ≠ [] ∧ K (List.replicate k zero)
  sli xs l h K := ∃ lo hi : Nat, loOk l lo ∧ hiOk h xs.length hi ∧ lo ≤ hi ∧ hi ≤ xs.length ∧ K ((xs.take hi).drop lo)
  slen s K := K (s.size : Int)
  sidx s i K := ∃ (k : Nat) (c : UInt8), i = (k : Int) ∧ s[k]? = some c ∧ K (c.toNat : Int)
  ssli s l h K := ∃ lo hi : Nat, loOk l lo ∧ hiOk h s.size hi ∧ lo ≤ hi ∧ hi ≤ s.size ∧ K (s.extract lo hi)
  scat a b K := (a.size + b.size ≤ maxLen) ∧ K (a ++ b)
  scmp n a b K := K (match n with | true => !(a.toList == b.toList) | false => a.toList == b.toList)
  ofb xs K := ∃ l : List UInt8, xs = l.map byteD ∧ K ⟨l.toArray⟩
  chk b K := b = true ∧ K
  loop F K S := ∃ (ι : Type) (I : ι → AL) (m : ι → Nat) (i₀ : ι), Wk S (I i₀) ∧ ∀ i, F (fun e S' => match e with | .normal => ∃ j, m j < m i ∧ Wk S' (I j) | e => K e S') (I i).as

/-- A type's row of the table is the program's. -/
structure TyOk (P : Program) (ty : Nat → TI) (t : Nat) : Prop where
  info : ∃ i z, P.info? t = some i ∧ i.size = (ty t).size ∧ i.bytes = (ty t).bytes ∧ i.zero = some z ∧ ∀ w ok, RV w ok (match (ty t).agg with | true => .ag (ty t).zero | false => .one ((ty t).zero.headD (.sc undef))) z
  zero : (ty t).zero.length = (ty t).size ∧ ((ty t).agg = false → (ty t).size = 1)
  agg : (P.underlying t).map (fun d => match d with | .struct _ => true | .array _ _ => true | _ => false) = some (ty t).agg
  kd : match (ty t).kd with
    | .int k => P.underlying t = some (.int k)
    | .bool => P.underlying t = some .bool
    | .str => P.underlying t = some .string
    | .slc e => P.underlying t = some (.slice e) ∧ 0 < (ty e).size
    | .st fs => ∃ F : Array Field, P.underlying t = some (.struct F) ∧ F.toList.length = fs.length ∧ ∀ (j : Nat) f q, F[j]? = some f → fs[j]? = some q → f.offset = q.1 ∧ f.type = q.2.2 ∧ (ty q.2.2).size = q.2.1 ∧ 0 < q.2.1
    | _ => True
def tupV : List Value → Value
  | [u] => u
  | us => .tuple us.toArray
/-- A contract: called with these data the function returns those; nothing of old is written; what it returns lies in new memory or where arguments of its tag lay. -/
def CallOk (P : Program) (f : Nat) (args rs : List DV) : Prop :=
  ∀ (okx : Nat → Nat → Prop) (w : World) (vs : Array Value), RVs w okx args vs.toList → Calls P f vs w fun e w' => ∃ v, e = .returned v ∧ Below w.heap.size w w' ∧
    ∃ us : List Value, RVs w' (fun t b => okx t b ∨ w.heap.size ≤ b) rs us ∧ v = tupV us
/-- A contract of a function that writes its argument's memory. -/
def MutOk (P : Program) (f : Nat) (xs ys : List (List D)) : Prop :=
  ∀ (C : Ctx) (ok : Nat → Nat → Prop) (w : World) (e es : Nat) (v : Value), C.n0 ≤ w.heap.size → BR C w ok (.ar e es xs) v → (∀ k, blkOf v = some k → k < w.heap.size ∧ ∀ t, ¬ ok t k) →
    Calls P f #[v] w fun x w' => x = .returned (.tuple #[]) ∧ w.grownBy w' (blkOf v) ∧ BR C w' ok (.ar e es ys) v
structure World1 (P : Program) (ty : Nat → TI) (T : Nat → List DV → List DV → Prop) : Prop where
  mixed : P.follows .mixedOrders = true
  types : ∀ t, 0 < (ty t).size → TyOk P ty t
  known : ∀ t, (ty t).kd ≠ .other → 0 < (ty t).size
  muts : ∀ f xs ys, mutF f = true → T f [.one (.sl 1 0 xs)] [.one (.sl 1 0 ys)] → (∃ fn, P.funcs[f]? = some fn ∧ (fn.name == "runtime.NumGoroutine") = false ∧ fn.body.isSome = true) ∧ MutOk P f xs ys
  funcs : ∀ f args r, mutF f = false → T f args r → (∃ fn, P.funcs[f]? = some fn ∧ (fn.name == "runtime.NumGoroutine") = false ∧ fn.body.isSome = true) ∧ CallOk P f args r

section
variable {P : Program} {ty : Nat → TI} {T : Nat → List DV → List DV → Prop} {C : Ctx} {S : AS} {ρ : Nat → Value} {a : Act} {w : World}

theorem ev_ok (g : Gam C S ρ a w) (t : Nat) (x : Operand) : AR w (C.ok S.b ρ) S.b ρ (ev ty S t x) (a.eval x) := by
  cases x with
  | tmp k => exact g.slots k
  | global _ => trivial
  | func f => exact RD.sc _ rfl
  | const v =>
    simp only [ev, Act.eval]
    unfold cst
    split
    · unfold nilOf
      split
      · exact RD.nil _ _
      · exact RD.sc _ rfl
    all_goals first | exact RD.sc _ rfl | trivial

/-- What an operation that is done leaves. -/
def Done (P : Program) (C : Ctx) (S : AS) (a : Act) (w : World) (o : Oper) (E : Eff) : Prop :=
  ∃ (n : Next) (v : Value) (w' : World) (ρ' : Nat → Value), (execOp a.eval o).run P w = .ok n w' ∧ (n = .value v ∨ (n = .skip ∧ v = undef)) ∧
    Gam C { t := S.t, b := setB S.b E.bl } ρ' a w' ∧ AR w' (C.ok (setB S.b E.bl) ρ') (setB S.b E.bl) ρ' E.r v
theorem Done.wp {o : Oper} {E : Eff} (h : Done P C S a w o E) (hd : ∀ d, o.dst = some d → d < C.N) {next : Act → World → Prop} {Q : Exit → Act → World → Prop}
    (hn : ∀ ρ' a' w', Gam C (S.app o.dst E) ρ' a' w' → next a' w') : o.wp P a w next Q := by
  obtain ⟨n, v, w', ρ', hr, hv, g, hx⟩ := h
  unfold Oper.wp
  rw [hr]
  have h2 := hn ρ' (a.put o.dst v) w' (g.put hd hx)
  rcases hv with rfl | ⟨rfl, rfl⟩ <;> exact h2
theorem Done.pure (g : Gam C S ρ a w) {o : Oper} {r : AT} {rd : List Nat} {v : Value} (hr : (execOp a.eval o).run P w = .ok (.value v) w) (hx : AR w (C.ok S.b ρ) S.b ρ r v) : Done P C S a w o ⟨r, [], rd⟩ :=
  ⟨_, v, w, ρ, hr, .inl rfl, g, hx⟩
end
end Go.Proofs.YtpmlocilhhjifaaGreat.Eng
namespace Go.Proofs.YtpmlocilhhjifaaGreat.Eng
open Go.RowKit
section
variable {P : Program} {ty : Nat → TI} {T : Nat → List DV → List DV → Prop} {C : Ctx} {S : AS} {ρ : Nat → Value} {a : Act} {w : World}

theorem kN_inj {k k' : IntKind} (h : Nat.beq (kN k) (kN k') = true) : k = k' := by cases k <;> cases k' <;> first | rfl | simp [kN] at h
theorem TyOk.lookup (hW : World1 P ty T) {t : Nat} (h : 0 < (ty t).size) : TyOk P ty t := hW.types t h

theorem abin_ok (g : Gam C S ρ a w) {o : Oper} {op : BinOp} {t t' : Nat} {x y : Operand} (hop : o.op = .binOp op t x y t') {K : Eff → Prop}
    (hW : World1 P ty T) (h : abin (real T) ty t op (ev ty S t x) (ev ty S t' y) K) : ∃ E, K E ∧ Done P C S a w o E := by
  have hx := ev_ok (ty := ty) g t x
  have hy := ev_ok (ty := ty) g t' y
  revert h
  generalize ev ty S t x = ex at hx ⊢
  generalize ev ty S t' y = ey at hy ⊢
  unfold abin
  split
  · rename_i k p k' q
    intro h
    have e1 : a.eval x = .int k p := RD.sc_inv hx
    have e2 : a.eval y = .int k' q := RD.sc_inv hy
    cases hsh : isSh op with
    | true =>
      rw [hsh] at h
      obtain ⟨c, hc, hk⟩ := h
      refine ⟨_, hk, Done.pure (v := .int k c) g ?_ (RD.sc _ rfl)⟩
      unfold execOp
      rw [hop]
      cases op <;> simp [isSh] at hsh <;> simp only [arithF] at hc <;> split at hc <;> simp at hc <;> subst hc <;>
        simp [e1, e2, eqGuard, binOp, Op.shift, *]
    | false =>
      rw [hsh] at h
      simp only [cond_false] at h
      cases hkk : Nat.beq (kN k) (kN k') with
      | false => rw [hkk] at h; exact h.elim
      | true =>
        rw [hkk] at h
        simp only [cond_true] at h
        have hke := kN_inj hkk
        subst hke
        cases hcm : isCmp op with
        | true =>
          rw [hcm] at h
          obtain ⟨c, hc, hk⟩ := h
          refine ⟨_, hk, Done.pure (v := .bool c) g ?_ (RD.sc _ rfl)⟩
          unfold execOp
          rw [hop]
          cases op <;> simp [isCmp] at hcm <;> simp [cmpF] at hc <;> subst hc <;> simp [e1, e2, eqGuard, binOp, Op.intCmp]
        | false =>
          rw [hcm] at h
          obtain ⟨c, hc, hk⟩ := h
          refine ⟨_, hk, Done.pure (v := .int k c) g ?_ (RD.sc _ rfl)⟩
          unfold execOp
          rw [hop]
          cases op <;> simp [isSh] at hsh <;> simp [isCmp] at hcm <;> simp [arithF] at hc <;> first | (subst hc; simp [e1, e2, eqGuard, binOp, Op.intArith]) | (obtain ⟨hq, hc⟩ := hc; subst hc; simp [e1, e2, eqGuard, binOp, Op.intDiv, hq])
  · rename_i p q
    intro h
    have e1 : a.eval x = .bool p := RD.sc_inv hx
    have e2 : a.eval y = .bool q := RD.sc_inv hy
    split at h
    case h_2 => exact h.elim
    rename_i hkd
    have hu : P.underlying t = some .bool := by
      have := (hW.types t (hW.known t (by rw [hkd]; simp))).kd
      rw [hkd] at this
      exact this
    cases hq : isEq op with
    | false => rw [hq] at h; exact h.elim
    | true =>
      rw [hq] at h
      refine ⟨_, h, Done.pure (v := .bool _) g ?_ (RD.sc _ rfl)⟩
      unfold execOp
      rw [hop]
      have he := run_equal_bool (P := P) w t p q hu
      cases op <;> simp [isEq] at hq <;> simp [isNeq, e1, e2, eqGuard, binOp, he] <;> first | rfl | (cases p <;> cases q <;> rfl)
  · rename_i p q
    intro h
    have e1 : a.eval x = .string p := RD.sc_inv hx
    have e2 : a.eval y = .string q := RD.sc_inv hy
    cases hq : isEq op with
    | true =>
      rw [hq] at h
      refine ⟨_, h, Done.pure (v := .bool _) g ?_ (RD.sc _ rfl)⟩
      unfold execOp
      rw [hop]
      cases op <;> simp [isEq] at hq <;> simp [isNeq, e1, e2, eqGuard, binOp, Op.stringOp]
    | false =>
      rw [hq] at h
      cases hq2 : isAdd op with
      | false => rw [hq2] at h; exact h.elim
      | true =>
        rw [hq2] at h
        obtain ⟨hl, hk⟩ := h
        refine ⟨_, hk, Done.pure (v := .string _) g ?_ (RD.sc _ rfl)⟩
        unfold execOp
        rw [hop]
        unfold maxLen at hl
        cases op <;> simp [isAdd] at hq2
        simp [e1, e2, eqGuard, binOp, Op.stringOp, IntKind.max, IntKind.signed, IntKind.bits]
        omega
  · intro h; exact h.elim
end
end Go.Proofs.YtpmlocilhhjifaaGreat.Eng
