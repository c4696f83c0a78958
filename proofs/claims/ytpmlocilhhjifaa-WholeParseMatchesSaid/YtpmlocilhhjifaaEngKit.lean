/- How the abstract machine's stops are passed: one small lemma each. -/
import Derived.Test.YtpmlocilhhjifaaEngPre
set_option linter.unusedSimpArgs false
set_option linter.unusedVariables false
namespace Go.Proofs.Ytpmlocilhhjifaa.Eng
open Go.RowKit
section
variable {T : Nat → List DV → List DV → Prop} {π : Pi}

def inR (k : IntKind) (n : Int) : Prop := match k with
  | .i8 => -128 ≤ n ∧ n ≤ 127
  | .i16 => -32768 ≤ n ∧ n ≤ 32767
  | .i32 => -2147483648 ≤ n ∧ n ≤ 2147483647
  | .i64 => -9223372036854775808 ≤ n ∧ n ≤ 9223372036854775807
  | .u8 => 0 ≤ n ∧ n ≤ 255
  | .u16 => 0 ≤ n ∧ n ≤ 65535
  | .u32 => 0 ≤ n ∧ n ≤ 4294967295
  | .u64 => 0 ≤ n ∧ n ≤ 18446744073709551615
theorem wrap_id {k : IntKind} {n : Int} (h : inR k n) : k.wrap n = n := by
  cases k <;> simp only [inR] at h <;> simp only [IntKind.wrap, IntKind.bits, IntKind.signed] <;> simp <;> omega
theorem wrap_u {k : IntKind} {n : Int} (hk : k.signed = false) : k.wrap n = n % 2 ^ k.bits := by
  cases k <;> simp [IntKind.signed] at hk <;> simp [IntKind.wrap, IntKind.bits, IntKind.signed]
def cmpP (op : BinOp) (a b : Int) : Prop := match op with
  | .eql => a = b
  | .neq => a ≠ b
  | .lss => a < b
  | .leq => a ≤ b
  | .gtr => b < a
  | .geq => b ≤ a
  | _ => False
variable (h : Good T π)
include h
theorem Good.add' {k : IntKind} {a b : Int} {K : Int → Prop} (hr : inR k (a + b)) (hk : ∀ c, c = a + b → K c) : π.arith .add k a b K := h.arith _ _ _ _ _ ⟨_, rfl, hk _ (wrap_id hr)⟩
theorem Good.sub' {k : IntKind} {a b : Int} {K : Int → Prop} (hr : inR k (a - b)) (hk : ∀ c, c = a - b → K c) : π.arith .sub k a b K := h.arith _ _ _ _ _ ⟨_, rfl, hk _ (wrap_id hr)⟩
theorem Good.mul' {k : IntKind} {a b : Int} {K : Int → Prop} (hr : inR k (a * b)) (hk : ∀ c, c = a * b → K c) : π.arith .mul k a b K := h.arith _ _ _ _ _ ⟨_, rfl, hk _ (wrap_id hr)⟩
theorem Good.addw {k : IntKind} {a b : Int} {K : Int → Prop} (hk : ∀ c, c = k.wrap (a + b) → K c) : π.arith .add k a b K := h.arith _ _ _ _ _ ⟨_, rfl, hk _ rfl⟩
theorem Good.subw {k : IntKind} {a b : Int} {K : Int → Prop} (hk : ∀ c, c = k.wrap (a - b) → K c) : π.arith .sub k a b K := h.arith _ _ _ _ _ ⟨_, rfl, hk _ rfl⟩
theorem Good.mulw {k : IntKind} {a b : Int} {K : Int → Prop} (hk : ∀ c, c = k.wrap (a * b) → K c) : π.arith .mul k a b K := h.arith _ _ _ _ _ ⟨_, rfl, hk _ rfl⟩
theorem Good.quo' {k : IntKind} {a b : Int} {K : Int → Prop} (ha : 0 ≤ a) (hb : 0 < b) (hr : inR k a) (hk : ∀ c, c = a / b → K c) : π.arith .quo k a b K := by
  have h1 : a.tdiv b = a / b := Int.tdiv_eq_ediv_of_nonneg ha
  have h2 : a / b ≤ a := Int.ediv_le_self b ha
  have h3 : 0 ≤ a / b := Int.ediv_nonneg ha (by omega)
  have h4 : inR k (a / b) := by cases k <;> simp only [inR] at hr ⊢ <;> omega
  refine h.arith _ _ _ _ _ ⟨a / b, ?_, hk _ rfl⟩
  simp only [arithF]
  rw [if_neg (by omega), h1, wrap_id h4]
theorem Good.rem' {k : IntKind} {a b : Int} {K : Int → Prop} (ha : 0 ≤ a) (hb : 0 < b) (hk : ∀ c, c = a % b → K c) : π.arith .rem k a b K := by
  refine h.arith _ _ _ _ _ ⟨a % b, ?_, hk _ rfl⟩
  simp only [arithF]
  rw [if_neg (by omega), Int.tmod_eq_emod_of_nonneg ha]
theorem Good.shr' {k : IntKind} {a b : Int} {K : Int → Prop} (m : Nat) (hm : b = (m : Int)) (hb2 : m ≤ k.bits) (hk : ∀ c, c = a / 2 ^ m → K c) : π.arith .shr k a b K := by
  refine h.arith _ _ _ _ _ ⟨a / 2 ^ m, ?_, hk _ rfl⟩
  subst hm
  simp only [arithF, Int.toNat_natCast]
  rw [if_neg (by omega), Nat.min_eq_left (by omega), Int.fdiv_eq_ediv_of_nonneg _ (Int.pow_nonneg (by omega))]
theorem Good.shl' {k : IntKind} {a b : Int} {K : Int → Prop} (m : Nat) (hm : b = (m : Int)) (hb2 : m ≤ k.bits) (hr : inR k (a * 2 ^ m)) (hk : ∀ c, c = a * 2 ^ m → K c) : π.arith .shl k a b K := by
  refine h.arith _ _ _ _ _ ⟨a * 2 ^ m, ?_, hk _ rfl⟩
  subst hm
  simp only [arithF, Int.toNat_natCast]
  rw [if_neg (by omega), Nat.min_eq_left (by omega), wrap_id hr]
theorem Good.shlw {k : IntKind} {a b : Int} {K : Int → Prop} (m : Nat) (hm : b = (m : Int)) (hb2 : m ≤ k.bits) (hk : ∀ c, c = k.wrap (a * 2 ^ m) → K c) : π.arith .shl k a b K := by
  refine h.arith _ _ _ _ _ ⟨_, ?_, hk _ rfl⟩
  subst hm
  simp only [arithF, Int.toNat_natCast]
  rw [if_neg (by omega), Nat.min_eq_left (by omega)]
theorem Good.conv' {k : IntKind} {a : Int} {K : Int → Prop} (hk : ∀ c, c = k.wrap a → K c) : π.conv k a K := h.conv _ _ _ (hk _ rfl)
theorem Good.convi {k : IntKind} {a : Int} {K : Int → Prop} (hr : inR k a) (hk : K a) : π.conv k a K := h.conv _ _ _ (show K (k.wrap a) from by rw [wrap_id hr]; exact hk)
theorem Good.yes {op : BinOp} {a b : Int} {K : Bool → Prop} (hc : cmpP op a b) (hk : K true) : π.cmp op a b K := by
  refine h.cmp _ _ _ _ ⟨true, ?_, hk⟩
  cases op <;> simp [cmpP] at hc <;> simp [cmpF, hc]
theorem Good.no {op : BinOp} {a b : Int} {K : Bool → Prop} (ho : isCmp op = true) (hc : ¬ cmpP op a b) (hk : K false) : π.cmp op a b K := by
  refine h.cmp _ _ _ _ ⟨false, ?_, hk⟩
  cases op <;> simp [isCmp] at ho <;> simp [cmpP] at hc <;> simp [cmpF, hc]
theorem Good.dec {op : BinOp} {a b : Int} {K : Bool → Prop} (ho : isCmp op = true) (h1 : cmpP op a b → K true) (h2 : ¬ cmpP op a b → K false) : π.cmp op a b K := by
  by_cases hc : cmpP op a b
  · exact h.yes hc (h1 hc)
  · exact h.no ho hc (h2 hc)
theorem Good.beq' {n p q : Bool} {K : Bool → Prop} (hk : ∀ c, c = (bif n then p != q else p == q) → K c) : π.beq n p q K := h.beq _ _ _ _ (by cases n <;> exact hk _ rfl)
theorem Good.call' {f : Nat} {args : List DV} {K : List DV → Prop} (rs : List DV) (ht : T f args rs) (hk : K rs) : π.call f args K := h.call _ _ _ ⟨rs, ht, hk⟩
theorem Good.mut' {f : Nat} {xs : List (List D)} {K : List (List D) → Prop} (ys : List (List D)) (ht : T f [.one (.sl 1 0 xs)] [.one (.sl 1 0 ys)]) (hk : K ys) : π.turn f xs K := h.turn _ _ _ ⟨ys, ht, hk⟩
theorem Good.get' {xs : List (List D)} {i : Int} {K : List D → Prop} (k : Nat) (x : List D) (hi : i = (k : Int)) (hx : xs[k]? = some x) (hk : K x) : π.get xs i K := h.get _ _ _ ⟨k, x, hi, hx, hk⟩
theorem Good.getN' {xs : List (List D)} {i : Nat} {K : List D → Prop} (x : List D) (hx : xs[i]? = some x) (hk : K x) : π.getN xs i K := h.getN _ _ _ ⟨x, hx, hk⟩
theorem Good.inb' {xs : List (List D)} {i : Int} {K : Nat → Prop} (k : Nat) (hi : i = (k : Int)) (hl : k < xs.length) (hk : ∀ j, j = k → K j) : π.inb xs i K := h.inb _ _ _ ⟨k, hi, hl, hk _ rfl⟩
theorem Good.put' {xs : List (List D)} {i : Nat} {f : List D → Option (List D)} {K : List (List D) → Prop} (x x' : List D) (hx : xs[i]? = some x) (hf : f x = some x') (hl : x'.length = x.length) (hk : ∀ ys, ys = xs.set i x' → K ys) : π.put xs i f K :=
  h.put _ _ _ _ ⟨x, x', hx, hf, hl, hk _ rfl⟩
theorem Good.app' {b s : Nat} {xs ys : List (List D)} {K : List (List D) → Prop} (h0 : 0 < s) (h1 : ∀ y ∈ ys, y.length = s) (h2 : xs.length + ys.length ≤ maxLen) (h3 : (xs.length + ys.length) * b ≤ 140737488355328) (hk : ∀ zs, zs = xs ++ ys → K zs) : π.app b s xs ys K :=
  h.app _ _ _ _ _ ⟨h0, h1, h2, h3, hk _ rfl⟩
theorem Good.len' {xs : List (List D)} {K : Int → Prop} (hk : ∀ n, n = (xs.length : Int) → K n) : π.len xs K := h.len _ _ (hk _ rfl)
theorem Good.mks' {b : Nat} {n c : Int} {z : List D} {K : List (List D) → Prop} (k : Nat) (h1 : n = (k : Int)) (h2 : c = (k : Int)) (h3 : b * k ≤ 281474976710656) (h4 : k ≤ maxLen) (h5 : z ≠ []) (hk : ∀ xs, xs = List.replicate k z → K xs) : π.mks b n c z K :=
  h.mks _ _ _ _ _ ⟨k, h1, h2, h3, h4, h5, hk _ rfl⟩
theorem Good.sli' {xs : List (List D)} {l u : Option Int} {K : List (List D) → Prop} (lo hi : Nat) (h1 : loOk l lo) (h2 : hiOk u xs.length hi) (h3 : lo ≤ hi) (h4 : hi ≤ xs.length) (hk : ∀ ys, ys = (xs.take hi).drop lo → K ys) : π.sli xs l u K :=
  h.sli _ _ _ _ ⟨lo, hi, h1, h2, h3, h4, hk _ rfl⟩
theorem Good.slen' {s : ByteArray} {K : Int → Prop} (hk : ∀ n, n = (s.size : Int) → K n) : π.slen s K := h.slen _ _ (hk _ rfl)
theorem Good.sidx' {s : ByteArray} {i : Int} {K : Int → Prop} (k : Nat) (c : UInt8) (hi : i = (k : Int)) (hc : s[k]? = some c) (hk : ∀ n, n = (c.toNat : Int) → K n) : π.sidx s i K := h.sidx _ _ _ ⟨k, c, hi, hc, hk _ rfl⟩
theorem Good.ssli' {s : ByteArray} {l u : Option Int} {K : ByteArray → Prop} (lo hi : Nat) (h1 : loOk l lo) (h2 : hiOk u s.size hi) (h3 : lo ≤ hi) (h4 : hi ≤ s.size) (hk : ∀ t, t = s.extract lo hi → K t) : π.ssli s l u K :=
  h.ssli _ _ _ _ ⟨lo, hi, h1, h2, h3, h4, hk _ rfl⟩
theorem Good.scat' {a b : ByteArray} {K : ByteArray → Prop} (hl : a.size + b.size ≤ maxLen) (hk : ∀ t, t = a ++ b → K t) : π.scat a b K := h.scat _ _ _ ⟨hl, hk _ rfl⟩
theorem Good.scmp' {n : Bool} {a b : ByteArray} {K : Bool → Prop} (hk : ∀ c, c = (match n with | true => !(a.toList == b.toList) | false => a.toList == b.toList) → K c) : π.scmp n a b K := h.scmp _ _ _ _ (hk _ rfl)
theorem Good.ofb' {xs : List (List D)} {K : ByteArray → Prop} (l : List UInt8) (hx : xs = l.map byteD) (hk : ∀ t, t = ⟨l.toArray⟩ → K t) : π.ofb xs K := h.ofb _ _ ⟨l, hx, hk _ rfl⟩
theorem Good.chk' {b : Bool} {K : Prop} (hb : b = true) (hk : K) : π.chk b K := h.chk _ _ ⟨hb, hk⟩
theorem Good.loop' {F : (Exit → AS → Prop) → AS → Prop} {K : Exit → AS → Prop} {S : AS} (ι : Type) (P : ι → Prop) (I : ι → AL) (m : ι → Nat) (i₀ : ι) (h0 : P i₀) (hw : Wk S (I i₀))
    (hr : ∀ i (R : AS → Prop), P i → (∀ S' j, P j → m j < m i → Wk S' (I j) → R S') → F (fun e S' => match e with | .normal => R S' | e => K e S') (I i).as) : π.loop F K S :=
  h.loop _ _ _ ⟨{i : ι // P i}, fun i => I i.1, fun i => m i.1, ⟨i₀, h0⟩, hw, fun i => hr i.1 _ i.2 fun S' j hj hm hw => ⟨⟨j, hj⟩, hm, hw⟩⟩
omit h
def renF (l : List (Nat × Option Nat)) (s : Nat) : Option Nat := match l with
  | [] => none
  | (j, x) :: r => bif Nat.beq j s then x else renF r s
def wkB (S : AS) (ren : Nat → Option Nat) : List (Nat × BE) → Prop
  | [] => True
  | (s, be) :: l => WB S ren s be ∧ wkB S ren l
def wkT (S : AS) (L : AL) (ren : Nat → Option Nat) : List (Nat × AT) → Prop
  | [] => True
  | (k, x) :: l => WT S L ren (S.t k) x ∧ wkT S L ren l
def renOk1 (r : Option Nat) : List (Nat × Option Nat) → Bool
  | [] => true
  | (_, x) :: l => (match r, x with | some a, some b => !Nat.beq a b | _, _ => true) && renOk1 r l
def renOk : List (Nat × Option Nat) → Bool
  | [] => true
  | (_, r) :: l => renOk1 r l && renOk l
theorem renOk1_at {r : Nat} : ∀ {l : List (Nat × Option Nat)}, renOk1 (some r) l = true → ∀ s, renF l s ≠ some r
  | [], _, s, h => by cases h
  | (j, x) :: l, h, s, hs => by
    simp only [renOk1, Bool.and_eq_true] at h
    simp only [renF] at hs
    cases hb : Nat.beq j s with
    | true =>
      rw [hb] at hs
      simp only [cond_true] at hs
      subst hs
      simp [Nat.beq_refl] at h
    | false => rw [hb] at hs; exact renOk1_at h.2 s hs
theorem renNo {r : Nat} {l : List (Nat × Option Nat)} (h : renOk1 (some r) l = true) : ∀ s, renF l s ≠ some r := renOk1_at h
theorem renOk_inj : ∀ {l : List (Nat × Option Nat)}, renOk l = true → ∀ s s' r, renF l s = some r → renF l s' = some r → s = s'
  | [], _, s, s', r, h, _ => by cases h
  | (j, x) :: l, h, s, s', r, h1, h2 => by
    simp only [renOk, Bool.and_eq_true] at h
    simp only [renF] at h1 h2
    cases hb : Nat.beq j s <;> cases hb' : Nat.beq j s' <;> rw [hb] at h1 <;> rw [hb'] at h2 <;> simp only [cond_true, cond_false] at h1 h2
    · exact renOk_inj h.2 s s' r h1 h2
    · subst h2; exact absurd h1 (renOk1_at h.1 s)
    · subst h1; exact absurd h2 (renOk1_at h.1 s')
    · exact (Nat.eq_of_beq_eq_true hb).symm.trans (Nat.eq_of_beq_eq_true hb')
theorem Wk.of {S : AS} {L : AL} (ren : List (Nat × Option Nat)) (h1 : renOk ren = true) (h2 : wkB S (renF ren) L.b) (h3 : wkT S L (renF ren) L.t) : Wk S L := by
  refine ⟨renF ren, fun s s' r a b _ _ => renOk_inj h1 s s' r a b, fun s => ?_, fun k => ?_⟩
  · have : ∀ l, wkB S (renF ren) l → WB S (renF ren) s (lkb l s) := by
      intro l
      induction l with
      | nil => intro _; trivial
      | cons q l ih =>
        obtain ⟨j, be⟩ := q
        intro hh
        simp only [lkb]
        cases hb : Nat.beq j s with
        | true => have := Nat.eq_of_beq_eq_true hb; subst this; exact hh.1
        | false => exact ih hh.2
    exact this _ h2
  · have : ∀ l, wkT S L (renF ren) l → WT S L (renF ren) (S.t k) (lk l k) := by
      intro l
      induction l with
      | nil => intro _; trivial
      | cons q l ih =>
        obtain ⟨j, x⟩ := q
        intro hh
        simp only [lk]
        cases hb : Nat.beq j k with
        | true => have := Nat.eq_of_beq_eq_true hb; subst this; exact hh.1
        | false => exact ih hh.2
    exact this _ h3
end
end Go.Proofs.Ytpmlocilhhjifaa.Eng
