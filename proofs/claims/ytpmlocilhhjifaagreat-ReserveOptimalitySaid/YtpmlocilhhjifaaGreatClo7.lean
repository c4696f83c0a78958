/- Package whole: Int64, by hand. -/
import Derived.Laws.EntriesVeiled
import Derived.Test.YtpmlocilhhjifaaGreatClo2
import Derived.Lib.LazyBuf
section
namespace Go.Proofs.YtpmlocilhhjifaaGreat.Eng
open Go.RowKit Go.Shelf Go.Proofs
attribute [local go_sem] Oper.semAt_some
set_option linter.unusedSimpArgs false
set_option linter.unusedVariables false
set_option maxRecDepth 100000
def int64V (i : Int) : Int := if -9223372036854775808 ≤ i ∧ i ≤ 9223372036854775807 then i else 0
def int64B (i : Int) : Bool := decide (-9223372036854775808 ≤ i ∧ i ≤ 9223372036854775807)
/-- A slice that reads as words is a magnitude in memory. -/
theorem mag_of_rd {w : World} {ok : Nat → Nat → Prop} {t : Nat} {ws : List Nat} {xs : List (List D)} {v : Value} (hx : xs = wl ws) (h : RD w ok (.sl t 1 xs) v) : Mag w.heap.size w v ws := by
  cases h with
  | nil =>
    have : ws = [] := by cases ws <;> simp [wl] at hx ⊢
    subst this
    exact ⟨none, 0, rfl, fun j x hj => by simp at hj⟩
  | sl _ _ _ a cap cs ht h1 h2 h3 h4 h5 h6 =>
    refine ⟨some a, cap, by rw [hx, wl_len], fun j x hj => ?_⟩
    have hj1 : xs[j]? = some [D.sc (.int .u32 (x : Int))] := by rw [hx]; simp [wl, hj]
    have hne : xs ≠ [] := fun e => by rw [e] at hj1; simp at hj1
    obtain ⟨g1, g2, g3⟩ := h1 hne
    have hc := h5 j 0 _ _ hj1 rfl
    have hr := RD.sc_inv (h6 j 0 _ _ hj1 rfl)
    obtain ⟨b, off, sp⟩ := a
    simp only at g1
    subst g1
    refine ⟨b, off, rfl, g3, ?_⟩
    simp only [Nat.mul_one, Nat.add_zero] at hc
    rw [hc, hr]
@[irreducible] def uS (u : Nat) (x : W2) : Nat := u / 4294967296 + 4294967296 * x.1.1
def uR (pre : List W2) : Nat := pre.foldl uS 0
theorem uR_snoc (pre : List W2) (x : W2) : uR (pre ++ [x]) = uS (uR pre) x := by simp [uR]
theorem uS_lt {u : Nat} (x : W2) (ih : u < 18446744073709551616) : uS u x < 18446744073709551616 := by
  have hx : x.1.1 < 4294967296 := by have := x.2.1; have := BW_eq; omega
  unfold uS
  omega
theorem uR_lt : ∀ pre : List W2, uR pre < 18446744073709551616 :=
  snoc_ind (p := fun pre => uR pre < 18446744073709551616) (Nat.lt_of_le_of_lt (Nat.le_refl 0) (by decide)) fun pre x ih => (uR_snoc pre x).symm ▸ uS_lt x ih
theorem int64_fin {ws : List Nat} (ho : Ok BW ws) (hl : ws.length ≤ 2) : (if ws.length = 1 then uR (prs2 ho Ok.nil (max ws.length ([] : List Nat).length)) / 4294967296 else uR (prs2 ho Ok.nil (max ws.length ([] : List Nat).length))) = val BW ws := by
  match ws, ho, hl with
  | [], ho, _ => simp [prs2, upto, uR, val]
  | [x], ho, _ =>
    have h : uR (prs2 ho Ok.nil (max [x].length ([] : List Nat).length)) = uS 0 (w2 ho Ok.nil 0) := rfl
    rw [if_pos (show [x].length = 1 from rfl), h]
    unfold uS
    show (0 / 4294967296 + 4294967296 * x) / 4294967296 = x + BW * 0
    omega
  | [x, y], ho, _ =>
    have h : uR (prs2 ho Ok.nil (max [x, y].length ([] : List Nat).length)) = uS (uS 0 (w2 ho Ok.nil 0)) (w2 ho Ok.nil 1) := rfl
    rw [if_neg (by simp), h]
    unfold uS
    show (0 / 4294967296 + 4294967296 * x) / 4294967296 + 4294967296 * y = x + BW * (y + BW * 0)
    have := BW_eq
    rw [Nat.mul_zero, Nat.add_zero, this]
    omega
  | _ :: _ :: _ :: _, _, h => simp at h
theorem sgT (n : Nat) : sg true n = -(n : Int) := rfl
theorem sgF (n : Nat) : sg false n = (n : Int) := rfl
theorem wid64 {n : Int} (h1 : -9223372036854775808 ≤ n) (h2 : n < 9223372036854775808) : wrap64 n = n := by
  unfold wrap64
  rw [Int.emod_eq_of_lt (by omega) (by omega)]
  omega
theorem wnn64 {u : Int} (h0 : 0 ≤ u) (h : u ≤ 9223372036854775808) : wrap64 (-wrap64 u) = -u := by
  rcases Int.lt_or_eq_of_le h with h | h
  · rw [wid64 (by omega) h, wid64 (by omega) (by omega)]
  · subst h
    simp [wrap64]
theorem whi64 {u : Int} (h0 : 9223372036854775808 ≤ u) (h : u < 18446744073709551616) : wrap64 u < 0 := by
  have e : u + 9223372036854775808 = (u - 9223372036854775808) + 18446744073709551616 := by omega
  unfold wrap64
  rw [e, Int.add_emod_right, Int.emod_eq_of_lt (by omega) (by omega)]
  omega
theorem nat_u64 {u : Nat} (h : u < 18446744073709551616) : (u : Int) < 18446744073709551616 := by omega
theorem lo64 {u : Int} (h1 : u < 18446744073709551616) (hw : 0 ≤ wrap64 u) : u < 9223372036854775808 := Int.not_le.1 fun hh => absurd hw (Int.not_le.2 (whi64 hh h1))
theorem hi64 {u : Int} (h0 : 0 ≤ u) (hw : wrap64 u < 0) : 9223372036854775808 ≤ u := Int.not_lt.1 fun hh => by
  rw [wid64 (by omega) hh] at hw
  omega
theorem div64 {u : Nat} (h : u < 18446744073709551616) : (u : Int) / 4294967296 < 9223372036854775808 := by omega
theorem i64_t {V : Nat} (h : (V : Int) ≤ 9223372036854775808) : int64V (sg true V) = -(V : Int) ∧ int64B (sg true V) = true := by
  rw [sgT, int64V, int64B, if_pos (by omega), decide_eq_true_eq]
  omega
theorem i64_tn {V : Nat} (h : 9223372036854775808 < (V : Int)) : int64V (sg true V) = 0 ∧ int64B (sg true V) = false := by
  rw [sgT, int64V, int64B, if_neg (by omega), decide_eq_false_iff_not]
  omega
theorem i64_f {V : Nat} (h : (V : Int) < 9223372036854775808) : int64V (sg false V) = (V : Int) ∧ int64B (sg false V) = true := by
  rw [sgF, int64V, int64B, if_pos (by omega), decide_eq_true_eq]
  omega
theorem i64_fn {V : Nat} (h : 9223372036854775808 ≤ (V : Int)) : int64V (sg false V) = 0 ∧ int64B (sg false V) = false := by
  rw [sgF, int64V, int64B, if_neg (by omega), decide_eq_false_iff_not]
  omega
end Go.Proofs.YtpmlocilhhjifaaGreat.Eng
end
section
namespace Go.Proofs.YtpmlocilhhjifaaGreat.Eng
open Go.RowKit Go.Shelf Go.Proofs
attribute [local go_sem] Oper.semAt_some
set_option linter.unusedSimpArgs false
set_option linter.unusedVariables false
set_option maxRecDepth 100000
set_option maxHeartbeats 1000000 in
theorem clone_in (F : Fence) (n : Nat) (h1f : F.fn 91) (hro : F.round = none) (a : List Nat) (va : Value) (hla : a.length ≤ 1000000) (w : World) (ma : Mag w.heap.size w va a) :
    CallsIn F n Tryz.prog 91 #[va] w fun e W' => ∃ v, e = .returned v ∧ Below w.heap.size w W' ∧ W'.ownsRow w.heap.size 56 1 v a.length (a.map fun (x : Nat) => Value.int .u32 (x : Int)) := by
  obtain ⟨i0, hi, hz0, hz1, hz2⟩ := info_parts infoW
  refine callsIn_of_wp Tryz.func91 rfl h1f ?_ hro
  simp only [Tryz.ntmps91, List.size_toArray, List.length_cons, List.length_nil, Nat.reduceAdd, Nat.reduceSub, Array.replicate_succ, Array.replicate_zero, List.push_toArray, List.append_toArray, List.nil_append, List.cons_append]
  obtain ⟨ad, cap, rfl, hc⟩ := ma
  have hnil : ∀ (ad : Option Addr) (m : Nat) (W : World), (binOp .eql 27 (.slice ad m cap) (.slice none 0 0)).run Tryz.prog W = .ok (.bool ad.isNone) W := fun ad m W => run_eql_slice_nil W _ _ ad m cap Tryz.underlying27
  cases ad with
  | none =>
    have hnil := fun m => hnil none m w
    have ha : a = [] := by
      cases a with
      | nil => rfl
      | cons x r => obtain ⟨b, off, e, _⟩ := hc 0 x rfl; cases e
    subst ha
    gi_wp2
    go_ret
    exact ⟨_, rfl, Below.refl _ _, rfl, .inl ⟨rfl, rfl⟩⟩
  | some ad =>
    have hnil := fun m => hnil (some ad) m w
    have hown : (w.alloc (.cells #[] 56)).ownsRow w.heap.size 56 1 (.slice (some ⟨w.heap.size, 0, none⟩) 0 0) 0 [] := ⟨rfl, .inr ⟨w.heap.size, 0, #[], rfl, Nat.le_refl _, World.alloc_heap_new w _, Nat.le_refl _, Nat.zero_le _, rfl, rfl⟩⟩
    have hnews : ∀ (j : Nat) u, (a.map fun (x : Nat) => Value.int .u32 (x : Int))[j]? = some u → (w.alloc (.cells #[] 56)).cell? (ad.add j) = some u := fun j u hj => by
      rw [List.getElem?_map] at hj
      cases hx : a[j]? with
      | none => rw [hx] at hj; cases hj
      | some x =>
        rw [hx] at hj
        obtain ⟨b, off, e, hb, hcc⟩ := hc j x hx
        cases e
        have e2 : (Addr.mk b off none).add j = ⟨b, off + j, none⟩ := by
          unfold Addr.add
          by_cases h0 : j = 0 <;> simp [h0]
        rw [e2]
        have : some (Value.int .u32 (x : Int)) = some u := hj
        rw [← this]
        exact (((Below.refl w.heap.size w).alloc (Nat.le_refl _) _).cell (p := ⟨b, off + j, none⟩) hb).trans hcc
    gi_wp2_with (gi_at_builtin; refine wpListIn_append_own _ rfl _ _ 27 rfl w.heap.size 56 i0 (.int .u32 0) 1 4 Tryz.underlying27 hi hz0 hz1 hz2 rfl (by decide) _ _ _ rfl hown ad a.length cap _ rfl (by simp) hnews (by intro u hu; obtain ⟨x, _, rfl⟩ := List.mem_map.1 hu; rfl) (by simp [maxLen]; omega) (by omega) (by simp) ?_; intro v' w1 hown' hgrow _)
    go_ret
    exact ⟨v', rfl, ((Below.refl w.heap.size w).alloc (Nat.le_refl _) _).grown hgrow (by simp) fun k e => by simp [Act.eval, Value.ownBlock] at e; omega, by simpa using hown'⟩
/-- What lies at place q when k swaps are over. -/
def revL (l : List UInt8) (k q : Nat) : UInt8 := if q < k ∨ l.length ≤ q + k then (l[l.length - 1 - q]?).getD 0 else (l[q]?).getD 0
theorem revL_k {l : List UInt8} {k j : Nat} (hj : j + k + 1 = l.length) (h : k < j) : revL l (k + 1) k = revL l k j := by
  unfold revL
  rw [if_pos (by omega), if_neg (by omega), show l.length - 1 - k = j by omega]
theorem revL_j {l : List UInt8} {k j : Nat} (hj : j + k + 1 = l.length) (h : k < j) : revL l (k + 1) j = revL l k k := by
  unfold revL
  rw [if_pos (by omega), if_neg (by omega), show l.length - 1 - j = k by omega]
theorem revL_o {l : List UInt8} {k j q : Nat} (hj : j + k + 1 = l.length) (h1 : q ≠ k) (h2 : q ≠ j) : revL l (k + 1) q = revL l k q := by
  unfold revL
  by_cases h : q < k ∨ l.length ≤ q + k
  · rw [if_pos (by omega), if_pos h]
  · rw [if_neg (by omega), if_neg h]
theorem revL_end {l : List UInt8} {k q : Nat} (hk : l.length ≤ 2 * k + 1) (hq : q < l.length) : revL l k q = (l[l.length - 1 - q]?).getD 0 := by
  unfold revL
  by_cases h : q < k ∨ l.length ≤ q + k
  · rw [if_pos h]
  · rw [if_neg h, show l.length - 1 - q = q by omega]
theorem set_heap {W : World} {g off e : Nat} {arr : Array Value} (h : W.heap[g]? = some (.cells arr e (0, 0))) (v : Value) : (W.setCell ⟨g, off, none⟩ v).heap[g]? = some (.cells (arr.setIfInBounds off v) e (0, 0)) := by
  obtain ⟨hlt, hk⟩ := Array.getElem?_eq_some_iff.1 h
  show (W.heap.modify g _)[g]? = _
  rw [Array.getElem?_eq_getElem (by rw [Array.size_modify]; exact hlt), Array.getElem_modify_self, hk]
  rfl
end Go.Proofs.YtpmlocilhhjifaaGreat.Eng
end
