/- Numbers as lists of digits. No program in sight. -/
import Derived.Test.YtpmlocilhhjifaaGreatEngKit
section
set_option linter.unusedSimpArgs false
set_option linter.unusedVariables false
namespace Go.Proofs.YtpmlocilhhjifaaGreat.Eng
open Go.RowKit

def val (B : Nat) : List Nat → Nat
  | [] => 0
  | x :: r => x + B * val B r
def Ok (B : Nat) (ws : List Nat) : Prop := ∀ x ∈ ws, x < B
def dgF (B : Nat) : Nat → Nat → List Nat
  | 0, _ => []
  | f + 1, n => if n = 0 then [] else n % B :: dgF B f (n / B)
def dg (B n : Nat) : List Nat := dgF B n n
theorem Ok.cons {B x : Nat} {r : List Nat} (h : Ok B (x :: r)) : x < B ∧ Ok B r := ⟨h x (by simp), fun y hy => h y (by simp [hy])⟩
theorem Ok.of {B x : Nat} {r : List Nat} (h : x < B) (h' : Ok B r) : Ok B (x :: r) := fun y hy => by
  rcases List.mem_cons.1 hy with rfl | hy
  · exact h
  · exact h' y hy
theorem Ok.nil {B : Nat} : Ok B [] := fun y hy => by cases hy
theorem Ok.app {B : Nat} {a b : List Nat} (h : Ok B a) (h' : Ok B b) : Ok B (a ++ b) := fun y hy => by
  rcases List.mem_append.1 hy with hy | hy
  · exact h y hy
  · exact h' y hy
theorem Ok.left {B : Nat} {a b : List Nat} (h : Ok B (a ++ b)) : Ok B a := fun y hy => h y (by simp [hy])
theorem Ok.right {B : Nat} {a b : List Nat} (h : Ok B (a ++ b)) : Ok B b := fun y hy => h y (by simp [hy])
theorem Ok.take {B : Nat} {a : List Nat} (n : Nat) (h : Ok B a) : Ok B (a.take n) := fun y hy => h y (List.mem_of_mem_take hy)
theorem Ok.drop {B : Nat} {a : List Nat} (n : Nat) (h : Ok B a) : Ok B (a.drop n) := fun y hy => h y (List.mem_of_mem_drop hy)
theorem Ok.get {B : Nat} {a : List Nat} (h : Ok B a) {i x : Nat} (hx : a[i]? = some x) : x < B := h x (List.mem_of_getElem? hx)
theorem Ok.rep {B n x : Nat} (h : x < B) : Ok B (List.replicate n x) := fun y hy => by rw [List.eq_of_mem_replicate hy]; exact h
theorem Ok.set {B n x : Nat} {a : List Nat} (h : Ok B a) (hx : x < B) : Ok B (a.set n x) := fun y hy => by
  rcases List.mem_or_eq_of_mem_set hy with h1 | h1
  · exact h y h1
  · rw [h1]; exact hx
theorem val_app (B : Nat) : ∀ (a b : List Nat), val B (a ++ b) = val B a + B ^ a.length * val B b
  | [], b => by simp [val]
  | x :: a, b => by
    simp only [List.cons_append, val, val_app B a b, List.length_cons, Nat.pow_succ, Nat.mul_add, Nat.add_assoc]
    rw [Nat.mul_comm (B ^ a.length) B, Nat.mul_assoc]
theorem val_snoc (B : Nat) (a : List Nat) (x : Nat) : val B (a ++ [x]) = val B a + B ^ a.length * x := by rw [val_app]; simp [val]
theorem val_take_drop (B : Nat) (a : List Nat) (k : Nat) : val B a = val B (a.take k) + B ^ (a.take k).length * val B (a.drop k) := by
  rw [← val_app, List.take_append_drop]
theorem val_rep0 (B n : Nat) : val B (List.replicate n 0) = 0 := by
  induction n with
  | zero => rfl
  | succ n ih => simp [List.replicate_succ, val, ih]
theorem val_lt {B : Nat} : ∀ {ws : List Nat}, Ok B ws → val B ws < B ^ ws.length
  | [], _ => by simp [val]
  | x :: r, h => by
    have h1 := h.cons.1
    have h2 := val_lt h.cons.2
    simp only [val, List.length_cons, Nat.pow_succ]
    have : B * (val B r + 1) ≤ B * B ^ r.length := Nat.mul_le_mul_left _ h2
    rw [Nat.mul_comm (B ^ r.length) B]
    rw [Nat.mul_add] at this
    omega
theorem val_set (B : Nat) : ∀ (a : List Nat) (i x y : Nat), a[i]? = some y → val B (a.set i x) + B ^ i * y = val B a + B ^ i * x
  | [], i, x, y, h => by simp at h
  | z :: a, 0, x, y, h => by simp at h; subst h; simp [val]; omega
  | z :: a, i + 1, x, y, h => by
    have := val_set B a i x y (by simpa using h)
    simp only [List.set_cons_succ, val, Nat.pow_succ]
    have h2 := congrArg (B * ·) this
    simp only [Nat.mul_add] at h2
    rw [Nat.mul_comm (B ^ i) B, Nat.mul_assoc, Nat.mul_assoc]
    omega
theorem dgF_val {B : Nat} (hB : 2 ≤ B) : ∀ (f n : Nat), n ≤ f → val B (dgF B f n) = n
  | 0, n, h => by simp [dgF, val]; omega
  | f + 1, n, h => by
    simp only [dgF]
    by_cases hn : n = 0
    · simp [hn, val]
    · have h1 : n / B < n := Nat.div_lt_self (by omega) hB
      rw [if_neg hn, val, dgF_val hB f (n / B) (by omega)]
      have := Nat.div_add_mod n B
      omega
theorem dg_val {B : Nat} (hB : 2 ≤ B) (n : Nat) : val B (dg B n) = n := dgF_val hB n n (Nat.le_refl _)
theorem dgF_ok {B : Nat} (hB : 2 ≤ B) : ∀ (f n : Nat), Ok B (dgF B f n)
  | 0, n => Ok.nil
  | f + 1, n => by
    simp only [dgF]
    by_cases hn : n = 0
    · rw [if_pos hn]; exact Ok.nil
    · rw [if_neg hn]; exact Ok.of (Nat.mod_lt _ (by omega)) (dgF_ok hB f _)
theorem dg_ok {B : Nat} (hB : 2 ≤ B) (n : Nat) : Ok B (dg B n) := dgF_ok hB n n
/-- No zero at the end. -/
def Can (ws : List Nat) : Prop := ws.getLast? ≠ some 0
theorem dgF_can {B : Nat} (hB : 2 ≤ B) : ∀ (f n : Nat), n ≤ f → Can (dgF B f n)
  | 0, n, h => by simp [dgF, Can]
  | f + 1, n, h => by
    simp only [dgF]
    by_cases hn : n = 0
    · simp [hn, Can]
    · have h1 : n / B < n := Nat.div_lt_self (by omega) hB
      rw [if_neg hn]
      have h2 := dgF_can hB f (n / B) (by omega)
      have h3 := dgF_val hB f (n / B) (by omega)
      unfold Can at h2 ⊢
      cases hd : dgF B f (n / B) with
      | nil =>
        rw [hd] at h3
        simp only [val] at h3
        have := Nat.div_add_mod n B
        rw [← h3] at this
        simp
        omega
      | cons y r =>
        rw [hd] at h2
        rw [List.getLast?_cons_cons]
        exact h2
theorem dg_can {B : Nat} (hB : 2 ≤ B) (n : Nat) : Can (dg B n) := dgF_can hB n n (Nat.le_refl _)
theorem can_cons {x : Nat} {r : List Nat} (h : Can (x :: r)) : Can r := by
  unfold Can at h ⊢
  cases r with
  | nil => simp
  | cons y r => rwa [List.getLast?_cons_cons] at h
theorem can_pos {B : Nat} (hB : 0 < B) : ∀ {ws : List Nat}, Can ws → val B ws = 0 → ws = []
  | [], _, _ => rfl
  | x :: r, h, h0 => by
    simp only [val] at h0
    have h1 : val B r = 0 := by
      rcases Nat.eq_zero_or_pos (val B r) with h | h
      · exact h
      · have := Nat.mul_pos hB h; omega
    have h2 := can_pos hB (can_cons h) h1
    subst h2
    exact absurd (by simp; omega) h
theorem can_inj {B : Nat} (hB : 2 ≤ B) : ∀ {a b : List Nat}, Ok B a → Ok B b → Can a → Can b → val B a = val B b → a = b
  | [], b, _, _, _, hb, h => (can_pos (by omega) hb h.symm).symm
  | x :: a, [], _, _, ha, _, h => by exact absurd (can_pos (by omega) ha h) (by simp)
  | x :: a, y :: b, oa, ob, ha, hb, h => by
    simp only [val] at h
    have h1 := oa.cons.1
    have h2 := ob.cons.1
    have h3 : x = y := by
      have := congrArg (· % B) h
      simp only [Nat.add_mul_mod_self_left] at this
      rwa [Nat.mod_eq_of_lt h1, Nat.mod_eq_of_lt h2] at this
    subst h3
    have h4 : val B a = val B b := Nat.eq_of_mul_eq_mul_left (by omega : 0 < B) (by omega)
    rw [can_inj hB oa.cons.2 ob.cons.2 (can_cons ha) (can_cons hb) h4]
theorem dg_of {B : Nat} (hB : 2 ≤ B) {ws : List Nat} (ho : Ok B ws) (hc : Can ws) : dg B (val B ws) = ws :=
  can_inj hB (dg_ok hB _) ho (dg_can hB _) hc (dg_val hB _)
theorem dg_inj {B : Nat} (hB : 2 ≤ B) {m n : Nat} (h : dg B m = dg B n) : m = n := by rw [← dg_val hB m, h, dg_val hB]
theorem dg_zero (B : Nat) : dg B 0 = [] := rfl
theorem dg_nil {B : Nat} (hB : 2 ≤ B) {n : Nat} : dg B n = [] ↔ n = 0 := ⟨fun h => by rw [← dg_val hB n, h]; rfl, fun h => by subst h; rfl⟩
theorem val_ge_of_can {B : Nat} (hB : 0 < B) : ∀ {ws : List Nat}, Can ws → ws ≠ [] → B ^ (ws.length - 1) ≤ val B ws
  | [], _, h => absurd rfl h
  | [x], h, _ => by simp [Can] at h; simp [val]; omega
  | x :: y :: r, h, _ => by
    have := val_ge_of_can hB (can_cons h) (by simp)
    simp only [val, List.length_cons, Nat.add_sub_cancel, Nat.pow_succ] at this ⊢
    have h2 := Nat.mul_le_mul_left B this
    rw [Nat.mul_comm (B ^ r.length) B]
    omega
theorem dg_len {B : Nat} (hB : 2 ≤ B) {n k : Nat} (h : n < B ^ k) : (dg B n).length ≤ k := by
  by_cases h0 : dg B n = []
  · simp [h0]
  · have := val_ge_of_can (by omega : 0 < B) (dg_can hB n) h0
    rw [dg_val hB] at this
    have h2 : B ^ ((dg B n).length - 1) < B ^ k := by omega
    have := (Nat.pow_lt_pow_iff_right (by omega : 1 < B)).1 h2
    omega
theorem lt_dg_len {B : Nat} (hB : 2 ≤ B) (n : Nat) : n < B ^ (dg B n).length := by
  have := val_lt (dg_ok hB n)
  rwa [dg_val hB] at this
theorem dg_len_val {B : Nat} (hB : 2 ≤ B) {ws : List Nat} (h : Ok B ws) : (dg B (val B ws)).length ≤ ws.length := dg_len hB (val_lt h)
theorem dg_len_mono {B : Nat} (hB : 2 ≤ B) {m n : Nat} (h : m ≤ n) : (dg B m).length ≤ (dg B n).length := dg_len hB (Nat.lt_of_le_of_lt h (lt_dg_len hB n))
theorem dg_len_add {B : Nat} (hB : 2 ≤ B) (m n : Nat) : (dg B (m + n)).length ≤ max (dg B m).length (dg B n).length + 1 := by
  refine dg_len hB ?_
  have h1 := lt_dg_len hB m
  have h2 := lt_dg_len hB n
  have h3 : B ^ (dg B m).length ≤ B ^ max (dg B m).length (dg B n).length := Nat.pow_le_pow_right (by omega) (by omega)
  have h4 : B ^ (dg B n).length ≤ B ^ max (dg B m).length (dg B n).length := Nat.pow_le_pow_right (by omega) (by omega)
  rw [Nat.pow_succ]
  have := Nat.mul_le_mul_left (B ^ max (dg B m).length (dg B n).length) hB
  omega
theorem dg_len_mul {B : Nat} (hB : 2 ≤ B) (m n : Nat) : (dg B (m * n)).length ≤ (dg B m).length + (dg B n).length := by
  refine dg_len hB ?_
  have h1 := lt_dg_len hB m
  have h2 := lt_dg_len hB n
  rw [Nat.pow_add]
  exact Nat.mul_lt_mul'' h1 h2
theorem can_take {B : Nat} (hB : 2 ≤ B) {ws : List Nat} (ho : Ok B ws) (k : Nat) (h0 : ∀ j x, k ≤ j → ws[j]? = some x → x = 0) : val B (ws.take k) = val B ws := by
  have h1 : val B (ws.drop k) = 0 := by
    have : ws.drop k = List.replicate (ws.drop k).length 0 := by
      refine List.eq_replicate_iff.2 ⟨rfl, fun b hb => ?_⟩
      obtain ⟨j, hj⟩ := List.mem_iff_getElem?.1 hb
      rw [List.getElem?_drop] at hj
      exact h0 _ _ (by omega) hj
    rw [this, val_rep0]
  have := val_take_drop B ws k
  rw [h1] at this
  omega

def BW : Nat := 4294967296
def BH : Nat := 65536
theorem BW_eq : BW = 4294967296 := rfl
theorem BH_eq : BH = 65536 := rfl
theorem BW2 : 2 ≤ BW := by decide
theorem BH2 : 2 ≤ BH := by decide
theorem BW0 : 0 < BW := by decide
theorem BH0 : 0 < BH := by decide
/-- Words, halves, as data. -/
def wl (ws : List Nat) : List (List D) := ws.map fun (n : Nat) => [D.sc (.int .u32 (n : Int))]
def hl (ws : List Nat) : List (List D) := ws.map fun (n : Nat) => [D.sc (.int .i64 (n : Int))]
theorem wl_len (ws : List Nat) : (wl ws).length = ws.length := by simp [wl]
theorem hl_len (ws : List Nat) : (hl ws).length = ws.length := by simp [hl]
theorem wl_get {ws : List Nat} {i x : Nat} (h : ws[i]? = some x) : (wl ws)[i]? = some [D.sc (.int .u32 (x : Int))] := by simp [wl, h]
theorem hl_get {ws : List Nat} {i x : Nat} (h : ws[i]? = some x) : (hl ws)[i]? = some [D.sc (.int .i64 (x : Int))] := by simp [hl, h]
theorem wl_app (a b : List Nat) : wl a ++ wl b = wl (a ++ b) := by simp [wl]
theorem hl_app (a b : List Nat) : hl a ++ hl b = hl (a ++ b) := by simp [hl]
theorem wl_take (a : List Nat) (n : Nat) : (wl a).take n = wl (a.take n) := by simp [wl]
theorem hl_take (a : List Nat) (n : Nat) : (hl a).take n = hl (a.take n) := by simp [hl]
theorem wl_drop (a : List Nat) (n : Nat) : (wl a).drop n = wl (a.drop n) := by simp [wl]
theorem hl_drop (a : List Nat) (n : Nat) : (hl a).drop n = hl (a.drop n) := by simp [hl]
theorem wl_set (a : List Nat) (n x : Nat) : (wl a).set n [D.sc (.int .u32 (x : Int))] = wl (a.set n x) := by simp [wl]
theorem hl_set (a : List Nat) (n x : Nat) : (hl a).set n [D.sc (.int .i64 (x : Int))] = hl (a.set n x) := by simp [hl]
theorem wl_rep (n x : Nat) : List.replicate n [D.sc (.int .u32 (x : Int))] = wl (List.replicate n x) := by simp [wl]
theorem hl_rep (n x : Nat) : List.replicate n [D.sc (.int .i64 (x : Int))] = hl (List.replicate n x) := by simp [hl]
theorem wl_one {ws : List Nat} {y : List D} (h : y ∈ wl ws) : y.length = 1 := by
  simp only [wl, List.mem_map] at h; obtain ⟨_, _, rfl⟩ := h; rfl
theorem hl_one {ws : List Nat} {y : List D} (h : y ∈ hl ws) : y.length = 1 := by
  simp only [hl, List.mem_map] at h; obtain ⟨_, _, rfl⟩ := h; rfl
theorem lt_get {ws : List Nat} {i : Nat} (h : i < ws.length) : ∃ x, ws[i]? = some x := ⟨ws[i], List.getElem?_eq_getElem h⟩
theorem take_snoc {ws : List Nat} {k x : Nat} (hk : ws.length = k + 1) (hx : ws[k]? = some x) : ws = ws.take k ++ [x] := by
  apply List.ext_getElem?
  intro i
  rw [List.getElem?_append]
  have : (ws.take k).length = k := by simp; omega
  rw [this]
  split
  · rename_i h; rw [List.getElem?_take_of_lt h]
  · rename_i h
    by_cases hi : i = k
    · subst hi; simp [hx]
    · rw [List.getElem?_eq_none (by omega), List.getElem?_eq_none (by simp; omega)]
theorem take_succ_get {ws : List Nat} {k x : Nat} (hx : ws[k]? = some x) : ws.take (k + 1) = ws.take k ++ [x] := by
  rw [List.take_add_one, hx]; rfl
theorem len_take {ws : List Nat} {k : Nat} (h : k ≤ ws.length) : (ws.take k).length = k := by simp; omega
theorem val_take_succ (B : Nat) {ws : List Nat} {k x : Nat} (hx : ws[k]? = some x) : val B (ws.take (k + 1)) = val B (ws.take k) + B ^ k * x := by
  have h := (List.getElem?_eq_some_iff.1 hx).1
  rw [take_succ_get hx, val_snoc, len_take (by omega)]
theorem val_drop (B : Nat) {ws : List Nat} {k x : Nat} (hx : ws[k]? = some x) : val B (ws.drop k) = x + B * val B (ws.drop (k + 1)) := by
  obtain ⟨h, rfl⟩ := List.getElem?_eq_some_iff.1 hx
  rw [List.drop_eq_getElem_cons h]; rfl
/-- So many digits. -/
def pd (B : Nat) : Nat → Nat → List Nat
  | 0, _ => []
  | k + 1, n => n % B :: pd B k (n / B)
theorem pd_len (B : Nat) : ∀ (k n : Nat), (pd B k n).length = k
  | 0, _ => rfl
  | k + 1, n => by simp [pd, pd_len B k]
theorem pd_ok {B : Nat} (hB : 0 < B) : ∀ (k n : Nat), Ok B (pd B k n)
  | 0, _ => Ok.nil
  | k + 1, n => Ok.of (Nat.mod_lt _ hB) (pd_ok hB k _)
theorem pd_val {B : Nat} (hB : 0 < B) : ∀ (k n : Nat), n < B ^ k → val B (pd B k n) = n
  | 0, n, h => by simp at h; simp [pd, val, h]
  | k + 1, n, h => by
    rw [Nat.pow_succ, Nat.mul_comm] at h
    simp only [pd, val]
    rw [pd_val hB k (n / B) (Nat.div_lt_of_lt_mul h)]
    have := Nat.div_add_mod n B
    omega
theorem pd_of {B : Nat} (hB : 0 < B) : ∀ {ws : List Nat}, Ok B ws → pd B ws.length (val B ws) = ws
  | [], _ => rfl
  | x :: r, h => by
    have h1 := h.cons.1
    simp only [List.length_cons, pd, val]
    rw [Nat.add_mul_mod_self_left, Nat.mod_eq_of_lt h1, Nat.add_mul_div_left _ _ hB, Nat.div_eq_of_lt h1, Nat.zero_add, pd_of hB h.cons.2]
def gd (h : List Nat) (i : Nat) : Nat := (h[i]?).getD 0
theorem gd_get {h : List Nat} {i x : Nat} (hx : h[i]? = some x) : gd h i = x := by simp [gd, hx]
theorem gd_out {h : List Nat} {i : Nat} (hx : h.length ≤ i) : gd h i = 0 := by simp [gd, List.getElem?_eq_none hx]
theorem gd_lt {B : Nat} (hB : 0 < B) {h : List Nat} (ho : Ok B h) (i : Nat) : gd h i < B := by
  unfold gd
  cases hx : h[i]? with
  | none => exact hB
  | some x => exact ho.get hx
theorem val_take_gd (B : Nat) (h : List Nat) (k : Nat) : val B (h.take (k + 1)) = val B (h.take k) + B ^ k * gd h k := by
  cases hx : h[k]? with
  | none =>
    have := List.getElem?_eq_none_iff.1 hx
    rw [gd_out this, List.take_of_length_le this, List.take_of_length_le (by omega)]
    simp
  | some x => rw [gd_get hx, val_take_succ B hx]
end Go.Proofs.YtpmlocilhhjifaaGreat.Eng
end
section
namespace Go.Proofs.YtpmlocilhhjifaaGreat.Eng
open Go.RowKit
theorem natCast_fold (n : Nat) : (NatCast.natCast n : Int) = Nat.cast n := rfl
-- the words om, st and wk of the templates are written out by inst.py
def isNo : BE → Bool
  | .no => true
  | _ => false
theorem ne_no {x : BE} (h : isNo x = false) : x ≠ .no := by rintro rfl; cases h
def vi (k : IntKind) (n : Int) : AT := .v (.one (.sc (.int k n)))
def vs (t : Nat) (xs : List (List D)) : AT := .v (.one (.sl t 1 xs))
end Go.Proofs.YtpmlocilhhjifaaGreat.Eng
end
