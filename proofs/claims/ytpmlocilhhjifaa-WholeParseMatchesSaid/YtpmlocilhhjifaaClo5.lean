/- Package whole: cmp, by hand. -/
import Derived.Laws.EntriesVeiled
import Derived.Test.YtpmlocilhhjifaaClo2
namespace Go.Proofs.Ytpmlocilhhjifaa.Eng
open Go.RowKit Go.Shelf Go.Proofs
attribute [local go_sem] Oper.semAt_some
set_option linter.unusedSimpArgs false
set_option linter.unusedVariables false
set_option maxRecDepth 100000
def cmpS (c : Int) (x : W2) : Int := if x.1.1 < x.1.2 then -1 else if x.1.2 < x.1.1 then 1 else c
def cmpR (pre : List W2) : Int := pre.foldl cmpS 0
theorem cmpR_snoc (pre : List W2) (x : W2) : cmpR (pre ++ [x]) = cmpS (cmpR pre) x := by simp [cmpR]
theorem cmpR_r : ∀ pre, -1 ≤ cmpR pre ∧ cmpR pre ≤ 1 := by
  refine snoc_ind (by simp [cmpR]) fun pre x ih => ?_
  rw [cmpR_snoc, cmpS]
  split
  · omega
  · split <;> omega
theorem cmp_run {a b : List Nat} (oa : Ok BW a) (ob : Ok BW b) (k : Nat) : cmpR (prs2 oa ob k) = if val BW (a.take k) < val BW (b.take k) then -1 else if val BW (b.take k) < val BW (a.take k) then 1 else 0 := by
  induction k with
  | zero => simp [prs2, upto, cmpR, val]
  | succ k ih =>
    rw [show prs2 oa ob (k + 1) = prs2 oa ob k ++ [w2 oa ob k] from upto_succ _ _, cmpR_snoc, val_take_gd, val_take_gd, cmpS, ih]
    have la : val BW (a.take k) < BW ^ k := Nat.lt_of_lt_of_le (val_lt (oa.take k)) (Nat.pow_le_pow_right BW0 (by simp; omega))
    have lb : val BW (b.take k) < BW ^ k := Nat.lt_of_lt_of_le (val_lt (ob.take k)) (Nat.pow_le_pow_right BW0 (by simp; omega))
    have hm : ∀ x y : Nat, x < y → BW ^ k * x + BW ^ k ≤ BW ^ k * y := fun x y h => by
      have := Nat.mul_le_mul_left (BW ^ k) (show x + 1 ≤ y from h)
      rwa [Nat.mul_add, Nat.mul_one] at this
    show (if gd a k < gd b k then (-1 : Int) else if gd b k < gd a k then 1 else _) = _
    rcases Nat.lt_trichotomy (gd a k) (gd b k) with h | h | h
    · have := hm _ _ h
      rw [if_pos h, if_pos (by omega)]
    · rw [h, if_neg (Nat.lt_irrefl _), if_neg (Nat.lt_irrefl _)]
      simp only [Nat.add_lt_add_iff_right]
    · have := hm _ _ h
      rw [if_neg (by omega), if_pos h, if_neg (by omega), if_pos (by omega)]
set_option maxHeartbeats 2000000 in
theorem cmp_in (F : Fence) (n : Nat) (h1f : F.fn 132) (h5f : F.fn 133) (h6f : F.fn 152) (hro : F.round = none) (hn : 3 ≤ n) (a b : List Nat) (va vb : Value)
    (hla : a.length ≤ 1000000) (hlb : b.length ≤ 1000000) (oa : Ok BW a) (ob : Ok BW b) (hl : a.length = b.length) (c : Int) (hcv : cmpR (prs2 oa ob (max a.length b.length)) = c) (w : World) (ma : Mag w.heap.size w va a) (mb : Mag w.heap.size w vb b) :
    CallsIn F n Try.prog 132 #[va, vb] w fun e W' => e = .returned (.int .i64 c) ∧ Below w.heap.size w W' := by
  have h1 : 1 ≤ n := by omega
  refine callsIn_of_wp_marks Try.func132 rfl h1f ?_ hro
  simp only [Try.ntmps132, List.size_toArray, List.length_cons, List.length_nil, Nat.reduceAdd, Nat.reduceSub, Array.replicate_succ, Array.replicate_zero, List.push_toArray, List.append_toArray, List.nil_append, List.cons_append]
  obtain ⟨ada, capa, eva, hca⟩ := ma
  obtain ⟨adb, capb, evb, hcb⟩ := mb
  subst eva evb
  gi_wp2_with (gi_at_call 133; refine (pairs_in F (n - 1) h5f hro _ _ _ _ _ _ _).mono ?_; rintro e w' ⟨rfl, rfl⟩)
  have bC := Boxed.new w 3 (.int .i64 0)
  have bA := Boxed.new (w.alloc (.cells #[.int .i64 0] 3)) 22 (.slice ada b.length capa)
  have bB := Boxed.new ((w.alloc (.cells #[.int .i64 0] 3)).alloc (.cells #[.slice ada b.length capa] 22)) 22 (.slice adb b.length capb)
  simp only [World.size_alloc] at bA bB
  have hB0 : Below w.heap.size w (((w.alloc (.cells #[.int .i64 0] 3)).alloc (.cells #[.slice ada b.length capa] 22)).alloc (.cells #[.slice adb b.length capb] 22)) :=
    (((Below.refl _ w).alloc (Nat.le_refl _) _).alloc (by simp) _).alloc (by simp; omega) _
  have bC := (bC.alloc (.cells #[.slice ada b.length capa] 22)).alloc (.cells #[.slice adb b.length capb] 22)
  have bA := bA.alloc (.cells #[.slice adb b.length capb] 22)
  obtain ⟨W0, hW0⟩ : ∃ W0, (((w.alloc (.cells #[.int .i64 0] 3)).alloc (.cells #[.slice ada b.length capa] 22)).alloc (.cells #[.slice adb b.length capb] 22)) = W0 := ⟨_, rfl⟩
  have hs0 : W0.heap.size = w.heap.size + 3 := by rw [← hW0]; simp
  rw [hW0] at bA bB bC hB0 ⊢
  clear hW0
  have mA : Mag w.heap.size W0 (.slice ada b.length capa) a := Mag.below hB0 ⟨_, _, by rw [hl], hca⟩
  have mB : Mag w.heap.size W0 (.slice adb b.length capb) b := Mag.below hB0 ⟨_, _, rfl, hcb⟩
  refine wpIn_rangeFunc_ownG hro h1 (gf := 152) (lb := #[.pointer (some ⟨(w.heap.size + 1), 0, none⟩), .pointer (some ⟨(w.heap.size + 1 + 1), 0, none⟩)]) rfl h6f (enters_of Try.func152 (by kernel_rfl) rfl)
    (pairs_stops F (n - 1) h6f hro (by omega) (w.heap.size + 1) (w.heap.size + 1 + 1) w.heap.size a b _ _ hla hlb oa ob W0 (by omega) (by omega) (by omega) bA.cell bB.cell mA mB) KpP.trans (kpP_b (by omega) (by omega) (by omega)) (Below.refl _ _) (fun _ => rfl)
    (fun pre W => (Boxed W w.heap.size 3 (.int .i64 (cmpR pre)) ∧ Boxed W (w.heap.size + 1) 22 (.slice ada b.length capa) ∧ Boxed W (w.heap.size + 1 + 1) 22 (.slice adb b.length capb)) ∧ Below w.heap.size w W)
    (fun _ _ _ => False)
    (OwnFrom.and (OwnFrom.and (Own.from (boxed_own _ _ (fun pre => .int .i64 (cmpR pre))) _) (OwnFrom.and (Own.from (boxed_own _ _ (fun _ => _)) _) (Own.from (boxed_own _ _ (fun _ => _)) _))) (ownFrom_below (Nat.le_refl _) (by omega)))
    (fun _ _ _ _ _ hs _ _ => hs)
    ⟨⟨bC, bA, bB⟩, hB0⟩
    (fun x => { tmps := #[.slice ada b.length capa, .slice adb b.length capb, undef, undef, .int .i64 0, .int .i64 0, .pointer (some ⟨w.heap.size, 0, none⟩), .int .u64 (x.1.1 : Int), .int .u64 (x.1.2 : Int), .slice ada b.length capa, .int .i64 b.length, .slice adb b.length capb, .int .i64 b.length, .int .i64 0, .int .i64 0, .bool false, undef, .slice ada b.length capa, .slice adb b.length capb, .func (.func 152) #[] #[.pointer (some ⟨(w.heap.size + 1), 0, none⟩), .pointer (some ⟨(w.heap.size + 1 + 1), 0, none⟩)],
      .int .u64 (x.1.1 : Int), .int .u64 (x.1.2 : Int), undef, undef, undef, undef, undef, undef, undef, undef, undef], defers := [] }) ?assign ?body ?done ?stop
  case assign =>
    intro l x W K hK
    gi_wp2
    exact hK
  case body =>
    rintro l pre x W ⟨⟨hC, hA, hB⟩, hBl⟩ hlt
    have hcc := hC.cell
    have hcf := hC.frozen
    have hBW := BW_eq
    have hx1 : x.1.1 < 4294967296 := by have := x.2.1; omega
    have hx2 : x.1.2 < 4294967296 := by have := x.2.2; omega
    have key : ∀ v : Int, v = cmpS (cmpR pre) x → (KeepsFrom W0.heap.size W (W.setCell ⟨w.heap.size, 0, none⟩ (.int .i64 v))) ∧ KpP w.heap.size (w.heap.size + 1) (w.heap.size + 1 + 1) W (W.setCell ⟨w.heap.size, 0, none⟩ (.int .i64 v)) ∧
        (Boxed (W.setCell ⟨w.heap.size, 0, none⟩ (.int .i64 v)) w.heap.size 3 (.int .i64 (cmpR (pre ++ [x]))) ∧ Boxed (W.setCell ⟨w.heap.size, 0, none⟩ (.int .i64 v)) (w.heap.size + 1) 22 (.slice ada b.length capa) ∧ Boxed (W.setCell ⟨w.heap.size, 0, none⟩ (.int .i64 v)) (w.heap.size + 1 + 1) 22 (.slice adb b.length capb)) ∧ Below w.heap.size w (W.setCell ⟨w.heap.size, 0, none⟩ (.int .i64 v)) := fun v hv => by
      have hA' := hA.other (B' := w.heap.size) (by omega) (.int .i64 v)
      have hB' := hB.other (B' := w.heap.size) (by omega) (.int .i64 v)
      have hb := (Below.refl w.heap.size W).setCell (p := ⟨w.heap.size, 0, none⟩) (Nat.le_refl _) (.int .i64 v)
      rw [cmpR_snoc, ← hv]
      exact ⟨(KeepsOthers.setCell _ _ _).from _, ⟨hb, hA'.cell.trans hA.cell.symm, hB'.cell.trans hB.cell.symm⟩, ⟨hC.set _, hA', hB'⟩, hBl.trans hb⟩
    rcases Nat.lt_trichotomy x.1.1 x.1.2 with h | h | h
    · gi_wp2
      exact key _ (by rw [cmpS, if_pos h])
    · have h' : ¬ x.1.1 < x.1.2 := by omega
      have h'' : ¬ x.1.2 < x.1.1 := by omega
      gi_wp2
      exact ⟨KeepsFrom.refl _ _, KpP.refl _ _ _ _, ⟨by rw [cmpR_snoc, cmpS, if_neg h', if_neg h'']; exact hC, hA, hB⟩, hBl⟩
    · have h' : ¬ x.1.1 < x.1.2 := by omega
      gi_wp2
      exact key _ (by rw [cmpS, if_neg (by omega), if_pos h])
  case done =>
    rintro D ys W hD rfl ⟨⟨hC, hA, hB⟩, hBl⟩ hK
    rw [hcv] at hC
    have hcc := hC.cell
    gi_wp2
    refine ⟨by simp, .inl ⟨_, _, rfl, run_takeDeferred hK, ?_⟩⟩
    exact ⟨_, results_tmp rfl _ _ _, rfl, hBl.trans (belowK_b (w := w) (Nat.le_refl _) _ D _ _ (by omega) hK rfl rfl)⟩
  case stop =>
    rintro D c pre W _ _ h _
    exact h.elim
set_option maxHeartbeats 1000000 in
theorem cmp_ne_in (F : Fence) (n : Nat) (h1f : F.fn 132) (hro : F.round = none) (a b : List Nat) (va vb : Value)
    (hla : a.length ≤ 1000000) (hlb : b.length ≤ 1000000) (hl : a.length ≠ b.length) (w : World) (ma : Mag w.heap.size w va a) (mb : Mag w.heap.size w vb b) :
    CallsIn F n Try.prog 132 #[va, vb] w fun e W' => e = .returned (.int .i64 ((a.length : Int) - b.length)) ∧ W' = w := by
  refine callsIn_of_wp Try.func132 rfl h1f ?_ hro
  simp only [Try.ntmps132, List.size_toArray, List.length_cons, List.length_nil, Nat.reduceAdd, Nat.reduceSub, Array.replicate_succ, Array.replicate_zero, List.push_toArray, List.append_toArray, List.nil_append, List.cons_append]
  obtain ⟨ada, capa, eva, hca⟩ := ma
  obtain ⟨adb, capb, evb, hcb⟩ := mb
  subst eva evb
  gi_wp2
  · go_ret
    exact ⟨rfl, rfl⟩
  all_goals (exfalso; omega)
end Go.Proofs.Ytpmlocilhhjifaa.Eng
