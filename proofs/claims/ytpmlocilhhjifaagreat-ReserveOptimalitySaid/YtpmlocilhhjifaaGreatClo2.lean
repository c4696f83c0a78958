/- Package whole: pairs; carrier and its two closures. -/
import Derived.Test.YtpmlocilhhjifaaGreatClo1
namespace Go.Proofs.YtpmlocilhhjifaaGreat.Eng
open Go.RowKit Go.Shelf Go.Proofs
attribute [local go_sem] Oper.semAt_some
set_option linter.unusedSimpArgs false
set_option linter.unusedVariables false
set_option maxRecDepth 100000

set_option maxHeartbeats 1000000 in
theorem pairs_in (F : Fence) (n : Nat) (h5 : F.fn 120) (hro : F.round = none) (a b : Option Addr) (la ca lb cb : Nat) (w : World) :
    CallsIn F n Tryz.prog 120 #[.slice a la ca, .slice b lb cb] w fun e w' => e = .returned (.func (.func 135) #[] #[.pointer (some ⟨w.heap.size, 0, none⟩), .pointer (some ⟨w.heap.size + 1, 0, none⟩)]) ∧
      w' = (w.alloc (.cells #[.slice a la ca] 27)).alloc (.cells #[.slice b lb cb] 27) := by
  refine callsIn_of_wp Tryz.func120 rfl h5 ?_ hro
  simp only [Tryz.ntmps120, List.size_toArray, List.length_cons, List.length_nil, Nat.reduceAdd, Nat.reduceSub, Array.replicate_succ, Array.replicate_zero, List.push_toArray, List.append_toArray, List.nil_append, List.cons_append]
  gi_wp2
  go_ret
  exact ⟨rfl, rfl⟩
theorem pairs_stops (F : Fence) (n : Nat) (h8 : F.fn 135) (hro : F.round = none) (hn : 1 ≤ n) (Ba Bb n₀ : Nat) (a b : List Nat) (va vb : Value) (hla : a.length ≤ 1000000) (hlb : b.length ≤ 1000000) (oa : Ok BW a) (ob : Ok BW b) (w : World)
    (hBa : Ba < w.heap.size) (hBb : Bb < w.heap.size) (hn₀ : n₀ ≤ w.heap.size) (ha : w.cell? ⟨Ba, 0, none⟩ = some va) (hb : w.cell? ⟨Bb, 0, none⟩ = some vb) (ma : Mag n₀ w va a) (mb : Mag n₀ w vb b) :
    SeqStopsK F n Tryz.prog 135 #[.pointer (some ⟨Ba, 0, none⟩), .pointer (some ⟨Bb, 0, none⟩)] (fun x : W2 => #[Value.int .u64 (x.1.1 : Int), Value.int .u64 (x.1.2 : Int)]) (KpP n₀ Ba Bb) (fun ys => ys = prs2 oa ob (max a.length b.length))
      (fun pre => ∃ k, k ≤ max a.length b.length ∧ pre = prs2 oa ob k) (max a.length b.length) w := fun l J Jx W hW _ _ hY h0 =>
  pairs1_in F n h8 hro hn l Ba Bb n₀ a b va vb hla hlb oa ob J Jx hY W ((hW.cell (p := ⟨Ba, 0, none⟩) hBa).trans ha) ((hW.cell (p := ⟨Bb, 0, none⟩) hBb).trans hb) (ma.below (hW.mono hn₀)) (mb.below (hW.mono hn₀)) h0

/-- THE CARRIER's TWO BOXES: the words that have come, and the carry. -/
structure Car (n₀ Bo Bc : Nat) (ws : List Nat) (c : Nat) (W : World) : Prop where
  box : ∃ v, Boxed W Bo 27 v ∧ W.ownsRow n₀ 56 1 v ws.length (ws.map fun (x : Nat) => Value.int .u32 (x : Int)) ∧ (v = .slice none 0 0 ↔ ws = [])
  car : Boxed W Bc 88 (.int .u64 (c : Int))
theorem car_own {β : Type} (n₀ Bo Bc : Nat) (f : β → List Nat) (c : β → Nat) : Own (fun s W => Car n₀ Bo Bc (f s) (c s) W) := fun s X Y row ⟨h1, h2⟩ hg hr =>
  ⟨holdsRow_own n₀ Bo 27 56 1 (fun s => (f s).length) (fun s => (f s).map fun (x : Nat) => Value.int .u32 (x : Int)) (fun s v => v = .slice none 0 0 ↔ f s = []) s X Y row h1 hg hr, boxed_own Bc 88 (fun s => Value.int .u64 (c s : Int)) s X Y row h2 hg hr⟩
theorem infoW : (Tryz.prog.info? 56).map (fun i => (i.zero, i.size, i.bytes)) = some (some (.int .u32 0), 1, 4) := by kernel_rfl
set_option maxHeartbeats 1000000 in
theorem carrier_in (F : Fence) (n : Nat) (h5 : F.fn 119) (hro : F.round = none) (w : World) :
    CallsIn F n Tryz.prog 119 #[] w fun e w' => e = .returned (.tuple #[.func (.func 133) #[] #[.pointer (some ⟨w.heap.size + 1, 0, none⟩), .pointer (some ⟨w.heap.size, 0, none⟩)], .func (.func 134) #[] #[.pointer (some ⟨w.heap.size, 0, none⟩), .pointer (some ⟨w.heap.size + 1, 0, none⟩)]]) ∧
      w' = (w.alloc (.cells #[.slice none 0 0] 27)).alloc (.cells #[.int .u64 0] 88) := by
  refine callsIn_of_wp Tryz.func119 rfl h5 ?_ hro
  simp only [Tryz.ntmps119, List.size_toArray, List.length_cons, List.length_nil, Nat.reduceAdd, Nat.reduceSub, Array.replicate_succ, Array.replicate_zero, List.push_toArray, List.append_toArray, List.nil_append, List.cons_append]
  gi_wp2
  go_ret2
  exact ⟨rfl, rfl⟩

set_option maxHeartbeats 2000000 in
/-- put: 'v += carry; out, carry = append(out, uint32(v)), v >> 32'. -/
theorem put_in (F : Fence) (n : Nat) (h5 : F.fn 133) (hro : F.round = none) (n₀ Bo Bc : Nat) (ws : List Nat) (c v : Nat) (z : Int) (w : World) (hC : Car n₀ Bo Bc ws c w) (hz : z = (v : Int)) (hn : n₀ ≤ w.heap.size) (ho : n₀ ≤ Bo) (hc : n₀ ≤ Bc) (hne : Bc ≠ Bo) (hvc : v + c < 18446744073709551616) (hl : ws.length < 3000000) :
    CallsIn F n Tryz.prog 133 #[.int .u64 z, .pointer (some ⟨Bc, 0, none⟩), .pointer (some ⟨Bo, 0, none⟩)] w fun e w' => e = .returned (.tuple #[]) ∧ Car n₀ Bo Bc (ws ++ [(v + c) % BW]) ((v + c) / BW) w' ∧
      KeepsOthers w w' ∧ Below n₀ w w' ∧ (∀ (B : Nat) t u, B ≠ Bo → B ≠ Bc → t ≠ 56 → Boxed w B t u → Boxed w' B t u) := by
  subst hz
  obtain ⟨i0, hi, hz0, hz1, hz2⟩ := info_parts infoW
  refine callsIn_of_wp Tryz.func133 rfl h5 ?_ hro
  simp only [Tryz.ntmps133, List.size_toArray, List.length_cons, List.length_nil, Nat.reduceAdd, Nat.reduceSub, Array.replicate_succ, Array.replicate_zero, List.push_toArray, List.append_toArray, List.nil_append, List.cons_append]
  obtain ⟨⟨sv, hv, hrow, hnil⟩, hcar⟩ := hC
  have hcb := hv.cell
  have hcc := hcar.cell
  have hsz := hv.lt
  gi_wp2_with (gi_at_builtin; refine wpListIn_append_own _ rfl _ _ 27 rfl n₀ 56 i0 (.int .u32 0) 1 4 Tryz.underlying27 hi hz0 hz1 hz2 rfl (by decide) _ _ _ rfl (hrow.alloc _) ⟨w.heap.size, 0, none⟩ 1 1 [_] rfl rfl (cell_one_new _ _ _) (by simp [Value.oneCell']) (by simp [maxLen]; omega) (by omega) (by simp; omega) ?_; intro v' w1 hown' hgrow _; obtain ⟨g', cap', rfl⟩ := ownsRow_succ hown'; obtain ⟨hv1, hv2, hr2, hk2, hb2⟩ := hv.appended (by decide) hrow hn ho hown' hgrow; have hc1 := hv1.cell; have hf1 := hv1.frozen; have hcr1 : Boxed w1 Bc 88 (.int .u64 (c : Int)) := (hcar.alloc _).kept hgrow (hcar.not_row (by decide) hrow); have hcr2 := hcr1.other hne (.slice (some ⟨g', 0, none⟩) (ws.length + 1) cap'); have hc2 := hcr2.cell; have hf2 := hcr2.frozen)
  go_end0
  have e1 : ((v + c : Nat) : Int) % 4294967296 = (((v + c) % BW : Nat) : Int) := by rw [BW_eq]; omega
  have e2 : ((v + c : Nat) : Int) / 4294967296 = (((v + c) / BW : Nat) : Int) := by rw [BW_eq]; omega
  rw [← Int.natCast_add] at hr2 ⊢
  rw [e1] at hr2
  rw [e2]
  refine ⟨rfl, ⟨⟨_, hv2.other hne.symm _, ?_, by simp⟩, hcr2.set _⟩, hk2.trans (KeepsOthers.setCell _ _ _), hb2.setCell (p := ⟨Bc, 0, none⟩) hc _, fun B t u h1 h2 h3 hB => ?_⟩
  · have := hr2.kept (grownBy_setCell' _ Bc (.int .u64 (((v + c) / BW : Nat) : Int))) (.inr (hcr2.not_row (by decide) hr2).symm)
    simpa using this
  · exact (((hB.alloc _).kept hgrow (hB.not_row h3 hrow)).other h1 _).other h2 _
set_option maxHeartbeats 2000000 in
/-- all: 'return append(out, uint32(carry))'. -/
theorem all_in (F : Fence) (n : Nat) (h5 : F.fn 134) (hro : F.round = none) (n₀ Bo Bc : Nat) (ws : List Nat) (c : Nat) (w : World) (hC : Car n₀ Bo Bc ws c w) (hn : n₀ ≤ w.heap.size) (hcw : c < BW) (hl : ws.length < 3000000) :
    CallsIn F n Tryz.prog 134 #[.pointer (some ⟨Bo, 0, none⟩), .pointer (some ⟨Bc, 0, none⟩)] w fun e w' => ∃ v, e = .returned v ∧ w'.ownsRow n₀ 56 1 v (ws.length + 1) ((ws ++ [c]).map fun (x : Nat) => Value.int .u32 (x : Int)) ∧
      KeepsOthers w w' ∧ Below n₀ w w' := by
  obtain ⟨i0, hi, hz0, hz1, hz2⟩ := info_parts infoW
  refine callsIn_of_wp Tryz.func134 rfl h5 ?_ hro
  simp only [Tryz.ntmps134, List.size_toArray, List.length_cons, List.length_nil, Nat.reduceAdd, Nat.reduceSub, Array.replicate_succ, Array.replicate_zero, List.push_toArray, List.append_toArray, List.nil_append, List.cons_append]
  obtain ⟨⟨sv, hv, hrow, hnil⟩, hcar⟩ := hC
  have hcb := hv.cell
  have hcc := hcar.cell
  rw [BW_eq] at hcw
  gi_wp2_with (gi_at_builtin; refine wpListIn_append_own _ rfl _ _ 27 rfl n₀ 56 i0 (.int .u32 0) 1 4 Tryz.underlying27 hi hz0 hz1 hz2 rfl (by decide) _ _ _ rfl (hrow.alloc _) ⟨w.heap.size, 0, none⟩ 1 1 [_] rfl rfl (cell_one_new _ _ _) (by simp [Value.oneCell']) (by simp [maxLen]; omega) (by omega) (by simp; omega) ?_; intro v' w1 hown' hgrow _)
  go_ret
  refine ⟨v', rfl, by simpa using hown', (KeepsOthers.alloc w _).trans (KeepsOthers.of_grownBy hgrow fun j o ej hj => ?_), ((Below.refl n₀ w).alloc hn _).grown hgrow (by simp; omega) fun j ej => ?_⟩
  · rcases (hrow.alloc (.cells #[.int .u32 (c : Int)] 56)).2 with ⟨rfl, _⟩ | ⟨g, cap, cur, rfl, _, hgb, _⟩
    · simp [Act.eval, Value.ownBlock] at ej
    · obtain rfl : g = j := by simpa [Act.eval, Value.ownBlock] using ej
      rw [hgb] at hj; cases hj; rfl
  · rcases hrow.2 with ⟨rfl, _⟩ | ⟨g, cap, cur, rfl, hb, _, _⟩
    · simp [Act.eval, Value.ownBlock] at ej
    · obtain rfl : g = j := by simpa [Act.eval, Value.ownBlock] using ej
      exact hb
/-! What the carrier has come to: plain numbers. -/
def cstep (s : List Nat × Nat) (v : Nat) : List Nat × Nat := (s.1 ++ [(v + s.2) % BW], (v + s.2) / BW)
def crun (g : W2 → Nat) (s0 : List Nat × Nat) (pre : List W2) : List Nat × Nat := pre.foldl (fun s x => cstep s (g x)) s0
theorem crun_snoc (g : W2 → Nat) (s0 : List Nat × Nat) (pre : List W2) (x : W2) : crun g s0 (pre ++ [x]) = cstep (crun g s0 pre) (g x) := by simp [crun]
theorem snoc_ind {α : Type} {p : List α → Prop} (h0 : p []) (h1 : ∀ pre x, p pre → p (pre ++ [x])) (l : List α) : p l := by
  have key : ∀ r : List α, p r.reverse := fun r => by
    induction r with
    | nil => exact h0
    | cons x r ih => rw [List.reverse_cons]; exact h1 _ _ ih
  have := key l.reverse
  rwa [List.reverse_reverse] at this
theorem crun_len (g : W2 → Nat) (s0 : List Nat × Nat) : ∀ pre : List W2, (crun g s0 pre).1.length = s0.1.length + pre.length := by
  refine snoc_ind rfl fun pre x ih => ?_
  rw [crun_snoc, cstep, List.length_append, ih]; simp; omega
theorem crun_ok (g : W2 → Nat) (s0 : List Nat × Nat) (h : Ok BW s0.1) : ∀ pre : List W2, Ok BW (crun g s0 pre).1 := by
  refine snoc_ind h fun pre x ih => ?_
  rw [crun_snoc]
  exact Ok.app ih (Ok.of (Nat.mod_lt _ BW0) Ok.nil)
theorem crun_le (g : W2 → Nat) (s0 : List Nat × Nat) (h : s0.2 ≤ 1) (hg : ∀ x, g x + 2 ≤ 2 * BW) : ∀ pre : List W2, (crun g s0 pre).2 ≤ 1 := by
  refine snoc_ind h fun pre x ih => ?_
  rw [crun_snoc]
  have := hg x
  show (g x + (crun g s0 pre).2) / BW ≤ 1
  rw [BW_eq] at this ⊢
  omega
def gAdd (x : W2) : Nat := x.1.1 + x.1.2
def gSub (x : W2) : Nat := x.1.1 + (BW - 1 - x.1.2)
theorem gAdd_le (x : W2) : gAdd x + 2 ≤ 2 * BW := by obtain ⟨x, h1, h2⟩ := x; simp only [gAdd]; omega
theorem gSub_le (x : W2) : gSub x + 2 ≤ 2 * BW := by obtain ⟨x, h1, h2⟩ := x; simp only [gSub]; omega
theorem add_run {a b : List Nat} (oa : Ok BW a) (ob : Ok BW b) (k : Nat) : val BW (crun gAdd ([], 0) (prs2 oa ob k)).1 + BW ^ k * (crun gAdd ([], 0) (prs2 oa ob k)).2 = val BW (a.take k) + val BW (b.take k) := by
  induction k with
  | zero => simp [prs2, upto, crun, val]
  | succ k ih =>
    have hl := crun_len gAdd ([], 0) (prs2 oa ob k)
    have hl : (crun gAdd ([], 0) (prs2 oa ob k)).1.length = k := by rw [hl, prs2, upto_length]; simp
    rw [show prs2 oa ob (k + 1) = prs2 oa ob k ++ [w2 oa ob k] from upto_succ _ _, crun_snoc, val_take_gd, val_take_gd]
    obtain ⟨s, hs⟩ : ∃ s, s = crun gAdd ([], 0) (prs2 oa ob k) := ⟨_, rfl⟩
    rw [← hs] at ih hl ⊢
    simp only [cstep]
    rw [val_snoc, hl]
    have hg : gAdd (w2 oa ob k) = gd a k + gd b k := rfl
    have hd := Nat.div_add_mod (gAdd (w2 oa ob k) + s.2) BW
    rw [hg] at hd ⊢
    obtain ⟨q, hq⟩ : ∃ q, q = (gd a k + gd b k + s.2) / BW := ⟨_, rfl⟩
    obtain ⟨r, hr⟩ : ∃ r, r = (gd a k + gd b k + s.2) % BW := ⟨_, rfl⟩
    rw [← hq, ← hr] at hd ⊢
    rw [Nat.pow_succ]
    have e : BW ^ k * BW * q + BW ^ k * r = BW ^ k * (gd a k + gd b k + s.2) := by rw [← hd, Nat.mul_add, Nat.mul_assoc]
    rw [Nat.mul_add, Nat.mul_add] at e
    omega
theorem sub_run {a b : List Nat} (oa : Ok BW a) (ob : Ok BW b) (k : Nat) : val BW (crun gSub ([0], 1) (prs2 oa ob k)).1 + BW ^ (k + 1) * (crun gSub ([0], 1) (prs2 oa ob k)).2 + BW * val BW (b.take k) = BW * val BW (a.take k) + BW ^ (k + 1) := by
  induction k with
  | zero => simp [prs2, upto, crun, val]
  | succ k ih =>
    have hl := crun_len gSub ([0], 1) (prs2 oa ob k)
    have hl : (crun gSub ([0], 1) (prs2 oa ob k)).1.length = k + 1 := by rw [hl, prs2, upto_length]; simp; omega
    rw [show prs2 oa ob (k + 1) = prs2 oa ob k ++ [w2 oa ob k] from upto_succ _ _, crun_snoc, val_take_gd, val_take_gd]
    obtain ⟨s, hs⟩ : ∃ s, s = crun gSub ([0], 1) (prs2 oa ob k) := ⟨_, rfl⟩
    rw [← hs] at ih hl ⊢
    simp only [cstep]
    rw [val_snoc, hl]
    have hg : gSub (w2 oa ob k) = gd a k + (BW - 1 - gd b k) := rfl
    have hgb := gd_lt BW0 ob k
    have hd := Nat.div_add_mod (gSub (w2 oa ob k) + s.2) BW
    rw [hg] at hd ⊢
    obtain ⟨v, hv⟩ : ∃ v, v = gd a k + (BW - 1 - gd b k) := ⟨_, rfl⟩
    have hv2 : v + gd b k + 1 = gd a k + BW := by omega
    rw [← hv] at hd ⊢
    obtain ⟨q, hq⟩ : ∃ q, q = (v + s.2) / BW := ⟨_, rfl⟩
    obtain ⟨r, hr⟩ : ∃ r, r = (v + s.2) % BW := ⟨_, rfl⟩
    rw [← hq, ← hr] at hd ⊢
    have e1 : BW ^ (k + 1 + 1) * q + BW ^ (k + 1) * r = BW ^ (k + 1) * v + BW ^ (k + 1) * s.2 := by rw [Nat.pow_succ, ← Nat.mul_add, ← hd, Nat.mul_add, Nat.mul_assoc]
    have e2 : BW ^ (k + 1) * v + BW ^ (k + 1) * gd b k + BW ^ (k + 1) = BW ^ (k + 1) * gd a k + BW ^ (k + 1 + 1) := by
      rw [Nat.pow_succ BW (k + 1), ← Nat.mul_add, ← Nat.mul_add, ← hv2, Nat.mul_add _ (v + gd b k) 1, Nat.mul_one]
    have e3 : BW * (BW ^ k * gd b k) = BW ^ (k + 1) * gd b k := by rw [← Nat.mul_assoc, Nat.pow_succ, Nat.mul_comm BW]
    have e4 : BW * (BW ^ k * gd a k) = BW ^ (k + 1) * gd a k := by rw [← Nat.mul_assoc, Nat.pow_succ, Nat.mul_comm BW]
    rw [Nat.mul_add, Nat.mul_add, e3, e4]
    omega
theorem take_max {a b : List Nat} : a.take (max a.length b.length) = a := List.take_of_length_le (by omega)
theorem take_max' {a b : List Nat} : b.take (max a.length b.length) = b := List.take_of_length_le (by omega)
theorem add_all {a b : List Nat} (oa : Ok BW a) (ob : Ok BW b) : (crun gAdd ([], 0) (prs2 oa ob (max a.length b.length))).1 ++ [(crun gAdd ([], 0) (prs2 oa ob (max a.length b.length))).2] = pd BW (max a.length b.length + 1) (val BW a + val BW b) := by
  have h1 := add_run oa ob (max a.length b.length)
  have hl := crun_len gAdd ([], 0) (prs2 oa ob (max a.length b.length))
  have hl : (crun gAdd ([], 0) (prs2 oa ob (max a.length b.length))).1.length = max a.length b.length := by rw [hl, prs2, upto_length]; simp
  have ho := crun_ok gAdd ([], 0) Ok.nil (prs2 oa ob (max a.length b.length))
  have hc := crun_le gAdd ([], 0) (Nat.zero_le _) gAdd_le (prs2 oa ob (max a.length b.length))
  rw [take_max, take_max'] at h1
  have hoo : Ok BW ((crun gAdd ([], 0) (prs2 oa ob (max a.length b.length))).1 ++ [(crun gAdd ([], 0) (prs2 oa ob (max a.length b.length))).2]) := ho.app (Ok.of (by rw [BW_eq]; omega) Ok.nil)
  rw [← pd_of BW0 hoo, val_snoc, hl, h1, List.length_append, hl]
  rfl
theorem sub_all {a b : List Nat} (oa : Ok BW a) (ob : Ok BW b) (hle : val BW b ≤ val BW a) : (crun gSub ([0], 1) (prs2 oa ob (max a.length b.length))).1.drop 1 = pd BW (max a.length b.length) (val BW a - val BW b) := by
  have h1 := sub_run oa ob (max a.length b.length)
  have hl := crun_len gSub ([0], 1) (prs2 oa ob (max a.length b.length))
  have hl : (crun gSub ([0], 1) (prs2 oa ob (max a.length b.length))).1.length = max a.length b.length + 1 := by rw [hl, prs2, upto_length]; simp; omega
  have ho := crun_ok gSub ([0], 1) (Ok.of BW0 Ok.nil) (prs2 oa ob (max a.length b.length))
  have hc := crun_le gSub ([0], 1) (Nat.le_refl _) gSub_le (prs2 oa ob (max a.length b.length))
  rw [take_max, take_max'] at h1
  obtain ⟨s, hs⟩ : ∃ s, s = crun gSub ([0], 1) (prs2 oa ob (max a.length b.length)) := ⟨_, rfl⟩
  rw [← hs] at h1 hl ho hc ⊢
  obtain ⟨M, hM⟩ : ∃ M, M = max a.length b.length := ⟨_, rfl⟩
  rw [← hM] at h1 hl ⊢
  have hlt := val_lt ho
  rw [hl] at hlt
  cases hss : s.1 with
  | nil => rw [hss] at hl; simp at hl
  | cons x r =>
    rw [hss] at hl ho h1 hlt
    have hrl : r.length = M := by simpa using hl
    have hx := ho.cons.1
    have hor := ho.cons.2
    simp only [val] at h1 hlt
    rw [List.drop_one, List.tail_cons, ← pd_of BW0 hor, hrl]
    congr 1
    have hc1 : s.2 = 1 := by
      rcases Nat.lt_or_ge s.2 1 with h | h
      · have : s.2 = 0 := by omega
        rw [this, Nat.mul_zero] at h1
        have := Nat.mul_le_mul_left BW hle
        omega
      · omega
    rw [hc1, Nat.mul_one] at h1
    have h2 : x + BW * (val BW r + val BW b) = BW * val BW a := by rw [Nat.mul_add]; omega
    have h3 : x = 0 := by
      have e := congrArg (· % BW) h2
      simp only [Nat.add_mul_mod_self_left, Nat.mul_mod_right] at e
      rwa [Nat.mod_eq_of_lt hx] at e
    rw [h3, Nat.zero_add] at h2
    have := Nat.eq_of_mul_eq_mul_left BW0 h2
    omega
end Go.Proofs.YtpmlocilhhjifaaGreat.Eng
