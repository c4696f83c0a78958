/- Package whole: pairs, its iterator; carrier, its two closures. By hand, with the kit. -/
import Derived.RangeFuncNested
import Derived.RangeFuncBound
import Derived.RangeFuncCalls
import Derived.RangeFuncBox
import Derived.RangeFuncLeaves
import Derived.Shelf.Abstract
import Derived.Shelf.RegionOpen
import Derived.WalkKit
import Derived.OwnWalkIn
import Derived.TacticsInMore
import Derived.LoopNIn
import Derived.LoopIn
import Derived.Maps.AppendAt
import Derived.Test.YtpmlocilhhjifaaGreatWhole2
namespace Go.Proofs.YtpmlocilhhjifaaGreat.Eng
open Go.RowKit Go.Shelf Go.Proofs
attribute [local go_sem] Oper.semAt_some
set_option linter.unusedSimpArgs false
set_option linter.unusedVariables false

/-- A magnitude in memory below n₀. -/
def Mag (n₀ : Nat) (W : World) (v : Value) (ws : List Nat) : Prop :=
  ∃ ad cap, v = .slice ad ws.length cap ∧ (∀ (j x : Nat), ws[j]? = some x → ∃ b off, ad = some ⟨b, off, none⟩ ∧ b < n₀ ∧ W.cell? ⟨b, off + j, none⟩ = some (.int .u32 (x : Int)))
theorem Mag.below {n₀ : Nat} {A B : World} (h : Below n₀ A B) {v : Value} {ws : List Nat} : Mag n₀ A v ws → Mag n₀ B v ws
  | ⟨ad, cap, e, hc⟩ => ⟨ad, cap, e, fun j x hj => by
    obtain ⟨b, off, e1, hb, h1⟩ := hc j x hj
    exact ⟨b, off, e1, hb, (h.cell (p := ⟨b, off + j, none⟩) hb).trans h1⟩⟩
/-- What a round keeps: whatever lay below n₀, and the two boxes. -/
structure KpP (n₀ Ba Bb : Nat) (A B : World) : Prop where
  below : Below n₀ A B
  ca : B.cell? ⟨Ba, 0, none⟩ = A.cell? ⟨Ba, 0, none⟩
  cb : B.cell? ⟨Bb, 0, none⟩ = A.cell? ⟨Bb, 0, none⟩
theorem KpP.refl (n₀ Ba Bb : Nat) (A : World) : KpP n₀ Ba Bb A A := ⟨Below.refl _ _, rfl, rfl⟩
theorem KpP.trans {n₀ Ba Bb : Nat} {A B C : World} (h : KpP n₀ Ba Bb A B) (h' : KpP n₀ Ba Bb B C) : KpP n₀ Ba Bb A C := ⟨h.below.trans h'.below, h'.ca.trans h.ca, h'.cb.trans h.cb⟩
theorem kpP_b {n₀ Ba Bb : Nat} {w : World} (hn : n₀ ≤ w.heap.size) (ha : Ba < w.heap.size) (hb : Bb < w.heap.size) (W : World) (l : Nat) (o o' : Obj) (hl : w.heap.size ≤ l) (h : W.heap[l]? = some o) (h1 : o.isCells = false) (h2 : o.isWalk = false) : KpP n₀ Ba Bb W (W.putObj l o') :=
  ⟨belowK_b hn W l o o' hl h h1 h2, (belowK_b (Nat.le_refl _) W l o o' hl h h1 h2).cell (p := ⟨Ba, 0, none⟩) ha, (belowK_b (Nat.le_refl _) W l o o' hl h h1 h2).cell (p := ⟨Bb, 0, none⟩) hb⟩
def upto {α : Type} (f : Nat → α) (k : Nat) : List α := (List.range k).map f
theorem upto_succ {α : Type} (f : Nat → α) (k : Nat) : upto f (k + 1) = upto f k ++ [f k] := by simp [upto, List.range_succ]
theorem upto_length {α : Type} (f : Nat → α) (k : Nat) : (upto f k).length = k := by simp [upto]
/-- A pair of words. -/
abbrev W2 := { x : Nat × Nat // x.1 < BW ∧ x.2 < BW }
def w2 {a b : List Nat} (oa : Ok BW a) (ob : Ok BW b) (j : Nat) : W2 := ⟨(gd a j, gd b j), gd_lt BW0 oa j, gd_lt BW0 ob j⟩
def prs2 {a b : List Nat} (oa : Ok BW a) (ob : Ok BW b) (k : Nat) : List W2 := upto (w2 oa ob) k

set_option maxRecDepth 100000 in
set_option maxHeartbeats 4000000 in
theorem pairs1_in (F : Fence) (n : Nat) (h8 : F.fn 135) (hro : F.round = none) (hn : 1 ≤ n) (l Ba Bb n₀ : Nat) (a b : List Nat) (va vb : Value) (hla : a.length ≤ 1000000) (hlb : b.length ≤ 1000000) (oa : Ok BW a) (ob : Ok BW b) (J Jx : List W2 → World → Prop)
    (hY : ∀ pre x W, J pre W → pre.length < max a.length b.length → YieldAt F (n - 1) Tryz.prog l #[.int .u64 (x.1.1 : Int), .int .u64 (x.1.2 : Int)] W fun e W' =>
      (e = .returned (.bool true) ∧ J (pre ++ [x]) W' ∧ KpP n₀ Ba Bb W W') ∨ (e = .returned (.bool false) ∧ Jx (pre ++ [x]) W'))
    (W : World) (ha : W.cell? ⟨Ba, 0, none⟩ = some va) (hb : W.cell? ⟨Bb, 0, none⟩ = some vb) (ma : Mag n₀ W va a) (mb : Mag n₀ W vb b) (h0 : J [] W) :
    CallsIn F n Tryz.prog 135 #[.func (.yield l) #[] #[], .pointer (some ⟨Ba, 0, none⟩), .pointer (some ⟨Bb, 0, none⟩)] W fun e W' => (∃ v, e = .returned v) ∧
      ((∃ ys, ys = prs2 oa ob (max a.length b.length) ∧ J ys W') ∨ (∃ pre, (∃ k, k ≤ max a.length b.length ∧ pre = prs2 oa ob k) ∧ Jx pre W')) := by
  refine callsIn_of_wp Tryz.func135 rfl h8 ?_ hro
  simp only [Tryz.ntmps135, List.size_toArray, List.length_cons, List.length_nil, Nat.reduceAdd, Nat.reduceSub, Array.replicate_succ, Array.replicate_zero, List.push_toArray, List.append_toArray, List.nil_append, List.cons_append]
  obtain ⟨ada, capa, rfl, hca⟩ := ma
  obtain ⟨adb, capb, rfl, hcb⟩ := mb
  obtain ⟨M, hM⟩ : ∃ M : Nat, M = max a.length b.length := ⟨_, rfl⟩
  rw [← hM]
  rcases Nat.lt_or_ge a.length b.length with hlt | hge
  · have hMe : M = b.length := by omega
    gi_wp2
    gi_loopw [12] (fun i wr => ∃ k : Nat, k ≤ M ∧ i = .int .i64 k ∧ J (prs2 oa ob k) wr ∧ KpP n₀ Ba Bb W wr)
      (fun i _ => M - (intOf i).toNat)
    case atStart => exact ⟨0, Nat.zero_le _, rfl, h0, KpP.refl _ _ _ _⟩
    case round =>
      (obtain ⟨k, hk, rfl, hJs, hnx⟩ := hrel
       have hha := hnx.ca.trans ha
       have hhb := hnx.cb.trans hb
      )
      by_cases hlt' : k < M
      · have hkb : k < b.length := by omega
        (obtain ⟨y, hy⟩ : ∃ y, b[k]? = some y := ⟨_, List.getElem?_eq_getElem hkb⟩
         have hy0 := ob.get hy
         rw [BW_eq] at hy0
         obtain ⟨bb, offb, rfl, hbb, hcy⟩ := hcb k y hy
         have hcy' := (hnx.below.cell (p := ⟨bb, offb + k, none⟩) hbb).trans hcy
        )
        have hgy := gd_get hy
        by_cases hka : k < a.length
        · (obtain ⟨x, hx⟩ : ∃ x, a[k]? = some x := ⟨_, List.getElem?_eq_getElem hka⟩
           have hx0 := oa.get hx
           rw [BW_eq] at hx0
           obtain ⟨ba, offa, rfl, hba, hcx⟩ := hca k x hx
           have hcx' := (hnx.below.cell (p := ⟨ba, offa + k, none⟩) hba).trans hcx
          )
          have hgx := gd_get hx
          (obtain ⟨fn, tmps, assign, body, hyy, hR⟩ := hY _ (w2 oa ob k) wr hJs (by rw [prs2, upto_length]; omega)
           simp only [w2, hgx, hgy, Int.ofNat_zero] at hyy
           gi_wp2
           (refine hR.mono ?_
            rintro e W3 (⟨rfl, hJ3, hk3⟩ | ⟨rfl, hJx3⟩)
            · have hha3 := hk3.ca.trans hha
              have hhb3 := hk3.cb.trans hhb
              gi_wp2
              go_roundw
              case rel => exact ⟨k + 1, by omega, by simp, by rw [prs2, upto_succ]; exact hJ3, hnx.trans hk3⟩
              case measure => simp [intOf]; omega
            · gi_wp2
              refine bodyPost_ret (results_none rfl _ _ _) rfl ?_
              exact ⟨⟨_, rfl⟩, .inr ⟨_, ⟨k + 1, by omega, (upto_succ _ _).symm⟩, hJx3⟩⟩
           )
          )
        · have hgx := gd_out (show a.length ≤ k by omega)
          (obtain ⟨fn, tmps, assign, body, hyy, hR⟩ := hY _ (w2 oa ob k) wr hJs (by rw [prs2, upto_length]; omega)
           simp only [w2, hgx, hgy, Int.ofNat_zero] at hyy
           gi_wp2
           (refine hR.mono ?_
            rintro e W3 (⟨rfl, hJ3, hk3⟩ | ⟨rfl, hJx3⟩)
            · have hha3 := hk3.ca.trans hha
              have hhb3 := hk3.cb.trans hhb
              gi_wp2
              go_roundw
              case rel => exact ⟨k + 1, by omega, by simp, by rw [prs2, upto_succ]; exact hJ3, hnx.trans hk3⟩
              case measure => simp [intOf]; omega
            · gi_wp2
              refine bodyPost_ret (results_none rfl _ _ _) rfl ?_
              exact ⟨⟨_, rfl⟩, .inr ⟨_, ⟨k + 1, by omega, (upto_succ _ _).symm⟩, hJx3⟩⟩
           )
          )
      · (have hke : k = M := by omega
         subst hke
         gi_wp2
         go_end0
         exact ⟨⟨_, rfl⟩, .inl ⟨_, rfl, hJs⟩⟩
        )
  · have hMe : M = a.length := by omega
    gi_wp2
    gi_loopw [12] (fun i wr => ∃ k : Nat, k ≤ M ∧ i = .int .i64 k ∧ J (prs2 oa ob k) wr ∧ KpP n₀ Ba Bb W wr)
      (fun i _ => M - (intOf i).toNat)
    case atStart => exact ⟨0, Nat.zero_le _, rfl, h0, KpP.refl _ _ _ _⟩
    case round =>
      (obtain ⟨k, hk, rfl, hJs, hnx⟩ := hrel
       have hha := hnx.ca.trans ha
       have hhb := hnx.cb.trans hb
      )
      by_cases hlt' : k < M
      · have hka : k < a.length := by omega
        (obtain ⟨x, hx⟩ : ∃ x, a[k]? = some x := ⟨_, List.getElem?_eq_getElem hka⟩
         have hx0 := oa.get hx
         rw [BW_eq] at hx0
         obtain ⟨ba, offa, rfl, hba, hcx⟩ := hca k x hx
         have hcx' := (hnx.below.cell (p := ⟨ba, offa + k, none⟩) hba).trans hcx
        )
        have hgx := gd_get hx
        by_cases hkb : k < b.length
        · (obtain ⟨y, hy⟩ : ∃ y, b[k]? = some y := ⟨_, List.getElem?_eq_getElem hkb⟩
           have hy0 := ob.get hy
           rw [BW_eq] at hy0
           obtain ⟨bb, offb, rfl, hbb, hcy⟩ := hcb k y hy
           have hcy' := (hnx.below.cell (p := ⟨bb, offb + k, none⟩) hbb).trans hcy
          )
          have hgy := gd_get hy
          (obtain ⟨fn, tmps, assign, body, hyy, hR⟩ := hY _ (w2 oa ob k) wr hJs (by rw [prs2, upto_length]; omega)
           simp only [w2, hgx, hgy, Int.ofNat_zero] at hyy
           gi_wp2
           (refine hR.mono ?_
            rintro e W3 (⟨rfl, hJ3, hk3⟩ | ⟨rfl, hJx3⟩)
            · have hha3 := hk3.ca.trans hha
              have hhb3 := hk3.cb.trans hhb
              gi_wp2
              go_roundw
              case rel => exact ⟨k + 1, by omega, by simp, by rw [prs2, upto_succ]; exact hJ3, hnx.trans hk3⟩
              case measure => simp [intOf]; omega
            · gi_wp2
              refine bodyPost_ret (results_none rfl _ _ _) rfl ?_
              exact ⟨⟨_, rfl⟩, .inr ⟨_, ⟨k + 1, by omega, (upto_succ _ _).symm⟩, hJx3⟩⟩
           )
          )
        · have hgy := gd_out (show b.length ≤ k by omega)
          (obtain ⟨fn, tmps, assign, body, hyy, hR⟩ := hY _ (w2 oa ob k) wr hJs (by rw [prs2, upto_length]; omega)
           simp only [w2, hgx, hgy, Int.ofNat_zero] at hyy
           gi_wp2
           (refine hR.mono ?_
            rintro e W3 (⟨rfl, hJ3, hk3⟩ | ⟨rfl, hJx3⟩)
            · have hha3 := hk3.ca.trans hha
              have hhb3 := hk3.cb.trans hhb
              gi_wp2
              go_roundw
              case rel => exact ⟨k + 1, by omega, by simp, by rw [prs2, upto_succ]; exact hJ3, hnx.trans hk3⟩
              case measure => simp [intOf]; omega
            · gi_wp2
              refine bodyPost_ret (results_none rfl _ _ _) rfl ?_
              exact ⟨⟨_, rfl⟩, .inr ⟨_, ⟨k + 1, by omega, (upto_succ _ _).symm⟩, hJx3⟩⟩
           )
          )
      · (have hke : k = M := by omega
         subst hke
         gi_wp2
         go_end0
         exact ⟨⟨_, rfl⟩, .inl ⟨_, rfl, hJs⟩⟩
        )
end Go.Proofs.YtpmlocilhhjifaaGreat.Eng
