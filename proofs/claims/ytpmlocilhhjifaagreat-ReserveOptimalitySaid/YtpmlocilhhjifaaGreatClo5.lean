/- Package whole: add, by hand. -/
import Derived.Laws.EntriesVeiled
import Derived.Test.YtpmlocilhhjifaaGreatClo2
section
namespace Go.Proofs.YtpmlocilhhjifaaGreat.Eng
open Go.RowKit Go.Shelf Go.Proofs
attribute [local go_sem] Oper.semAt_some
set_option linter.unusedSimpArgs false
set_option linter.unusedVariables false
set_option maxRecDepth 100000

set_option maxHeartbeats 2000000 in
theorem add_in (F : Fence) (n : Nat) (h1f : F.fn 95) (h2f : F.fn 119) (h3f : F.fn 133) (h4f : F.fn 134) (h5f : F.fn 120) (h6f : F.fn 135) (hro : F.round = none) (hn : 3 ≤ n) (a b : List Nat) (va vb : Value)
    (hla : a.length ≤ 1000000) (hlb : b.length ≤ 1000000) (oa : Ok BW a) (ob : Ok BW b) (w : World) (ma : Mag w.heap.size w va a) (mb : Mag w.heap.size w vb b) :
    CallsIn F n Tryz.prog 95 #[va, vb] w fun e W' => ∃ v, e = .returned v ∧ Below w.heap.size w W' ∧
      W'.ownsRow w.heap.size 56 1 v (max a.length b.length + 1) ((pd BW (max a.length b.length + 1) (val BW a + val BW b)).map fun (x : Nat) => Value.int .u32 (x : Int)) := by
  have h1 : 1 ≤ n := by omega
  refine callsIn_of_wp_marks Tryz.func95 rfl h1f ?_ hro
  simp only [Tryz.ntmps95, List.size_toArray, List.length_cons, List.length_nil, Nat.reduceAdd, Nat.reduceSub, Array.replicate_succ, Array.replicate_zero, List.push_toArray, List.append_toArray, List.nil_append, List.cons_append]
  obtain ⟨ada, capa, eva, hca⟩ := ma
  obtain ⟨adb, capb, evb, hcb⟩ := mb
  subst eva evb
  gi_wp2_with (first
    | (gi_at_call 119; refine (carrier_in F (n - 1) h2f hro _).mono ?_; rintro e w' ⟨rfl, rfl⟩)
    | (gi_at_call 120; refine (pairs_in F (n - 1) h5f hro _ _ _ _ _ _ _).mono ?_; rintro e w' ⟨rfl, rfl⟩))
  have bO := Boxed.new w 27 (.slice none 0 0)
  have bC := Boxed.new (w.alloc (.cells #[.slice none 0 0] 27)) 88 (.int .u64 0)
  have bP := Boxed.new ((w.alloc (.cells #[.slice none 0 0] 27)).alloc (.cells #[.int .u64 0] 88)) 121 (.func (.func 133) #[] #[.pointer (some ⟨w.heap.size + 1, 0, none⟩), .pointer (some ⟨w.heap.size, 0, none⟩)])
  have bA := Boxed.new (((w.alloc (.cells #[.slice none 0 0] 27)).alloc (.cells #[.int .u64 0] 88)).alloc (.cells #[.func (.func 133) #[] #[.pointer (some ⟨w.heap.size + 1, 0, none⟩), .pointer (some ⟨w.heap.size, 0, none⟩)]] 121)) 27 (.slice ada a.length capa)
  have bB := Boxed.new ((((w.alloc (.cells #[.slice none 0 0] 27)).alloc (.cells #[.int .u64 0] 88)).alloc (.cells #[.func (.func 133) #[] #[.pointer (some ⟨w.heap.size + 1, 0, none⟩), .pointer (some ⟨w.heap.size, 0, none⟩)]] 121)).alloc (.cells #[.slice ada a.length capa] 27)) 27 (.slice adb b.length capb)
  simp only [World.size_alloc] at bC bP bA bB
  have hB0 : Below w.heap.size w (((((w.alloc (.cells #[.slice none 0 0] 27)).alloc (.cells #[.int .u64 0] 88)).alloc (.cells #[.func (.func 133) #[] #[.pointer (some ⟨w.heap.size + 1, 0, none⟩), .pointer (some ⟨w.heap.size, 0, none⟩)]] 121)).alloc (.cells #[.slice ada a.length capa] 27)).alloc (.cells #[.slice adb b.length capb] 27)) :=
    ((((((Below.refl _ w).alloc (Nat.le_refl _) _).alloc (by simp) _).alloc (by simp; omega) _).alloc (by simp; omega) _)).alloc (by simp; omega) _
  have bO := (((bO.alloc (.cells #[.int .u64 0] 88)).alloc (.cells #[.func (.func 133) #[] #[.pointer (some ⟨w.heap.size + 1, 0, none⟩), .pointer (some ⟨w.heap.size, 0, none⟩)]] 121)).alloc (.cells #[.slice ada a.length capa] 27)).alloc (.cells #[.slice adb b.length capb] 27)
  have bC := ((bC.alloc (.cells #[.func (.func 133) #[] #[.pointer (some ⟨w.heap.size + 1, 0, none⟩), .pointer (some ⟨w.heap.size, 0, none⟩)]] 121)).alloc (.cells #[.slice ada a.length capa] 27)).alloc (.cells #[.slice adb b.length capb] 27)
  have bP := (bP.alloc (.cells #[.slice ada a.length capa] 27)).alloc (.cells #[.slice adb b.length capb] 27)
  have bA := bA.alloc (.cells #[.slice adb b.length capb] 27)
  obtain ⟨W0, hW0⟩ : ∃ W0, (((((w.alloc (.cells #[.slice none 0 0] 27)).alloc (.cells #[.int .u64 0] 88)).alloc (.cells #[.func (.func 133) #[] #[.pointer (some ⟨w.heap.size + 1, 0, none⟩), .pointer (some ⟨w.heap.size, 0, none⟩)]] 121)).alloc (.cells #[.slice ada a.length capa] 27)).alloc (.cells #[.slice adb b.length capb] 27)) = W0 := ⟨_, rfl⟩
  have hs0 : W0.heap.size = w.heap.size + 5 := by rw [← hW0]; simp
  rw [hW0] at bO bC bP bA bB hB0 ⊢
  clear hW0
  have mA : Mag w.heap.size W0 (.slice ada a.length capa) a := Mag.below hB0 ⟨_, _, rfl, hca⟩
  have mB : Mag w.heap.size W0 (.slice adb b.length capb) b := Mag.below hB0 ⟨_, _, rfl, hcb⟩
  refine wpIn_rangeFunc_ownG hro h1 (gf := 135) (lb := #[.pointer (some ⟨(w.heap.size + 1 + 1 + 1), 0, none⟩), .pointer (some ⟨(w.heap.size + 1 + 1 + 1 + 1), 0, none⟩)]) rfl h6f (enters_of Tryz.func135 (by kernel_rfl) rfl)
    (pairs_stops F (n - 1) h6f hro (by omega) (w.heap.size + 1 + 1 + 1) (w.heap.size + 1 + 1 + 1 + 1) w.heap.size a b _ _ hla hlb oa ob W0 (by omega) (by omega) (by omega) bA.cell bB.cell mA mB) KpP.trans (kpP_b (by omega) (by omega) (by omega)) (Below.refl _ _) (fun _ => rfl)
    (fun pre W => (Car w.heap.size w.heap.size (w.heap.size + 1) (crun gAdd ([], 0) pre).1 (crun gAdd ([], 0) pre).2 W ∧ Boxed W (w.heap.size + 1 + 1) 121 (.func (.func 133) #[] #[.pointer (some ⟨w.heap.size + 1, 0, none⟩), .pointer (some ⟨w.heap.size, 0, none⟩)]) ∧ Boxed W (w.heap.size + 1 + 1 + 1) 27 (.slice ada a.length capa) ∧ Boxed W (w.heap.size + 1 + 1 + 1 + 1) 27 (.slice adb b.length capb)) ∧ Below w.heap.size w W)
    (fun _ _ _ => False)
    (OwnFrom.and (OwnFrom.and (Own.from (car_own _ _ _ (fun pre => (crun gAdd ([], 0) pre).1) (fun pre => (crun gAdd ([], 0) pre).2)) _) (OwnFrom.and (Own.from (boxed_own _ _ (fun _ => _)) _) (OwnFrom.and (Own.from (boxed_own _ _ (fun _ => _)) _) (Own.from (boxed_own _ _ (fun _ => _)) _)))) (ownFrom_below (Nat.le_refl _) (by omega)))
    (fun _ _ _ _ _ hs _ _ => hs)
    ⟨⟨⟨⟨_, bO, World.ownsRow_nil _ _ _ _, by simp [crun]⟩, bC⟩, bP, bA, bB⟩, hB0⟩
    (fun x => { tmps := #[.slice ada a.length capa, .slice adb b.length capb, undef, undef, .slice none 0 0, .pointer (some ⟨(w.heap.size + 1 + 1), 0, none⟩), .func (.func 134) #[] #[.pointer (some ⟨w.heap.size, 0, none⟩), .pointer (some ⟨w.heap.size + 1, 0, none⟩)], .int .u64 (x.1.1 : Int), .int .u64 (x.1.2 : Int),
      .tuple #[.func (.func 133) #[] #[.pointer (some ⟨w.heap.size + 1, 0, none⟩), .pointer (some ⟨w.heap.size, 0, none⟩)], .func (.func 134) #[] #[.pointer (some ⟨w.heap.size, 0, none⟩), .pointer (some ⟨w.heap.size + 1, 0, none⟩)]], .tuple #[.func (.func 133) #[] #[.pointer (some ⟨w.heap.size + 1, 0, none⟩), .pointer (some ⟨w.heap.size, 0, none⟩)], .func (.func 134) #[] #[.pointer (some ⟨w.heap.size, 0, none⟩), .pointer (some ⟨w.heap.size + 1, 0, none⟩)]], .func (.func 133) #[] #[.pointer (some ⟨w.heap.size + 1, 0, none⟩), .pointer (some ⟨w.heap.size, 0, none⟩)], .func (.func 134) #[] #[.pointer (some ⟨w.heap.size, 0, none⟩), .pointer (some ⟨w.heap.size + 1, 0, none⟩)], .slice ada a.length capa, .slice adb b.length capb, .func (.func 135) #[] #[.pointer (some ⟨w.heap.size + 1 + 1 + 1, 0, none⟩), .pointer (some ⟨w.heap.size + 1 + 1 + 1 + 1, 0, none⟩)],
      .int .u64 (x.1.1 : Int), .int .u64 (x.1.2 : Int), undef, undef, undef, undef, undef, undef, undef], defers := [] }) ?assign ?body ?done ?stop
  case assign =>
    intro l x W K hK
    gi_wp2
    exact hK
  case body =>
    rintro l pre x W ⟨⟨hC, hP, hA, hB⟩, hBl⟩ hlt
    have hpc := hP.cell
    have hc1 := crun_le gAdd ([], 0) (Nat.zero_le _) gAdd_le pre
    have hln := crun_len gAdd ([], 0) pre
    have hBW := BW_eq
    have hx1 : x.1.1 < 4294967296 := by have := x.2.1; omega
    have hx2 : x.1.2 < 4294967296 := by have := x.2.2; omega
    have hsz := hBl.size
    simp only [List.length_nil, Nat.zero_add] at hln
    have hg1 := gAdd_le x
    gi_wp2
    refine ⟨fun _ => by omega, ?_⟩
    refine (CallsIn.inRound l (put_in F _ h3f hro w.heap.size w.heap.size (w.heap.size + 1) _ _ (gAdd x) _ W hC (by simp [gAdd]) hsz (Nat.le_refl _) (by omega) (by omega) (by omega) (by omega))).mono ?_
    rintro e w' ⟨rfl, hC', hKo, hBe, hoth⟩
    gi_wp2
    have hA' := hoth _ _ _ (by omega) (by omega) (by decide) hA
    have hB' := hoth _ _ _ (by omega) (by omega) (by decide) hB
    exact ⟨hKo.from _, ⟨hBe, hA'.cell.trans hA.cell.symm, hB'.cell.trans hB.cell.symm⟩, ⟨by rw [crun_snoc]; exact hC', hoth _ _ _ (by omega) (by omega) (by decide) hP, hA', hB'⟩, hBl.trans hBe⟩
  case done =>
    rintro D ys W hD rfl ⟨⟨hC, hP, hA, hB⟩, hBl⟩ hK
    have hBW := BW_eq
    have hc1 := crun_le gAdd ([], 0) (Nat.zero_le _) gAdd_le (prs2 oa ob (max a.length b.length))
    have hln := crun_len gAdd ([], 0) (prs2 oa ob (max a.length b.length))
    have hln : (crun gAdd ([], 0) (prs2 oa ob (max a.length b.length))).1.length = max a.length b.length := by rw [hln, prs2, upto_length]; simp
    gi_wp2
    refine (all_in F _ h4f hro w.heap.size w.heap.size (w.heap.size + 1) _ _ W hC hBl.size (by omega) (by omega)).mono ?_
    rintro e w' ⟨v, rfl, hrow, hKo, hBe⟩
    gi_wp2
    have hK' := hKo.same D _ hK rfl
    rw [add_all, hln] at hrow
    refine ⟨by simp, .inl ⟨_, _, rfl, run_takeDeferred hK', ?_⟩⟩
    exact ⟨_, results_tmp rfl _ _ _, v, rfl, (hBl.trans hBe).trans (belowK_b (w := w) (Nat.le_refl _) _ D _ _ (by omega) hK' rfl rfl), ownsRow_putObj hrow _ hK' rfl⟩
  case stop =>
    rintro D c pre W _ _ h _
    exact h.elim
end Go.Proofs.YtpmlocilhhjifaaGreat.Eng
end
section
namespace Go.Proofs.YtpmlocilhhjifaaGreat.Eng
open Go.RowKit Go.Shelf Go.Proofs
attribute [local go_sem] Oper.semAt_some
set_option linter.unusedSimpArgs false
set_option linter.unusedVariables false
set_option maxRecDepth 100000

set_option maxHeartbeats 2000000 in
theorem sub_in (F : Fence) (n : Nat) (h1f : F.fn 97) (h2f : F.fn 119) (h3f : F.fn 133) (h4f : F.fn 134) (h5f : F.fn 120) (h6f : F.fn 135) (hro : F.round = none) (hn : 3 ≤ n) (a b : List Nat) (va vb : Value)
    (hla : a.length ≤ 1000000) (hlb : b.length ≤ 1000000) (oa : Ok BW a) (ob : Ok BW b) (hle : val BW b ≤ val BW a) (w : World) (ma : Mag w.heap.size w va a) (mb : Mag w.heap.size w vb b) :
    CallsIn F n Tryz.prog 97 #[va, vb] w fun e W' => ∃ v g cap, e = .returned v ∧ Below w.heap.size w W' ∧ v = .slice (some ⟨g, 1, none⟩) (max a.length b.length) cap ∧ max a.length b.length ≤ cap ∧ cap ≤ maxLen ∧ w.heap.size ≤ g ∧ g < W'.heap.size ∧
      ∀ (j : Nat) x, (pd BW (max a.length b.length) (val BW a - val BW b))[j]? = some x → W'.cell? ⟨g, 1 + j, none⟩ = some (Value.int .u32 (x : Int)) := by
  have h1 : 1 ≤ n := by omega
  refine callsIn_of_wp_marks Tryz.func97 rfl h1f ?_ hro
  simp only [Tryz.ntmps97, List.size_toArray, List.length_cons, List.length_nil, Nat.reduceAdd, Nat.reduceSub, Array.replicate_succ, Array.replicate_zero, List.push_toArray, List.append_toArray, List.nil_append, List.cons_append]
  obtain ⟨ada, capa, eva, hca⟩ := ma
  obtain ⟨adb, capb, evb, hcb⟩ := mb
  subst eva evb
  gi_wp2_with (gi_at_call 119; refine (carrier_in F (n - 1) h2f hro _).mono ?_; rintro e w' ⟨rfl, rfl⟩)
  have bO := Boxed.new w 27 (.slice none 0 0)
  have bC := Boxed.new (w.alloc (.cells #[.slice none 0 0] 27)) 88 (.int .u64 0)
  have bP := Boxed.new ((w.alloc (.cells #[.slice none 0 0] 27)).alloc (.cells #[.int .u64 0] 88)) 121 (.func (.func 133) #[] #[.pointer (some ⟨w.heap.size + 1, 0, none⟩), .pointer (some ⟨w.heap.size, 0, none⟩)])
  simp only [World.size_alloc] at bC bP
  have hB0 : Below w.heap.size w (((w.alloc (.cells #[.slice none 0 0] 27)).alloc (.cells #[.int .u64 0] 88)).alloc (.cells #[.func (.func 133) #[] #[.pointer (some ⟨w.heap.size + 1, 0, none⟩), .pointer (some ⟨w.heap.size, 0, none⟩)]] 121)) :=
    (((Below.refl _ w).alloc (Nat.le_refl _) _).alloc (by simp) _).alloc (by simp; omega) _
  have bO := (bO.alloc (.cells #[.int .u64 0] 88)).alloc (.cells #[.func (.func 133) #[] #[.pointer (some ⟨w.heap.size + 1, 0, none⟩), .pointer (some ⟨w.heap.size, 0, none⟩)]] 121)
  have bC := bC.alloc (.cells #[.func (.func 133) #[] #[.pointer (some ⟨w.heap.size + 1, 0, none⟩), .pointer (some ⟨w.heap.size, 0, none⟩)]] 121)
  obtain ⟨W0, hW0⟩ : ∃ W0, (((w.alloc (.cells #[.slice none 0 0] 27)).alloc (.cells #[.int .u64 0] 88)).alloc (.cells #[.func (.func 133) #[] #[.pointer (some ⟨w.heap.size + 1, 0, none⟩), .pointer (some ⟨w.heap.size, 0, none⟩)]] 121)) = W0 := ⟨_, rfl⟩
  have hs0 : W0.heap.size = w.heap.size + 3 := by rw [← hW0]; simp
  rw [hW0] at bO bC bP hB0 ⊢
  clear hW0
  have hBW := BW_eq
  refine (put_in F _ h3f hro w.heap.size w.heap.size (w.heap.size + 1) [] 0 4294967296 _ W0 ⟨⟨_, bO, World.ownsRow_nil _ _ _ _, by simp⟩, bC⟩ rfl (by omega) (Nat.le_refl _) (by omega) (by omega) (by omega) (by simp)).mono ?_
  rintro e w1 ⟨rfl, hC1, hKo1, hBe1, hoth1⟩
  have bP1 := hoth1 _ _ _ (by omega) (by omega) (by decide) bP
  have e1 : (4294967296 + 0) % BW = 0 := by rw [hBW]
  have e2 : (4294967296 + 0) / BW = 1 := by rw [hBW]
  rw [e1, e2, List.nil_append] at hC1
  have hsw := hBe1.size
  have hB1 := hB0.trans hBe1
  have hpc1 := bP1.cell
  clear hoth1 hKo1 bO bC bP hB0 hBe1 e1 e2
  gi_wp2_with (gi_at_call 120; refine (pairs_in F (n - 1) h5f hro _ _ _ _ _ _ _).mono ?_; rintro e w' ⟨rfl, rfl⟩)
  have bA := Boxed.new w1 27 (.slice ada a.length capa)
  have bB := Boxed.new (w1.alloc (.cells #[.slice ada a.length capa] 27)) 27 (.slice adb b.length capb)
  simp only [World.size_alloc] at bB
  have hB2 : Below w.heap.size w ((w1.alloc (.cells #[.slice ada a.length capa] 27)).alloc (.cells #[.slice adb b.length capb] 27)) := (hB1.alloc (by omega) _).alloc (by simp; omega) _
  have bA := bA.alloc (.cells #[.slice adb b.length capb] 27)
  have bP2 := (bP1.alloc (.cells #[.slice ada a.length capa] 27)).alloc (.cells #[.slice adb b.length capb] 27)
  have hC2 : Car w.heap.size w.heap.size (w.heap.size + 1) [0] 1 ((w1.alloc (.cells #[.slice ada a.length capa] 27)).alloc (.cells #[.slice adb b.length capb] 27)) := by
    have hz := car_own (β := Unit) w.heap.size w.heap.size (w.heap.size + 1) (fun _ => [0]) (fun _ => 1)
    exact hz () _ _ none (hz () _ _ none hC1 (World.grownBy_alloc _ _ _) (fun r e => by cases e)) (World.grownBy_alloc _ _ _) (fun r e => by cases e)
  obtain ⟨W2, hW2⟩ : ∃ W2, ((w1.alloc (.cells #[.slice ada a.length capa] 27)).alloc (.cells #[.slice adb b.length capb] 27)) = W2 := ⟨_, rfl⟩
  have hs2 : W2.heap.size = w1.heap.size + 2 := by rw [← hW2]; simp
  rw [hW2] at bA bB hB2 bP2 hC2 ⊢
  clear hW2 hC1 hB1 bP1 hpc1
  have mA : Mag w.heap.size W2 (.slice ada a.length capa) a := Mag.below hB2 ⟨_, _, rfl, hca⟩
  have mB : Mag w.heap.size W2 (.slice adb b.length capb) b := Mag.below hB2 ⟨_, _, rfl, hcb⟩
  refine wpIn_rangeFunc_ownG hro h1 (gf := 135) (lb := #[.pointer (some ⟨w1.heap.size, 0, none⟩), .pointer (some ⟨(w1.heap.size + 1), 0, none⟩)]) rfl h6f (enters_of Tryz.func135 (by kernel_rfl) rfl)
    (pairs_stops F (n - 1) h6f hro (by omega) w1.heap.size (w1.heap.size + 1) w.heap.size a b _ _ hla hlb oa ob W2 (by omega) (by omega) (by omega) bA.cell bB.cell mA mB) KpP.trans (kpP_b (by omega) (by omega) (by omega)) (Below.refl _ _) (fun _ => rfl)
    (fun pre W => (Car w.heap.size w.heap.size (w.heap.size + 1) (crun gSub ([0], 1) pre).1 (crun gSub ([0], 1) pre).2 W ∧ Boxed W (w.heap.size + 1 + 1) 121 (.func (.func 133) #[] #[.pointer (some ⟨w.heap.size + 1, 0, none⟩), .pointer (some ⟨w.heap.size, 0, none⟩)]) ∧ Boxed W w1.heap.size 27 (.slice ada a.length capa) ∧ Boxed W (w1.heap.size + 1) 27 (.slice adb b.length capb)) ∧ Below w.heap.size w W)
    (fun _ _ _ => False)
    (OwnFrom.and (OwnFrom.and (Own.from (car_own _ _ _ (fun pre => (crun gSub ([0], 1) pre).1) (fun pre => (crun gSub ([0], 1) pre).2)) _) (OwnFrom.and (Own.from (boxed_own _ _ (fun _ => _)) _) (OwnFrom.and (Own.from (boxed_own _ _ (fun _ => _)) _) (Own.from (boxed_own _ _ (fun _ => _)) _)))) (ownFrom_below (Nat.le_refl _) (by omega)))
    (fun _ _ _ _ _ hs _ _ => hs)
    ⟨⟨hC2, bP2, bA, bB⟩, hB2⟩
    (fun x => { tmps := #[.slice ada a.length capa, .slice adb b.length capb, undef, undef, .slice none 0 0, .pointer (some ⟨(w.heap.size + 1 + 1), 0, none⟩), .func (.func 134) #[] #[.pointer (some ⟨w.heap.size, 0, none⟩), .pointer (some ⟨w.heap.size + 1, 0, none⟩)], .int .u64 (x.1.1 : Int), .int .u64 (x.1.2 : Int), undef,
      .tuple #[.func (.func 133) #[] #[.pointer (some ⟨w.heap.size + 1, 0, none⟩), .pointer (some ⟨w.heap.size, 0, none⟩)], .func (.func 134) #[] #[.pointer (some ⟨w.heap.size, 0, none⟩), .pointer (some ⟨w.heap.size + 1, 0, none⟩)]], .tuple #[.func (.func 133) #[] #[.pointer (some ⟨w.heap.size + 1, 0, none⟩), .pointer (some ⟨w.heap.size, 0, none⟩)], .func (.func 134) #[] #[.pointer (some ⟨w.heap.size, 0, none⟩), .pointer (some ⟨w.heap.size + 1, 0, none⟩)]], .func (.func 133) #[] #[.pointer (some ⟨w.heap.size + 1, 0, none⟩), .pointer (some ⟨w.heap.size, 0, none⟩)], .func (.func 134) #[] #[.pointer (some ⟨w.heap.size, 0, none⟩), .pointer (some ⟨w.heap.size + 1, 0, none⟩)], .func (.func 133) #[] #[.pointer (some ⟨w.heap.size + 1, 0, none⟩), .pointer (some ⟨w.heap.size, 0, none⟩)], .tuple #[], .slice ada a.length capa, .slice adb b.length capb, .func (.func 135) #[] #[.pointer (some ⟨w1.heap.size, 0, none⟩), .pointer (some ⟨w1.heap.size + 1, 0, none⟩)],
      .int .u64 (x.1.1 : Int), .int .u64 (x.1.2 : Int), undef, undef, undef, undef, undef, undef, undef, undef, undef, undef, undef, undef, undef, undef], defers := [] }) ?assign ?body ?done ?stop
  case assign =>
    intro l x W K hK
    gi_wp2
    exact hK
  case body =>
    rintro l pre x W ⟨⟨hC, hP, hA, hB⟩, hBl⟩ hlt
    have hpc := hP.cell
    have hc1 := crun_le gSub ([0], 1) (Nat.le_refl _) gSub_le pre
    have hln := crun_len gSub ([0], 1) pre
    have hx1 : x.1.1 < 4294967296 := by have := x.2.1; omega
    have hx2 : x.1.2 < 4294967296 := by have := x.2.2; omega
    have hsz := hBl.size
    simp only [List.length_cons, List.length_nil, Nat.zero_add] at hln
    have hg1 := gSub_le x
    have hg2 : ((gSub x : Nat) : Int) = x.1.1 + 4294967296 - 1 - x.1.2 := by simp only [gSub]; omega
    gi_wp2
    refine ⟨fun _ => by omega, ?_⟩
    refine (CallsIn.inRound l (put_in F _ h3f hro w.heap.size w.heap.size (w.heap.size + 1) _ _ (gSub x) _ W hC (by omega) hsz (Nat.le_refl _) (by omega) (by omega) (by omega) (by omega))).mono ?_
    rintro e w' ⟨rfl, hC', hKo, hBe, hoth⟩
    gi_wp2
    have hA' := hoth _ _ _ (by omega) (by omega) (by decide) hA
    have hB' := hoth _ _ _ (by omega) (by omega) (by decide) hB
    exact ⟨hKo.from _, ⟨hBe, hA'.cell.trans hA.cell.symm, hB'.cell.trans hB.cell.symm⟩, ⟨by rw [crun_snoc]; exact hC', hoth _ _ _ (by omega) (by omega) (by decide) hP, hA', hB'⟩, hBl.trans hBe⟩
  case done =>
    rintro D ys W hD rfl ⟨⟨hC, hP, hA, hB⟩, hBl⟩ hK
    have hc1 := crun_le gSub ([0], 1) (Nat.le_refl _) gSub_le (prs2 oa ob (max a.length b.length))
    have hln := crun_len gSub ([0], 1) (prs2 oa ob (max a.length b.length))
    have hln : (crun gSub ([0], 1) (prs2 oa ob (max a.length b.length))).1.length = max a.length b.length + 1 := by rw [hln, prs2, upto_length]; simp; omega
    have hall := sub_all oa ob hle
    gi_wp2
    refine (all_in F _ h4f hro w.heap.size w.heap.size (w.heap.size + 1) _ _ W hC hBl.size (by omega) (by omega)).mono ?_
    rintro e w' ⟨v, rfl, hrow, hKo, hBe⟩
    have hK' := hKo.same D _ hK rfl
    obtain ⟨s, hs⟩ : ∃ s, s = crun gSub ([0], 1) (prs2 oa ob (max a.length b.length)) := ⟨_, rfl⟩
    rw [← hs] at hrow hln hall hc1
    clear hs hC
    obtain ⟨M, hM⟩ : ∃ M, M = max a.length b.length := ⟨_, rfl⟩
    rw [← hM] at hln hall
    rw [hln] at hrow
    have hrow2 := ownsRow_putObj hrow (.deferred none) hK' rfl
    rcases hrow2.2 with ⟨rfl, h0⟩ | ⟨g, cap, cur, rfl, g1, g2, g3, g4, g5, g6⟩
    · omega
    gi_wp2
    refine ⟨by simp, .inl ⟨_, _, rfl, run_takeDeferred hK', ?_⟩⟩
    refine ⟨_, results_tmp rfl _ _ _, _, g, cap - 1, rfl, (hBl.trans hBe).trans (belowK_b (w := w) (Nat.le_refl _) _ D _ _ (by omega) hK' rfl rfl), rfl, by omega, by omega, g1, (Array.getElem?_eq_some_iff.1 g2).1, fun j x hx => ?_⟩
    have hcell : ∀ (q : Nat) c, ((s.1 ++ [s.2]).map fun (x : Nat) => Value.int .u32 (x : Int))[q]? = some c → (w'.putObj D (.deferred none)).cell? ⟨g, q, none⟩ = some c := fun q c hq => by
      rw [← g6, List.getElem?_take] at hq
      split at hq
      · simp only [World.cell?, g2]
        simpa using hq
      · cases hq
    refine hcell _ _ ?_
    rw [← hM, ← hall, List.getElem?_drop] at hx
    rw [List.getElem?_map, List.getElem?_append_left (List.getElem?_eq_some_iff.1 hx).1, hx]
    rfl
  case stop =>
    rintro D c pre W _ _ h _
    exact h.elim
end Go.Proofs.YtpmlocilhhjifaaGreat.Eng
end
section
namespace Go.Proofs.YtpmlocilhhjifaaGreat.Eng
open Go.RowKit Go.Shelf Go.Proofs
attribute [local go_sem] Oper.semAt_some
set_option linter.unusedSimpArgs false
set_option linter.unusedVariables false
set_option maxRecDepth 100000
def cmpS (c : Int) (x : W2) : Int := if x.1.1 < x.1.2 then -1 else if x.1.2 < x.1.1 then 1 else c
def cmpR (pre : List W2) : Int := pre.foldl cmpS 0
theorem cmpR_snoc (pre : List W2) (x : W2) : cmpR (pre ++ [x]) = cmpS (cmpR pre) x := by simp [cmpR]
theorem cmpR_r : ∀ pre, -1 ≤ cmpR pre ∧ cmpR pre ≤ 1 := by
  refine snoc_ind (by simp [cmpR]) fun pre x ih => ?_
  rw [cmpR_snoc, cmpS]
  split
  · omega
  · split <;> omega
theorem cmp_run {a b : List Nat} (oa : Ok BW a) (ob : Ok BW b) (k : Nat) : cmpR (prs2 oa ob k) = if val BW (a.take k) < val BW (b.take k) then -1 else if val BW (b.take k) < val BW (a.take k) then 1 else 0 := by
  induction k with
  | zero => simp [prs2, upto, cmpR, val]
  | succ k ih =>
    rw [show prs2 oa ob (k + 1) = prs2 oa ob k ++ [w2 oa ob k] from upto_succ _ _, cmpR_snoc, val_take_gd, val_take_gd, cmpS, ih]
    have la : val BW (a.take k) < BW ^ k := Nat.lt_of_lt_of_le (val_lt (oa.take k)) (Nat.pow_le_pow_right BW0 (by simp; omega))
    have lb : val BW (b.take k) < BW ^ k := Nat.lt_of_lt_of_le (val_lt (ob.take k)) (Nat.pow_le_pow_right BW0 (by simp; omega))
    have hm : ∀ x y : Nat, x < y → BW ^ k * x + BW ^ k ≤ BW ^ k * y := fun x y h => by
      have := Nat.mul_le_mul_left (BW ^ k) (show x + 1 ≤ y from h)
      rwa [Nat.mul_add, Nat.mul_one] at this
    show (if gd a k < gd b k then (-1 : Int) else if gd b k < gd a k then 1 else _) = _
    rcases Nat.lt_trichotomy (gd a k) (gd b k) with h | h | h
    · have := hm _ _ h
      rw [if_pos h, if_pos (by omega)]
    · rw [h, if_neg (Nat.lt_irrefl _), if_neg (Nat.lt_irrefl _)]
      simp only [Nat.add_lt_add_iff_right]
    · have := hm _ _ h
      rw [if_neg (by omega), if_pos h, if_neg (by omega), if_pos (by omega)]
set_option maxHeartbeats 2000000 in
theorem cmp_in (F : Fence) (n : Nat) (h1f : F.fn 96) (h5f : F.fn 120) (h6f : F.fn 135) (hro : F.round = none) (hn : 3 ≤ n) (a b : List Nat) (va vb : Value)
    (hla : a.length ≤ 1000000) (hlb : b.length ≤ 1000000) (oa : Ok BW a) (ob : Ok BW b) (hl : a.length = b.length) (c : Int) (hcv : cmpR (prs2 oa ob (max a.length b.length)) = c) (w : World) (ma : Mag w.heap.size w va a) (mb : Mag w.heap.size w vb b) :
    CallsIn F n Tryz.prog 96 #[va, vb] w fun e W' => e = .returned (.int .i64 c) ∧ Below w.heap.size w W' := by
  have h1 : 1 ≤ n := by omega
  refine callsIn_of_wp_marks Tryz.func96 rfl h1f ?_ hro
  simp only [Tryz.ntmps96, List.size_toArray, List.length_cons, List.length_nil, Nat.reduceAdd, Nat.reduceSub, Array.replicate_succ, Array.replicate_zero, List.push_toArray, List.append_toArray, List.nil_append, List.cons_append]
  obtain ⟨ada, capa, eva, hca⟩ := ma
  obtain ⟨adb, capb, evb, hcb⟩ := mb
  subst eva evb
  gi_wp2_with (gi_at_call 120; refine (pairs_in F (n - 1) h5f hro _ _ _ _ _ _ _).mono ?_; rintro e w' ⟨rfl, rfl⟩)
  have bC := Boxed.new w 3 (.int .i64 0)
  have bA := Boxed.new (w.alloc (.cells #[.int .i64 0] 3)) 27 (.slice ada b.length capa)
  have bB := Boxed.new ((w.alloc (.cells #[.int .i64 0] 3)).alloc (.cells #[.slice ada b.length capa] 27)) 27 (.slice adb b.length capb)
  simp only [World.size_alloc] at bA bB
  have hB0 : Below w.heap.size w (((w.alloc (.cells #[.int .i64 0] 3)).alloc (.cells #[.slice ada b.length capa] 27)).alloc (.cells #[.slice adb b.length capb] 27)) :=
    (((Below.refl _ w).alloc (Nat.le_refl _) _).alloc (by simp) _).alloc (by simp; omega) _
  have bC := (bC.alloc (.cells #[.slice ada b.length capa] 27)).alloc (.cells #[.slice adb b.length capb] 27)
  have bA := bA.alloc (.cells #[.slice adb b.length capb] 27)
  obtain ⟨W0, hW0⟩ : ∃ W0, (((w.alloc (.cells #[.int .i64 0] 3)).alloc (.cells #[.slice ada b.length capa] 27)).alloc (.cells #[.slice adb b.length capb] 27)) = W0 := ⟨_, rfl⟩
  have hs0 : W0.heap.size = w.heap.size + 3 := by rw [← hW0]; simp
  rw [hW0] at bA bB bC hB0 ⊢
  clear hW0
  have mA : Mag w.heap.size W0 (.slice ada b.length capa) a := Mag.below hB0 ⟨_, _, by rw [hl], hca⟩
  have mB : Mag w.heap.size W0 (.slice adb b.length capb) b := Mag.below hB0 ⟨_, _, rfl, hcb⟩
  refine wpIn_rangeFunc_ownG hro h1 (gf := 135) (lb := #[.pointer (some ⟨(w.heap.size + 1), 0, none⟩), .pointer (some ⟨(w.heap.size + 1 + 1), 0, none⟩)]) rfl h6f (enters_of Tryz.func135 (by kernel_rfl) rfl)
    (pairs_stops F (n - 1) h6f hro (by omega) (w.heap.size + 1) (w.heap.size + 1 + 1) w.heap.size a b _ _ hla hlb oa ob W0 (by omega) (by omega) (by omega) bA.cell bB.cell mA mB) KpP.trans (kpP_b (by omega) (by omega) (by omega)) (Below.refl _ _) (fun _ => rfl)
    (fun pre W => (Boxed W w.heap.size 3 (.int .i64 (cmpR pre)) ∧ Boxed W (w.heap.size + 1) 27 (.slice ada b.length capa) ∧ Boxed W (w.heap.size + 1 + 1) 27 (.slice adb b.length capb)) ∧ Below w.heap.size w W)
    (fun _ _ _ => False)
    (OwnFrom.and (OwnFrom.and (Own.from (boxed_own _ _ (fun pre => .int .i64 (cmpR pre))) _) (OwnFrom.and (Own.from (boxed_own _ _ (fun _ => _)) _) (Own.from (boxed_own _ _ (fun _ => _)) _))) (ownFrom_below (Nat.le_refl _) (by omega)))
    (fun _ _ _ _ _ hs _ _ => hs)
    ⟨⟨bC, bA, bB⟩, hB0⟩
    (fun x => { tmps := #[.slice ada b.length capa, .slice adb b.length capb, undef, undef, .int .i64 0, .int .i64 0, .pointer (some ⟨w.heap.size, 0, none⟩), .int .u64 (x.1.1 : Int), .int .u64 (x.1.2 : Int), .slice ada b.length capa, .int .i64 b.length, .slice adb b.length capb, .int .i64 b.length, .int .i64 0, .int .i64 0, .bool false, undef, .slice ada b.length capa, .slice adb b.length capb, .func (.func 135) #[] #[.pointer (some ⟨(w.heap.size + 1), 0, none⟩), .pointer (some ⟨(w.heap.size + 1 + 1), 0, none⟩)],
      .int .u64 (x.1.1 : Int), .int .u64 (x.1.2 : Int), undef, undef, undef, undef, undef, undef, undef, undef, undef], defers := [] }) ?assign ?body ?done ?stop
  case assign =>
    intro l x W K hK
    gi_wp2
    exact hK
  case body =>
    rintro l pre x W ⟨⟨hC, hA, hB⟩, hBl⟩ hlt
    have hcc := hC.cell
    have hcf := hC.frozen
    have hBW := BW_eq
    have hx1 : x.1.1 < 4294967296 := by have := x.2.1; omega
    have hx2 : x.1.2 < 4294967296 := by have := x.2.2; omega
    have key : ∀ v : Int, v = cmpS (cmpR pre) x → (KeepsFrom W0.heap.size W (W.setCell ⟨w.heap.size, 0, none⟩ (.int .i64 v))) ∧ KpP w.heap.size (w.heap.size + 1) (w.heap.size + 1 + 1) W (W.setCell ⟨w.heap.size, 0, none⟩ (.int .i64 v)) ∧
        (Boxed (W.setCell ⟨w.heap.size, 0, none⟩ (.int .i64 v)) w.heap.size 3 (.int .i64 (cmpR (pre ++ [x]))) ∧ Boxed (W.setCell ⟨w.heap.size, 0, none⟩ (.int .i64 v)) (w.heap.size + 1) 27 (.slice ada b.length capa) ∧ Boxed (W.setCell ⟨w.heap.size, 0, none⟩ (.int .i64 v)) (w.heap.size + 1 + 1) 27 (.slice adb b.length capb)) ∧ Below w.heap.size w (W.setCell ⟨w.heap.size, 0, none⟩ (.int .i64 v)) := fun v hv => by
      have hA' := hA.other (B' := w.heap.size) (by omega) (.int .i64 v)
      have hB' := hB.other (B' := w.heap.size) (by omega) (.int .i64 v)
      have hb := (Below.refl w.heap.size W).setCell (p := ⟨w.heap.size, 0, none⟩) (Nat.le_refl _) (.int .i64 v)
      rw [cmpR_snoc, ← hv]
      exact ⟨(KeepsOthers.setCell _ _ _).from _, ⟨hb, hA'.cell.trans hA.cell.symm, hB'.cell.trans hB.cell.symm⟩, ⟨hC.set _, hA', hB'⟩, hBl.trans hb⟩
    rcases Nat.lt_trichotomy x.1.1 x.1.2 with h | h | h
    · gi_wp2
      exact key _ (by rw [cmpS, if_pos h])
    · have h' : ¬ x.1.1 < x.1.2 := by omega
      have h'' : ¬ x.1.2 < x.1.1 := by omega
      gi_wp2
      exact ⟨KeepsFrom.refl _ _, KpP.refl _ _ _ _, ⟨by rw [cmpR_snoc, cmpS, if_neg h', if_neg h'']; exact hC, hA, hB⟩, hBl⟩
    · have h' : ¬ x.1.1 < x.1.2 := by omega
      gi_wp2
      exact key _ (by rw [cmpS, if_neg (by omega), if_pos h])
  case done =>
    rintro D ys W hD rfl ⟨⟨hC, hA, hB⟩, hBl⟩ hK
    rw [hcv] at hC
    have hcc := hC.cell
    gi_wp2
    refine ⟨by simp, .inl ⟨_, _, rfl, run_takeDeferred hK, ?_⟩⟩
    exact ⟨_, results_tmp rfl _ _ _, rfl, hBl.trans (belowK_b (w := w) (Nat.le_refl _) _ D _ _ (by omega) hK rfl rfl)⟩
  case stop =>
    rintro D c pre W _ _ h _
    exact h.elim
set_option maxHeartbeats 1000000 in
theorem cmp_ne_in (F : Fence) (n : Nat) (h1f : F.fn 96) (hro : F.round = none) (a b : List Nat) (va vb : Value)
    (hla : a.length ≤ 1000000) (hlb : b.length ≤ 1000000) (hl : a.length ≠ b.length) (w : World) (ma : Mag w.heap.size w va a) (mb : Mag w.heap.size w vb b) :
    CallsIn F n Tryz.prog 96 #[va, vb] w fun e W' => e = .returned (.int .i64 ((a.length : Int) - b.length)) ∧ W' = w := by
  refine callsIn_of_wp Tryz.func96 rfl h1f ?_ hro
  simp only [Tryz.ntmps96, List.size_toArray, List.length_cons, List.length_nil, Nat.reduceAdd, Nat.reduceSub, Array.replicate_succ, Array.replicate_zero, List.push_toArray, List.append_toArray, List.nil_append, List.cons_append]
  obtain ⟨ada, capa, eva, hca⟩ := ma
  obtain ⟨adb, capb, evb, hcb⟩ := mb
  subst eva evb
  gi_wp2
  · go_ret
    exact ⟨rfl, rfl⟩
  all_goals (exfalso; omega)
end Go.Proofs.YtpmlocilhhjifaaGreat.Eng
end
