/- Package whole: add, by hand. -/
import Derived.Laws.EntriesVeiled
import Derived.Test.YtpmlocilhhjifaaClo2
namespace Go.Proofs.Ytpmlocilhhjifaa.Eng
open Go.RowKit Go.Shelf Go.Proofs
attribute [local go_sem] Oper.semAt_some
set_option linter.unusedSimpArgs false
set_option linter.unusedVariables false
set_option maxRecDepth 100000

set_option maxHeartbeats 2000000 in
theorem add_in (F : Fence) (n : Nat) (h1f : F.fn 117) (h2f : F.fn 149) (h3f : F.fn 159) (h4f : F.fn 160) (h5f : F.fn 133) (h6f : F.fn 152) (hro : F.round = none) (hn : 3 ≤ n) (a b : List Nat) (va vb : Value)
    (hla : a.length ≤ 1000000) (hlb : b.length ≤ 1000000) (oa : Ok BW a) (ob : Ok BW b) (w : World) (ma : Mag w.heap.size w va a) (mb : Mag w.heap.size w vb b) :
    CallsIn F n Try.prog 117 #[va, vb] w fun e W' => ∃ v, e = .returned v ∧ Below w.heap.size w W' ∧
      W'.ownsRow w.heap.size 106 1 v (max a.length b.length + 1) ((pd BW (max a.length b.length + 1) (val BW a + val BW b)).map fun (x : Nat) => Value.int .u32 (x : Int)) := by
  have h1 : 1 ≤ n := by omega
  refine callsIn_of_wp_marks Try.func117 rfl h1f ?_ hro
  simp only [Try.ntmps117, List.size_toArray, List.length_cons, List.length_nil, Nat.reduceAdd, Nat.reduceSub, Array.replicate_succ, Array.replicate_zero, List.push_toArray, List.append_toArray, List.nil_append, List.cons_append]
  obtain ⟨ada, capa, eva, hca⟩ := ma
  obtain ⟨adb, capb, evb, hcb⟩ := mb
  subst eva evb
  gi_wp2_with (first
    | (gi_at_call 149; refine (carrier_in F (n - 1) h2f hro _).mono ?_; rintro e w' ⟨rfl, rfl⟩)
    | (gi_at_call 133; refine (pairs_in F (n - 1) h5f hro _ _ _ _ _ _ _).mono ?_; rintro e w' ⟨rfl, rfl⟩))
  have bO := Boxed.new w 22 (.slice none 0 0)
  have bC := Boxed.new (w.alloc (.cells #[.slice none 0 0] 22)) 115 (.int .u64 0)
  have bP := Boxed.new ((w.alloc (.cells #[.slice none 0 0] 22)).alloc (.cells #[.int .u64 0] 115)) 144 (.func (.func 159) #[] #[.pointer (some ⟨w.heap.size + 1, 0, none⟩), .pointer (some ⟨w.heap.size, 0, none⟩)])
  have bA := Boxed.new (((w.alloc (.cells #[.slice none 0 0] 22)).alloc (.cells #[.int .u64 0] 115)).alloc (.cells #[.func (.func 159) #[] #[.pointer (some ⟨w.heap.size + 1, 0, none⟩), .pointer (some ⟨w.heap.size, 0, none⟩)]] 144)) 22 (.slice ada a.length capa)
  have bB := Boxed.new ((((w.alloc (.cells #[.slice none 0 0] 22)).alloc (.cells #[.int .u64 0] 115)).alloc (.cells #[.func (.func 159) #[] #[.pointer (some ⟨w.heap.size + 1, 0, none⟩), .pointer (some ⟨w.heap.size, 0, none⟩)]] 144)).alloc (.cells #[.slice ada a.length capa] 22)) 22 (.slice adb b.length capb)
  simp only [World.size_alloc] at bC bP bA bB
  have hB0 : Below w.heap.size w (((((w.alloc (.cells #[.slice none 0 0] 22)).alloc (.cells #[.int .u64 0] 115)).alloc (.cells #[.func (.func 159) #[] #[.pointer (some ⟨w.heap.size + 1, 0, none⟩), .pointer (some ⟨w.heap.size, 0, none⟩)]] 144)).alloc (.cells #[.slice ada a.length capa] 22)).alloc (.cells #[.slice adb b.length capb] 22)) :=
    ((((((Below.refl _ w).alloc (Nat.le_refl _) _).alloc (by simp) _).alloc (by simp; omega) _).alloc (by simp; omega) _)).alloc (by simp; omega) _
  have bO := (((bO.alloc (.cells #[.int .u64 0] 115)).alloc (.cells #[.func (.func 159) #[] #[.pointer (some ⟨w.heap.size + 1, 0, none⟩), .pointer (some ⟨w.heap.size, 0, none⟩)]] 144)).alloc (.cells #[.slice ada a.length capa] 22)).alloc (.cells #[.slice adb b.length capb] 22)
  have bC := ((bC.alloc (.cells #[.func (.func 159) #[] #[.pointer (some ⟨w.heap.size + 1, 0, none⟩), .pointer (some ⟨w.heap.size, 0, none⟩)]] 144)).alloc (.cells #[.slice ada a.length capa] 22)).alloc (.cells #[.slice adb b.length capb] 22)
  have bP := (bP.alloc (.cells #[.slice ada a.length capa] 22)).alloc (.cells #[.slice adb b.length capb] 22)
  have bA := bA.alloc (.cells #[.slice adb b.length capb] 22)
  obtain ⟨W0, hW0⟩ : ∃ W0, (((((w.alloc (.cells #[.slice none 0 0] 22)).alloc (.cells #[.int .u64 0] 115)).alloc (.cells #[.func (.func 159) #[] #[.pointer (some ⟨w.heap.size + 1, 0, none⟩), .pointer (some ⟨w.heap.size, 0, none⟩)]] 144)).alloc (.cells #[.slice ada a.length capa] 22)).alloc (.cells #[.slice adb b.length capb] 22)) = W0 := ⟨_, rfl⟩
  have hs0 : W0.heap.size = w.heap.size + 5 := by rw [← hW0]; simp
  rw [hW0] at bO bC bP bA bB hB0 ⊢
  clear hW0
  have mA : Mag w.heap.size W0 (.slice ada a.length capa) a := Mag.below hB0 ⟨_, _, rfl, hca⟩
  have mB : Mag w.heap.size W0 (.slice adb b.length capb) b := Mag.below hB0 ⟨_, _, rfl, hcb⟩
  refine wpIn_rangeFunc_ownG hro h1 (gf := 152) (lb := #[.pointer (some ⟨(w.heap.size + 1 + 1 + 1), 0, none⟩), .pointer (some ⟨(w.heap.size + 1 + 1 + 1 + 1), 0, none⟩)]) rfl h6f (enters_of Try.func152 (by kernel_rfl) rfl)
    (pairs_stops F (n - 1) h6f hro (by omega) (w.heap.size + 1 + 1 + 1) (w.heap.size + 1 + 1 + 1 + 1) w.heap.size a b _ _ hla hlb oa ob W0 (by omega) (by omega) (by omega) bA.cell bB.cell mA mB) KpP.trans (kpP_b (by omega) (by omega) (by omega)) (Below.refl _ _) (fun _ => rfl)
    (fun pre W => (Car w.heap.size w.heap.size (w.heap.size + 1) (crun gAdd ([], 0) pre).1 (crun gAdd ([], 0) pre).2 W ∧ Boxed W (w.heap.size + 1 + 1) 144 (.func (.func 159) #[] #[.pointer (some ⟨w.heap.size + 1, 0, none⟩), .pointer (some ⟨w.heap.size, 0, none⟩)]) ∧ Boxed W (w.heap.size + 1 + 1 + 1) 22 (.slice ada a.length capa) ∧ Boxed W (w.heap.size + 1 + 1 + 1 + 1) 22 (.slice adb b.length capb)) ∧ Below w.heap.size w W)
    (fun _ _ _ => False)
    (OwnFrom.and (OwnFrom.and (Own.from (car_own _ _ _ (fun pre => (crun gAdd ([], 0) pre).1) (fun pre => (crun gAdd ([], 0) pre).2)) _) (OwnFrom.and (Own.from (boxed_own _ _ (fun _ => _)) _) (OwnFrom.and (Own.from (boxed_own _ _ (fun _ => _)) _) (Own.from (boxed_own _ _ (fun _ => _)) _)))) (ownFrom_below (Nat.le_refl _) (by omega)))
    (fun _ _ _ _ _ hs _ _ => hs)
    ⟨⟨⟨⟨_, bO, World.ownsRow_nil _ _ _ _, by simp [crun]⟩, bC⟩, bP, bA, bB⟩, hB0⟩
    (fun x => { tmps := #[.slice ada a.length capa, .slice adb b.length capb, undef, undef, .slice none 0 0, .pointer (some ⟨(w.heap.size + 1 + 1), 0, none⟩), .func (.func 160) #[] #[.pointer (some ⟨w.heap.size, 0, none⟩), .pointer (some ⟨w.heap.size + 1, 0, none⟩)], .int .u64 (x.1.1 : Int), .int .u64 (x.1.2 : Int),
      .tuple #[.func (.func 159) #[] #[.pointer (some ⟨w.heap.size + 1, 0, none⟩), .pointer (some ⟨w.heap.size, 0, none⟩)], .func (.func 160) #[] #[.pointer (some ⟨w.heap.size, 0, none⟩), .pointer (some ⟨w.heap.size + 1, 0, none⟩)]], .tuple #[.func (.func 159) #[] #[.pointer (some ⟨w.heap.size + 1, 0, none⟩), .pointer (some ⟨w.heap.size, 0, none⟩)], .func (.func 160) #[] #[.pointer (some ⟨w.heap.size, 0, none⟩), .pointer (some ⟨w.heap.size + 1, 0, none⟩)]], .func (.func 159) #[] #[.pointer (some ⟨w.heap.size + 1, 0, none⟩), .pointer (some ⟨w.heap.size, 0, none⟩)], .func (.func 160) #[] #[.pointer (some ⟨w.heap.size, 0, none⟩), .pointer (some ⟨w.heap.size + 1, 0, none⟩)], .slice ada a.length capa, .slice adb b.length capb, .func (.func 152) #[] #[.pointer (some ⟨w.heap.size + 1 + 1 + 1, 0, none⟩), .pointer (some ⟨w.heap.size + 1 + 1 + 1 + 1, 0, none⟩)],
      .int .u64 (x.1.1 : Int), .int .u64 (x.1.2 : Int), undef, undef, undef, undef, undef, undef, undef], defers := [] }) ?assign ?body ?done ?stop
  case assign =>
    intro l x W K hK
    gi_wp2
    exact hK
  case body =>
    rintro l pre x W ⟨⟨hC, hP, hA, hB⟩, hBl⟩ hlt
    have hpc := hP.cell
    have hc1 := crun_le gAdd ([], 0) (Nat.zero_le _) gAdd_le pre
    have hln := crun_len gAdd ([], 0) pre
    have hBW := BW_eq
    have hx1 : x.1.1 < 4294967296 := by have := x.2.1; omega
    have hx2 : x.1.2 < 4294967296 := by have := x.2.2; omega
    have hsz := hBl.size
    simp only [List.length_nil, Nat.zero_add] at hln
    have hg1 := gAdd_le x
    gi_wp2
    refine ⟨fun _ => by omega, ?_⟩
    refine (CallsIn.inRound l (put_in F _ h3f hro w.heap.size w.heap.size (w.heap.size + 1) _ _ (gAdd x) _ W hC (by simp [gAdd]) hsz (Nat.le_refl _) (by omega) (by omega) (by omega) (by omega))).mono ?_
    rintro e w' ⟨rfl, hC', hKo, hBe, hoth⟩
    gi_wp2
    have hA' := hoth _ _ _ (by omega) (by omega) (by decide) hA
    have hB' := hoth _ _ _ (by omega) (by omega) (by decide) hB
    exact ⟨hKo.from _, ⟨hBe, hA'.cell.trans hA.cell.symm, hB'.cell.trans hB.cell.symm⟩, ⟨by rw [crun_snoc]; exact hC', hoth _ _ _ (by omega) (by omega) (by decide) hP, hA', hB'⟩, hBl.trans hBe⟩
  case done =>
    rintro D ys W hD rfl ⟨⟨hC, hP, hA, hB⟩, hBl⟩ hK
    have hBW := BW_eq
    have hc1 := crun_le gAdd ([], 0) (Nat.zero_le _) gAdd_le (prs2 oa ob (max a.length b.length))
    have hln := crun_len gAdd ([], 0) (prs2 oa ob (max a.length b.length))
    have hln : (crun gAdd ([], 0) (prs2 oa ob (max a.length b.length))).1.length = max a.length b.length := by rw [hln, prs2, upto_length]; simp
    gi_wp2
    refine (all_in F _ h4f hro w.heap.size w.heap.size (w.heap.size + 1) _ _ W hC hBl.size (by omega) (by omega)).mono ?_
    rintro e w' ⟨v, rfl, hrow, hKo, hBe⟩
    gi_wp2
    have hK' := hKo.same D _ hK rfl
    rw [add_all, hln] at hrow
    refine ⟨by simp, .inl ⟨_, _, rfl, run_takeDeferred hK', ?_⟩⟩
    exact ⟨_, results_tmp rfl _ _ _, v, rfl, (hBl.trans hBe).trans (belowK_b (w := w) (Nat.le_refl _) _ D _ _ (by omega) hK' rfl rfl), ownsRow_putObj hrow _ hK' rfl⟩
  case stop =>
    rintro D c pre W _ _ h _
    exact h.elim
end Go.Proofs.Ytpmlocilhhjifaa.Eng
