/- Package whole: Int64, by hand. -/
import Derived.Laws.EntriesVeiled
import Derived.Test.YtpmlocilhhjifaaClo2
import Derived.Lib.LazyBuf
section
namespace Go.Proofs.Ytpmlocilhhjifaa.Eng
open Go.RowKit Go.Shelf Go.Proofs
attribute [local go_sem] Oper.semAt_some
set_option linter.unusedSimpArgs false
set_option linter.unusedVariables false
set_option maxRecDepth 100000
def int64V (i : Int) : Int := if -9223372036854775808 ≤ i ∧ i ≤ 9223372036854775807 then i else 0
def int64B (i : Int) : Bool := decide (-9223372036854775808 ≤ i ∧ i ≤ 9223372036854775807)
/-- A slice that reads as words is a magnitude in memory. -/
theorem mag_of_rd {w : World} {ok : Nat → Nat → Prop} {t : Nat} {ws : List Nat} {xs : List (List D)} {v : Value} (hx : xs = wl ws) (h : RD w ok (.sl t 1 xs) v) : Mag w.heap.size w v ws := by
  cases h with
  | nil =>
    have : ws = [] := by cases ws <;> simp [wl] at hx ⊢
    subst this
    exact ⟨none, 0, rfl, fun j x hj => by simp at hj⟩
  | sl _ _ _ a cap cs ht h1 h2 h3 h4 h5 h6 =>
    refine ⟨some a, cap, by rw [hx, wl_len], fun j x hj => ?_⟩
    have hj1 : xs[j]? = some [D.sc (.int .u32 (x : Int))] := by rw [hx]; simp [wl, hj]
    have hne : xs ≠ [] := fun e => by rw [e] at hj1; simp at hj1
    obtain ⟨g1, g2, g3⟩ := h1 hne
    have hc := h5 j 0 _ _ hj1 rfl
    have hr := RD.sc_inv (h6 j 0 _ _ hj1 rfl)
    obtain ⟨b, off, sp⟩ := a
    simp only at g1
    subst g1
    refine ⟨b, off, rfl, g3, ?_⟩
    simp only [Nat.mul_one, Nat.add_zero] at hc
    rw [hc, hr]
@[irreducible] def uS (u : Nat) (x : W2) : Nat := u / 4294967296 + 4294967296 * x.1.1
def uR (pre : List W2) : Nat := pre.foldl uS 0
theorem uR_snoc (pre : List W2) (x : W2) : uR (pre ++ [x]) = uS (uR pre) x := by simp [uR]
theorem uS_lt {u : Nat} (x : W2) (ih : u < 18446744073709551616) : uS u x < 18446744073709551616 := by
  have hx : x.1.1 < 4294967296 := by have := x.2.1; have := BW_eq; omega
  unfold uS
  omega
theorem uR_lt : ∀ pre : List W2, uR pre < 18446744073709551616 :=
  snoc_ind (p := fun pre => uR pre < 18446744073709551616) (Nat.lt_of_le_of_lt (Nat.le_refl 0) (by decide)) fun pre x ih => (uR_snoc pre x).symm ▸ uS_lt x ih
theorem int64_fin {ws : List Nat} (ho : Ok BW ws) (hl : ws.length ≤ 2) : (if ws.length = 1 then uR (prs2 ho Ok.nil (max ws.length ([] : List Nat).length)) / 4294967296 else uR (prs2 ho Ok.nil (max ws.length ([] : List Nat).length))) = val BW ws := by
  match ws, ho, hl with
  | [], ho, _ => simp [prs2, upto, uR, val]
  | [x], ho, _ =>
    have h : uR (prs2 ho Ok.nil (max [x].length ([] : List Nat).length)) = uS 0 (w2 ho Ok.nil 0) := rfl
    rw [if_pos (show [x].length = 1 from rfl), h]
    unfold uS
    show (0 / 4294967296 + 4294967296 * x) / 4294967296 = x + BW * 0
    omega
  | [x, y], ho, _ =>
    have h : uR (prs2 ho Ok.nil (max [x, y].length ([] : List Nat).length)) = uS (uS 0 (w2 ho Ok.nil 0)) (w2 ho Ok.nil 1) := rfl
    rw [if_neg (by simp), h]
    unfold uS
    show (0 / 4294967296 + 4294967296 * x) / 4294967296 + 4294967296 * y = x + BW * (y + BW * 0)
    have := BW_eq
    rw [Nat.mul_zero, Nat.add_zero, this]
    omega
  | _ :: _ :: _ :: _, _, h => simp at h
theorem sgT (n : Nat) : sg true n = -(n : Int) := rfl
theorem sgF (n : Nat) : sg false n = (n : Int) := rfl
theorem wid64 {n : Int} (h1 : -9223372036854775808 ≤ n) (h2 : n < 9223372036854775808) : wrap64 n = n := by
  unfold wrap64
  rw [Int.emod_eq_of_lt (by omega) (by omega)]
  omega
theorem wnn64 {u : Int} (h0 : 0 ≤ u) (h : u ≤ 9223372036854775808) : wrap64 (-wrap64 u) = -u := by
  rcases Int.lt_or_eq_of_le h with h | h
  · rw [wid64 (by omega) h, wid64 (by omega) (by omega)]
  · subst h
    simp [wrap64]
theorem whi64 {u : Int} (h0 : 9223372036854775808 ≤ u) (h : u < 18446744073709551616) : wrap64 u < 0 := by
  have e : u + 9223372036854775808 = (u - 9223372036854775808) + 18446744073709551616 := by omega
  unfold wrap64
  rw [e, Int.add_emod_right, Int.emod_eq_of_lt (by omega) (by omega)]
  omega
theorem nat_u64 {u : Nat} (h : u < 18446744073709551616) : (u : Int) < 18446744073709551616 := by omega
theorem lo64 {u : Int} (h1 : u < 18446744073709551616) (hw : 0 ≤ wrap64 u) : u < 9223372036854775808 := Int.not_le.1 fun hh => absurd hw (Int.not_le.2 (whi64 hh h1))
theorem hi64 {u : Int} (h0 : 0 ≤ u) (hw : wrap64 u < 0) : 9223372036854775808 ≤ u := Int.not_lt.1 fun hh => by
  rw [wid64 (by omega) hh] at hw
  omega
theorem div64 {u : Nat} (h : u < 18446744073709551616) : (u : Int) / 4294967296 < 9223372036854775808 := by omega
theorem i64_t {V : Nat} (h : (V : Int) ≤ 9223372036854775808) : int64V (sg true V) = -(V : Int) ∧ int64B (sg true V) = true := by
  rw [sgT, int64V, int64B, if_pos (by omega), decide_eq_true_eq]
  omega
theorem i64_tn {V : Nat} (h : 9223372036854775808 < (V : Int)) : int64V (sg true V) = 0 ∧ int64B (sg true V) = false := by
  rw [sgT, int64V, int64B, if_neg (by omega), decide_eq_false_iff_not]
  omega
theorem i64_f {V : Nat} (h : (V : Int) < 9223372036854775808) : int64V (sg false V) = (V : Int) ∧ int64B (sg false V) = true := by
  rw [sgF, int64V, int64B, if_pos (by omega), decide_eq_true_eq]
  omega
theorem i64_fn {V : Nat} (h : 9223372036854775808 ≤ (V : Int)) : int64V (sg false V) = 0 ∧ int64B (sg false V) = false := by
  rw [sgF, int64V, int64B, if_neg (by omega), decide_eq_false_iff_not]
  omega
set_option maxHeartbeats 2000000 in
theorem int64_big (F : Fence) (n : Nat) (h1f : F.fn 42) (htf : F.fn 115) (h5f : F.fn 133) (h6f : F.fn 152) (hro : F.round = none) (hn : 4 ≤ n) (s : Bool) (ws : List Nat) (w : World) (sv : Value) (ho : Ok BW ws) (hl : 2 < ws.length)
    (hT : CallsIn F (n - 1) Try.prog 115 #[sv] (w.alloc (.cells #[.bool s, sv] 24)) fun e w' => ∃ v, e = .returned v ∧ Below (w.alloc (.cells #[.bool s, sv] 24)).heap.size (w.alloc (.cells #[.bool s, sv] 24)) w' ∧ Mag w'.heap.size w' v ws) :
    CallsIn F n Try.prog 42 #[.agg #[.bool s, sv]] w fun e W' => e = .returned (.tuple #[.int .i64 0, .bool false]) ∧ Below w.heap.size w W' := by
  have h1 : 1 ≤ n := by omega
  refine callsIn_of_wp Try.func42 rfl h1f ?_ hro
  simp only [Try.ntmps42, List.size_toArray, List.length_cons, List.length_nil, Nat.reduceAdd, Nat.reduceSub, Array.replicate_succ, Array.replicate_zero, List.push_toArray, List.append_toArray, List.nil_append, List.cons_append]
  gi_wp2
  refine hT.mono ?_
  rintro e w1 ⟨v, rfl, hB1, ad, cap, rfl, hc⟩
  have hBw : Below w.heap.size w w1 := ((Below.refl _ w).alloc (Nat.le_refl _) _).trans (hB1.mono (by simp))
  gi_wp2
  go_ret2
  exact ⟨rfl, hBw⟩
set_option maxHeartbeats 4000000 in
theorem int64_in (F : Fence) (n : Nat) (h1f : F.fn 42) (htf : F.fn 115) (h5f : F.fn 133) (h6f : F.fn 152) (hro : F.round = none) (hn : 4 ≤ n) (s : Bool) (ws : List Nat) (w : World) (sv : Value) (ho : Ok BW ws) (hl : ws.length ≤ 2) (r1 : Int) (r2 : Bool)
    (hr1 : r1 = int64V (sg s (val BW ws))) (hr2 : r2 = int64B (sg s (val BW ws)))
    (hT : CallsIn F (n - 1) Try.prog 115 #[sv] (w.alloc (.cells #[.bool s, sv] 24)) fun e w' => ∃ v, e = .returned v ∧ Below (w.alloc (.cells #[.bool s, sv] 24)).heap.size (w.alloc (.cells #[.bool s, sv] 24)) w' ∧ Mag w'.heap.size w' v ws) :
    CallsIn F n Try.prog 42 #[.agg #[.bool s, sv]] w fun e W' => e = .returned (.tuple #[.int .i64 r1, .bool r2]) ∧ Below w.heap.size w W' := by
  have h1 : 1 ≤ n := by omega
  refine callsIn_of_wp_marks Try.func42 rfl h1f ?_ hro
  simp only [Try.ntmps42, List.size_toArray, List.length_cons, List.length_nil, Nat.reduceAdd, Nat.reduceSub, Array.replicate_succ, Array.replicate_zero, List.push_toArray, List.append_toArray, List.nil_append, List.cons_append]
  gi_wp2
  refine hT.mono ?_
  rintro e w1 ⟨v, rfl, hB1, ad, cap, rfl, hc⟩
  have hBw : Below w.heap.size w w1 := ((Below.refl _ w).alloc (Nat.le_refl _) _).trans (hB1.mono (by simp))
  have bZ : w1.heap[w.heap.size]? = some (.cells #[.bool s, sv] 24 (0, 0)) := (hB1.block _ (by simp)).trans (World.alloc_heap_new w _)
  have hs1 : w.heap.size < w1.heap.size := (Array.getElem?_eq_some_iff.1 bZ).1
  gi_wp2_with (gi_at_call 133; refine (pairs_in F (n - 1) h5f hro _ _ _ _ _ _ _).mono ?_; rintro e w' ⟨rfl, rfl⟩)
  have bC := Boxed.new w1 115 (.int .u64 0)
  have bA := Boxed.new (w1.alloc (.cells #[.int .u64 0] 115)) 22 (.slice ad ws.length cap)
  have bB := Boxed.new ((w1.alloc (.cells #[.int .u64 0] 115)).alloc (.cells #[.slice ad ws.length cap] 22)) 22 (.slice none 0 0)
  simp only [World.size_alloc] at bA bB
  have hB0 : Below w1.heap.size w1 (((w1.alloc (.cells #[.int .u64 0] 115)).alloc (.cells #[.slice ad ws.length cap] 22)).alloc (.cells #[.slice none 0 0] 22)) :=
    (((Below.refl _ w1).alloc (Nat.le_refl _) _).alloc (by simp) _).alloc (by simp; omega) _
  have bC := (bC.alloc (.cells #[.slice ad ws.length cap] 22)).alloc (.cells #[.slice none 0 0] 22)
  have bA := bA.alloc (.cells #[.slice none 0 0] 22)
  obtain ⟨W0, hW0⟩ : ∃ W0, (((w1.alloc (.cells #[.int .u64 0] 115)).alloc (.cells #[.slice ad ws.length cap] 22)).alloc (.cells #[.slice none 0 0] 22)) = W0 := ⟨_, rfl⟩
  have hs0 : W0.heap.size = w1.heap.size + 3 := by rw [← hW0]; simp
  rw [hW0] at bA bB bC hB0 ⊢
  clear hW0
  have mA : Mag w1.heap.size W0 (.slice ad ws.length cap) ws := Mag.below hB0 ⟨_, _, rfl, hc⟩
  have mB : Mag w1.heap.size W0 (.slice none 0 0) [] := ⟨none, 0, rfl, fun j x hj => by simp at hj⟩
  refine wpIn_rangeFunc_ownG hro h1 (gf := 152) (lb := #[.pointer (some ⟨(w1.heap.size + 1), 0, none⟩), .pointer (some ⟨(w1.heap.size + 1 + 1), 0, none⟩)]) rfl h6f (enters_of Try.func152 (by kernel_rfl) rfl)
    (pairs_stops F (n - 1) h6f hro (by omega) (w1.heap.size + 1) (w1.heap.size + 1 + 1) w1.heap.size ws [] _ _ (by omega) (by simp) ho Ok.nil W0 (by omega) (by omega) (by omega) bA.cell bB.cell mA mB) KpP.trans (kpP_b (by omega) (by omega) (by omega)) (Below.refl _ _) (fun _ => rfl)
    (fun pre W => (Boxed W w1.heap.size 115 (.int .u64 (uR pre : Int)) ∧ Boxed W (w1.heap.size + 1) 22 (.slice ad ws.length cap) ∧ Boxed W (w1.heap.size + 1 + 1) 22 (.slice none 0 0)) ∧ Below w1.heap.size w1 W)
    (fun _ _ _ => False)
    (OwnFrom.and (OwnFrom.and (Own.from (boxed_own _ _ (fun pre => .int .u64 (uR pre : Int))) _) (OwnFrom.and (Own.from (boxed_own _ _ (fun _ => _)) _) (Own.from (boxed_own _ _ (fun _ => _)) _))) (ownFrom_below (Nat.le_refl _) (by omega)))
    (fun _ _ _ _ _ hs _ _ => hs)
    ⟨⟨bC, bA, bB⟩, hB0⟩
    (fun x => { tmps := #[.agg #[.bool s, sv], .pointer (some ⟨w.heap.size, 0, none⟩), .int .i64 0, .bool false, .slice ad ws.length cap, .pointer (some ⟨w1.heap.size, 0, none⟩), .int .u64 (x.1.1 : Int), undef, .pointer (some ⟨w.heap.size, 1, none⟩), sv, .slice ad ws.length cap, .slice ad ws.length cap, .int .i64 ws.length, .bool (decide ((2 : Int) < ws.length)), .slice ad ws.length cap, .func (.func 152) #[] #[.pointer (some ⟨(w1.heap.size + 1), 0, none⟩), .pointer (some ⟨(w1.heap.size + 1 + 1), 0, none⟩)],
      .int .u64 (x.1.1 : Int), .int .u64 (x.1.2 : Int), undef, undef, undef, undef, undef, undef, undef, undef, undef, undef, undef, undef, undef, undef, undef, undef, undef, undef, undef, undef, undef, undef, undef, undef, undef, undef, undef, undef], defers := [] }) ?assign ?body ?done ?stop
  case assign =>
    intro l x W K hK
    gi_wp2
    exact hK
  case body =>
    rintro l pre x W ⟨⟨hC, hA, hB⟩, hBl⟩ hlt
    have hcc := hC.cell
    have hcf := hC.frozen
    have hx1 : x.1.1 < 4294967296 := by have := x.2.1; have := BW_eq; omega
    have hul := uR_lt pre
    have hv : ((uR (pre ++ [x]) : Nat) : Int) = (uR pre : Int) / 4294967296 + x.1.1 * 4294967296 := by
      rw [uR_snoc]
      unfold uS
      omega
    gi_wp2
    rw [← hv]
    have hA' := hA.other (B' := w1.heap.size) (by omega) (.int .u64 (uR (pre ++ [x]) : Int))
    have hB' := hB.other (B' := w1.heap.size) (by omega) (.int .u64 (uR (pre ++ [x]) : Int))
    have hb := (Below.refl w1.heap.size W).setCell (p := ⟨w1.heap.size, 0, none⟩) (Nat.le_refl _) (.int .u64 (uR (pre ++ [x]) : Int))
    exact ⟨(KeepsOthers.setCell _ _ _).from _, ⟨hb, hA'.cell.trans hA.cell.symm, hB'.cell.trans hB.cell.symm⟩, ⟨hC.set _, hA', hB'⟩, hBl.trans hb⟩
  case done =>
    rintro D ys W hD rfl ⟨⟨hC, hA, hB⟩, hBl⟩ hK
    have hcc := hC.cell
    have hcf := hC.frozen
    have hul := uR_lt (prs2 ho Ok.nil (max ws.length ([] : List Nat).length))
    have hfin := int64_fin ho hl
    obtain ⟨u, hu⟩ : ∃ u, u = uR (prs2 ho Ok.nil (max ws.length ([] : List Nat).length)) := ⟨_, rfl⟩
    rw [← hu] at hcc hul hfin hC
    clear hu
    have bZ' := (hBl.block _ hs1).trans bZ
    have hz0 : W.cell? ⟨w.heap.size, 0, none⟩ = some (.bool s) := by simp [World.cell?, show W.heap[w.heap.size]? = _ from bZ']
    have hK1 := (KeepsOthers.setCell W ⟨w1.heap.size, 0, none⟩ (.int .u64 ((u : Int) / 4294967296))).same D _ hK rfl
    have hBe := hBl.setCell (p := ⟨w1.heap.size, 0, none⟩) (Nat.le_refl _) (.int .u64 ((u : Int) / 4294967296))
    have hbel : ∀ {W' : World}, Below w1.heap.size w1 W' → W'.heap[D]? = some (.deferred (some [])) → Below w.heap.size w (W'.putObj D (.deferred none)) := fun hb hk => hBw.trans ((hb.mono (by omega)).trans (belowK_b (w := w) (Nat.le_refl _) _ D _ _ (by omega) hk rfl rfl))
    by_cases hl1 : ws.length = 1
    · have hl1' : (ws.length : Int) = 1 := by omega
      rw [if_pos hl1] at hfin
      have hV : ((val BW ws : Nat) : Int) = (u : Int) / 4294967296 := by rw [← hfin]; omega
      clear hfin
      gi_wp2
      · have hs : s = true := by assumption
        have e := i64_t (V := val BW ws) (by rw [hV]; assumption)
        rw [hs, e.1] at hr1
        rw [hs, e.2] at hr2
        refine ⟨by simp, .inl ⟨_, _, rfl, run_takeDeferred hK1, ?_⟩⟩
        refine ⟨_, results_tmp2 (t := 2) (u := 3) rfl _ _ _, ?_, hbel hBe hK1⟩
        show Ending.returned (.tuple #[.int .i64 (-((u : Int) / 4294967296)), .bool true]) = _
        rw [hr1, hr2, hV]
      · have hs : s = false := by simpa using (by assumption : ¬ s = true)
        have e := i64_f (V := val BW ws) (by rw [hV]; exact div64 hul)
        rw [hs, e.1] at hr1
        rw [hs, e.2] at hr2
        refine ⟨by simp, .inl ⟨_, _, rfl, run_takeDeferred hK1, ?_⟩⟩
        refine ⟨_, results_tmp2 (t := 2) (u := 3) rfl _ _ _, ?_, hbel hBe hK1⟩
        show Ending.returned (.tuple #[.int .i64 ((u : Int) / 4294967296), .bool true]) = _
        rw [hr1, hr2, hV]
    · have hl1' : ¬ (ws.length : Int) = 1 := by omega
      rw [if_neg hl1] at hfin
      have hV : ((val BW ws : Nat) : Int) = (u : Int) := by rw [hfin]
      clear hfin
      gi_wp2
      · have hs : s = true := by assumption
        have e := i64_t (V := val BW ws) (by rw [hV]; assumption)
        rw [hs, e.1, hV] at hr1
        rw [hs, e.2] at hr2
        have ew : wrap64 (-wrap64 (u : Int)) = -(u : Int) := wnn64 (Int.natCast_nonneg u) (by assumption)
        refine ⟨by simp, .inl ⟨_, _, rfl, run_takeDeferred hK, ?_⟩⟩
        refine ⟨_, results_tmp2 (t := 2) (u := 3) rfl _ _ _, ?_, hbel hBl hK⟩
        show Ending.returned (.tuple #[.int .i64 (wrap64 (-wrap64 (u : Int))), .bool true]) = _
        rw [hr1, hr2, ew]
      · have hs : s = true := by assumption
        have e := i64_tn (V := val BW ws) (by rw [hV]; assumption)
        rw [hs, e.1] at hr1
        rw [hs, e.2] at hr2
        refine ⟨by simp, .inl ⟨_, _, rfl, run_takeDeferred hK, ?_⟩⟩
        refine ⟨_, results_tmp2 (t := 2) (u := 3) rfl _ _ _, ?_, hbel hBl hK⟩
        show Ending.returned (.tuple #[.int .i64 0, .bool false]) = _
        rw [hr1, hr2]
      · have hs : s = false := by simpa using (by assumption : ¬ s = true)
        have hw : 0 ≤ wrap64 (u : Int) := by assumption
        have hu2 : (u : Int) < 9223372036854775808 := lo64 (nat_u64 hul) hw
        have e := i64_f (V := val BW ws) (by rw [hV]; exact hu2)
        rw [hs, e.1, hV] at hr1
        rw [hs, e.2] at hr2
        have ew : wrap64 (u : Int) = (u : Int) := wid64 (Int.le_trans (by decide) (Int.natCast_nonneg u)) hu2
        refine ⟨by simp, .inl ⟨_, _, rfl, run_takeDeferred hK, ?_⟩⟩
        refine ⟨_, results_tmp2 (t := 2) (u := 3) rfl _ _ _, ?_, hbel hBl hK⟩
        show Ending.returned (.tuple #[.int .i64 (wrap64 (u : Int)), .bool true]) = _
        rw [hr1, hr2, ew]
      · have hs : s = false := by simpa using (by assumption : ¬ s = true)
        have hw : wrap64 (u : Int) < 0 := by assumption
        have hu2 : 9223372036854775808 ≤ (u : Int) := hi64 (Int.natCast_nonneg u) hw
        have e := i64_fn (V := val BW ws) (by rw [hV]; exact hu2)
        rw [hs, e.1] at hr1
        rw [hs, e.2] at hr2
        refine ⟨by simp, .inl ⟨_, _, rfl, run_takeDeferred hK, ?_⟩⟩
        refine ⟨_, results_tmp2 (t := 2) (u := 3) rfl _ _ _, ?_, hbel hBl hK⟩
        show Ending.returned (.tuple #[.int .i64 0, .bool false]) = _
        rw [hr1, hr2]
  case stop =>
    rintro D c pre W _ _ h _
    exact h.elim
end Go.Proofs.Ytpmlocilhhjifaa.Eng
end
section
namespace Go.Proofs.Ytpmlocilhhjifaa.Eng
open Go.RowKit Go.Shelf Go.Proofs
attribute [local go_sem] Oper.semAt_some
set_option linter.unusedSimpArgs false
set_option linter.unusedVariables false
set_option maxRecDepth 100000
set_option maxHeartbeats 1000000 in
theorem clone_in (F : Fence) (n : Nat) (h1f : F.fn 125) (hro : F.round = none) (a : List Nat) (va : Value) (hla : a.length ≤ 1000000) (w : World) (ma : Mag w.heap.size w va a) :
    CallsIn F n Try.prog 125 #[va] w fun e W' => ∃ v, e = .returned v ∧ Below w.heap.size w W' ∧ W'.ownsRow w.heap.size 106 1 v a.length (a.map fun (x : Nat) => Value.int .u32 (x : Int)) := by
  obtain ⟨i0, hi, hz0, hz1, hz2⟩ := info_parts infoW
  refine callsIn_of_wp Try.func125 rfl h1f ?_ hro
  simp only [Try.ntmps125, List.size_toArray, List.length_cons, List.length_nil, Nat.reduceAdd, Nat.reduceSub, Array.replicate_succ, Array.replicate_zero, List.push_toArray, List.append_toArray, List.nil_append, List.cons_append]
  obtain ⟨ad, cap, rfl, hc⟩ := ma
  have hnil : ∀ (ad : Option Addr) (m : Nat) (W : World), (binOp .eql 22 (.slice ad m cap) (.slice none 0 0)).run Try.prog W = .ok (.bool ad.isNone) W := fun ad m W => run_eql_slice_nil W _ _ ad m cap Try.underlying22
  cases ad with
  | none =>
    have hnil := fun m => hnil none m w
    have ha : a = [] := by
      cases a with
      | nil => rfl
      | cons x r => obtain ⟨b, off, e, _⟩ := hc 0 x rfl; cases e
    subst ha
    gi_wp2
    go_ret
    exact ⟨_, rfl, Below.refl _ _, rfl, .inl ⟨rfl, rfl⟩⟩
  | some ad =>
    have hnil := fun m => hnil (some ad) m w
    have hown : (w.alloc (.cells #[] 106)).ownsRow w.heap.size 106 1 (.slice (some ⟨w.heap.size, 0, none⟩) 0 0) 0 [] := ⟨rfl, .inr ⟨w.heap.size, 0, #[], rfl, Nat.le_refl _, World.alloc_heap_new w _, Nat.le_refl _, Nat.zero_le _, rfl, rfl⟩⟩
    have hnews : ∀ (j : Nat) u, (a.map fun (x : Nat) => Value.int .u32 (x : Int))[j]? = some u → (w.alloc (.cells #[] 106)).cell? (ad.add j) = some u := fun j u hj => by
      rw [List.getElem?_map] at hj
      cases hx : a[j]? with
      | none => rw [hx] at hj; cases hj
      | some x =>
        rw [hx] at hj
        obtain ⟨b, off, e, hb, hcc⟩ := hc j x hx
        cases e
        have e2 : (Addr.mk b off none).add j = ⟨b, off + j, none⟩ := by
          unfold Addr.add
          by_cases h0 : j = 0 <;> simp [h0]
        rw [e2]
        have : some (Value.int .u32 (x : Int)) = some u := hj
        rw [← this]
        exact (((Below.refl w.heap.size w).alloc (Nat.le_refl _) _).cell (p := ⟨b, off + j, none⟩) hb).trans hcc
    gi_wp2_with (gi_at_builtin; refine wpListIn_append_own _ rfl _ _ 22 rfl w.heap.size 106 i0 (.int .u32 0) 1 4 Try.underlying22 hi hz0 hz1 hz2 rfl (by decide) _ _ _ rfl hown ad a.length cap _ rfl (by simp) hnews (by intro u hu; obtain ⟨x, _, rfl⟩ := List.mem_map.1 hu; rfl) (by simp [maxLen]; omega) (by omega) (by simp) ?_; intro v' w1 hown' hgrow _)
    go_ret
    exact ⟨v', rfl, ((Below.refl w.heap.size w).alloc (Nat.le_refl _) _).grown hgrow (by simp) fun k e => by simp [Act.eval, Value.ownBlock] at e; omega, by simpa using hown'⟩
/-- What lies at place q when k swaps are over. -/
def revL (l : List UInt8) (k q : Nat) : UInt8 := if q < k ∨ l.length ≤ q + k then (l[l.length - 1 - q]?).getD 0 else (l[q]?).getD 0
theorem revL_k {l : List UInt8} {k j : Nat} (hj : j + k + 1 = l.length) (h : k < j) : revL l (k + 1) k = revL l k j := by
  unfold revL
  rw [if_pos (by omega), if_neg (by omega), show l.length - 1 - k = j by omega]
theorem revL_j {l : List UInt8} {k j : Nat} (hj : j + k + 1 = l.length) (h : k < j) : revL l (k + 1) j = revL l k k := by
  unfold revL
  rw [if_pos (by omega), if_neg (by omega), show l.length - 1 - j = k by omega]
theorem revL_o {l : List UInt8} {k j q : Nat} (hj : j + k + 1 = l.length) (h1 : q ≠ k) (h2 : q ≠ j) : revL l (k + 1) q = revL l k q := by
  unfold revL
  by_cases h : q < k ∨ l.length ≤ q + k
  · rw [if_pos (by omega), if_pos h]
  · rw [if_neg (by omega), if_neg h]
theorem revL_end {l : List UInt8} {k q : Nat} (hk : l.length ≤ 2 * k + 1) (hq : q < l.length) : revL l k q = (l[l.length - 1 - q]?).getD 0 := by
  unfold revL
  by_cases h : q < k ∨ l.length ≤ q + k
  · rw [if_pos h]
  · rw [if_neg h, show l.length - 1 - q = q by omega]
theorem set_heap {W : World} {g off e : Nat} {arr : Array Value} (h : W.heap[g]? = some (.cells arr e (0, 0))) (v : Value) : (W.setCell ⟨g, off, none⟩ v).heap[g]? = some (.cells (arr.setIfInBounds off v) e (0, 0)) := by
  obtain ⟨hlt, hk⟩ := Array.getElem?_eq_some_iff.1 h
  show (W.heap.modify g _)[g]? = _
  rw [Array.getElem?_eq_getElem (by rw [Array.size_modify]; exact hlt), Array.getElem_modify_self, hk]
  rfl
set_option maxHeartbeats 2000000 in
theorem rev_in (l : List UInt8) (g cap e : Nat) (cur : Array Value) (w : World) (hl : l.length ≤ cap) (hm : cap ≤ maxLen) (hg : w.heap[g]? = some (.cells cur e (0, 0))) (hcs : cur.size = cap)
    (hc : ∀ (q : Nat) x, l[q]? = some x → cur[q]? = some (.int .u8 (x.toNat : Int))) :
    Calls Try.prog 127 #[.slice (some ⟨g, 0, none⟩) l.length cap] w fun x w' => x = .returned (.tuple #[]) ∧ w.grownBy w' (some g) ∧ ∃ arr : Array Value, w'.heap[g]? = some (.cells arr e (0, 0)) ∧ arr.size = cap ∧
      ∀ (q : Nat) x, l.reverse[q]? = some x → arr[q]? = some (.int .u8 (x.toNat : Int)) := by
  have hm' : (l.length : Int) ≤ 9223372036854775807 := by simp only [maxLen] at hm; omega
  go_enter Try.func127, Try.ntmps127
  go_wp2
  go_loopw [2, 3] (fun i j wr => ∃ k : Nat, 2 * k ≤ l.length + 1 ∧ i = .int .i64 k ∧ j = .int .i64 ((l.length : Int) - 1 - k) ∧ w.grownBy wr (some g) ∧ ∃ arr : Array Value, wr.heap[g]? = some (.cells arr e (0, 0)) ∧ arr.size = cap ∧ ∀ q, q < l.length → arr[q]? = some (.int .u8 ((revL l k q).toNat : Int)))
    (fun i j _ => l.length - (intOf i).toNat)
  case atStart =>
    refine ⟨0, by omega, rfl, by simp, ⟨rfl, rfl, rfl, Nat.le_refl _, fun k _ _ => rfl⟩, cur, hg, hcs, fun q hq => ?_⟩
    rw [revL, if_neg (by omega)]
    have := hc q l[q] (List.getElem?_eq_getElem hq)
    rw [this, List.getElem?_eq_getElem hq]
    rfl
  case round =>
    obtain ⟨k, hk, rfl, rfl, hgr, arr, ha, has, hq⟩ := hrel
    by_cases hlt : 2 * k + 1 < l.length
    · obtain ⟨j, hj⟩ : ∃ j, j + k + 1 = l.length := ⟨l.length - 1 - k, by omega⟩
      have hj' : (l.length : Int) - 1 - k = (j : Int) := by omega
      rw [hj']
      clear hj'
      have hkj : k < j := by omega
      have hjl : j < l.length := by omega
      have hci : wr.cell? ⟨g, k, none⟩ = some (.int .u8 ((revL l k k).toNat : Int)) := by simp [World.cell?, ha, hq k (by omega)]
      have hcj : wr.cell? ⟨g, j, none⟩ = some (.int .u8 ((revL l k j).toNat : Int)) := by simp [World.cell?, ha, hq j (by omega)]
      have hfi : wr.frozen? ⟨g, k, none⟩ = false := by simp [World.frozen?, ha]
      have hfj : wr.frozen? ⟨g, j, none⟩ = false := by simp [World.frozen?, ha]
      go_wp2
      go_region
      go_wp2
      go_roundw
      case rel =>
        have h1 := set_heap (off := k) ha (.int .u8 ((revL l k j).toNat : Int))
        have h2 := set_heap (off := j) h1 (.int .u8 ((revL l k k).toNat : Int))
        refine ⟨k + 1, by omega, by simp, by simp; omega, ⟨hgr.1, hgr.2, hgr.3, ?_, fun q h3 h4 => ?_⟩, _, h2, by simp [has], fun q h3 => ?_⟩
        · have e1 := (KeepsWalks.setCell wr ⟨g, k, none⟩ (.int .u8 ((revL l k j).toNat : Int))).size
          have e2 := (KeepsWalks.setCell (wr.setCell ⟨g, k, none⟩ (.int .u8 ((revL l k j).toNat : Int))) ⟨g, j, none⟩ (.int .u8 ((revL l k k).toNat : Int))).size
          exact Nat.le_trans hgr.size (Nat.le_trans e1 e2)
        · have h5 : q ≠ g := fun e => h4 (by rw [e])
          exact ((Below.heap_setCell _ _ _ q h5).trans (Below.heap_setCell _ _ _ q h5)).trans (hgr.block q h3 h4)
        · rw [Array.getElem?_setIfInBounds, Array.getElem?_setIfInBounds]
          by_cases h5 : j = q
          · subst h5
            rw [if_pos rfl, if_pos (by simp; omega), revL_j hj hkj]
          · rw [if_neg h5]
            by_cases h6 : k = q
            · subst h6
              rw [if_pos rfl, if_pos (by omega), revL_k hj hkj]
            · rw [if_neg h6, revL_o hj (Ne.symm h6) (Ne.symm h5)]
              exact hq q h3
      case measure => simp [intOf]; omega
    · go_wp2
      go_end0
      refine ⟨rfl, hgr, arr, ha, has, fun q x hx => ?_⟩
      have hql : q < l.length := by have := (List.getElem?_eq_some_iff.1 hx).1; simpa using this
      rw [hq q hql]
      rw [List.getElem?_reverse hql] at hx
      rw [revL_end (by omega) hql, hx]
      rfl
set_option maxHeartbeats 1000000 in
theorem rev_zero (ad : Option Addr) (cap : Nat) (w : World) : Calls Try.prog 127 #[.slice ad 0 cap] w fun x w' => x = .returned (.tuple #[]) ∧ w' = w := by
  go_enter Try.func127, Try.ntmps127
  go_wp2
  go_loopw [2, 3] (fun i j wr => i = .int .i64 0 ∧ j = .int .i64 (-1) ∧ wr = w) (fun _ _ _ => 0)
  case atStart => exact ⟨rfl, rfl, rfl⟩
  case round =>
    obtain ⟨rfl, rfl, rfl⟩ := hrel
    go_wp2
    go_end0
    exact ⟨rfl, rfl⟩
end Go.Proofs.Ytpmlocilhhjifaa.Eng
end
