/- Package whole: Int64, by hand. -/
import Derived.Laws.EntriesVeiled
import Derived.Test.YtpmlocilhhjifaaClo2
namespace Go.Proofs.Ytpmlocilhhjifaa.Eng
open Go.RowKit Go.Shelf Go.Proofs
attribute [local go_sem] Oper.semAt_some
set_option linter.unusedSimpArgs false
set_option linter.unusedVariables false
set_option maxRecDepth 100000
def int64V (i : Int) : Int := if -9223372036854775808 ≤ i ∧ i ≤ 9223372036854775807 then i else 0
def int64B (i : Int) : Bool := decide (-9223372036854775808 ≤ i ∧ i ≤ 9223372036854775807)
/-- A slice that reads as words is a magnitude in memory. -/
theorem mag_of_rd {w : World} {ok : Nat → Nat → Prop} {t : Nat} {ws : List Nat} {xs : List (List D)} {v : Value} (hx : xs = wl ws) (h : RD w ok (.sl t 1 xs) v) : Mag w.heap.size w v ws := by
  cases h with
  | nil =>
    have : ws = [] := by cases ws <;> simp [wl] at hx ⊢
    subst this
    exact ⟨none, 0, rfl, fun j x hj => by simp at hj⟩
  | sl _ _ _ a cap cs ht h1 h2 h3 h4 h5 h6 =>
    refine ⟨some a, cap, by rw [hx, wl_len], fun j x hj => ?_⟩
    have hj1 : xs[j]? = some [D.sc (.int .u32 (x : Int))] := by rw [hx]; simp [wl, hj]
    have hne : xs ≠ [] := fun e => by rw [e] at hj1; simp at hj1
    obtain ⟨g1, g2, g3⟩ := h1 hne
    have hc := h5 j 0 _ _ hj1 rfl
    have hr := RD.sc_inv (h6 j 0 _ _ hj1 rfl)
    obtain ⟨b, off, sp⟩ := a
    simp only at g1
    subst g1
    refine ⟨b, off, rfl, g3, ?_⟩
    simp only [Nat.mul_one, Nat.add_zero] at hc
    rw [hc, hr]
@[irreducible] def uS (u : Nat) (x : W2) : Nat := u / 4294967296 + 4294967296 * x.1.1
def uR (pre : List W2) : Nat := pre.foldl uS 0
theorem uR_snoc (pre : List W2) (x : W2) : uR (pre ++ [x]) = uS (uR pre) x := by simp [uR]
theorem uS_lt {u : Nat} (x : W2) (ih : u < 18446744073709551616) : uS u x < 18446744073709551616 := by
  have hx : x.1.1 < 4294967296 := by have := x.2.1; have := BW_eq; omega
  unfold uS
  omega
theorem uR_lt : ∀ pre : List W2, uR pre < 18446744073709551616 :=
  snoc_ind (p := fun pre => uR pre < 18446744073709551616) (Nat.lt_of_le_of_lt (Nat.le_refl 0) (by decide)) fun pre x ih => (uR_snoc pre x).symm ▸ uS_lt x ih
theorem int64_fin {ws : List Nat} (ho : Ok BW ws) (hl : ws.length ≤ 2) : (if ws.length = 1 then uR (prs2 ho Ok.nil (max ws.length ([] : List Nat).length)) / 4294967296 else uR (prs2 ho Ok.nil (max ws.length ([] : List Nat).length))) = val BW ws := by
  match ws, ho, hl with
  | [], ho, _ => simp [prs2, upto, uR, val]
  | [x], ho, _ =>
    have h : uR (prs2 ho Ok.nil (max [x].length ([] : List Nat).length)) = uS 0 (w2 ho Ok.nil 0) := rfl
    rw [if_pos (show [x].length = 1 from rfl), h]
    unfold uS
    show (0 / 4294967296 + 4294967296 * x) / 4294967296 = x + BW * 0
    omega
  | [x, y], ho, _ =>
    have h : uR (prs2 ho Ok.nil (max [x, y].length ([] : List Nat).length)) = uS (uS 0 (w2 ho Ok.nil 0)) (w2 ho Ok.nil 1) := rfl
    rw [if_neg (by simp), h]
    unfold uS
    show (0 / 4294967296 + 4294967296 * x) / 4294967296 + 4294967296 * y = x + BW * (y + BW * 0)
    have := BW_eq
    rw [Nat.mul_zero, Nat.add_zero, this]
    omega
  | _ :: _ :: _ :: _, _, h => simp at h
theorem sgT (n : Nat) : sg true n = -(n : Int) := rfl
theorem sgF (n : Nat) : sg false n = (n : Int) := rfl
theorem wid64 {n : Int} (h1 : -9223372036854775808 ≤ n) (h2 : n < 9223372036854775808) : wrap64 n = n := by
  unfold wrap64
  rw [Int.emod_eq_of_lt (by omega) (by omega)]
  omega
theorem wnn64 {u : Int} (h0 : 0 ≤ u) (h : u ≤ 9223372036854775808) : wrap64 (-wrap64 u) = -u := by
  rcases Int.lt_or_eq_of_le h with h | h
  · rw [wid64 (by omega) h, wid64 (by omega) (by omega)]
  · subst h
    simp [wrap64]
theorem whi64 {u : Int} (h0 : 9223372036854775808 ≤ u) (h : u < 18446744073709551616) : wrap64 u < 0 := by
  have e : u + 9223372036854775808 = (u - 9223372036854775808) + 18446744073709551616 := by omega
  unfold wrap64
  rw [e, Int.add_emod_right, Int.emod_eq_of_lt (by omega) (by omega)]
  omega
theorem nat_u64 {u : Nat} (h : u < 18446744073709551616) : (u : Int) < 18446744073709551616 := by omega
theorem lo64 {u : Int} (h1 : u < 18446744073709551616) (hw : 0 ≤ wrap64 u) : u < 9223372036854775808 := Int.not_le.1 fun hh => absurd hw (Int.not_le.2 (whi64 hh h1))
theorem hi64 {u : Int} (h0 : 0 ≤ u) (hw : wrap64 u < 0) : 9223372036854775808 ≤ u := Int.not_lt.1 fun hh => by
  rw [wid64 (by omega) hh] at hw
  omega
theorem div64 {u : Nat} (h : u < 18446744073709551616) : (u : Int) / 4294967296 < 9223372036854775808 := by omega
theorem i64_t {V : Nat} (h : (V : Int) ≤ 9223372036854775808) : int64V (sg true V) = -(V : Int) ∧ int64B (sg true V) = true := by
  rw [sgT, int64V, int64B, if_pos (by omega), decide_eq_true_eq]
  omega
theorem i64_tn {V : Nat} (h : 9223372036854775808 < (V : Int)) : int64V (sg true V) = 0 ∧ int64B (sg true V) = false := by
  rw [sgT, int64V, int64B, if_neg (by omega), decide_eq_false_iff_not]
  omega
theorem i64_f {V : Nat} (h : (V : Int) < 9223372036854775808) : int64V (sg false V) = (V : Int) ∧ int64B (sg false V) = true := by
  rw [sgF, int64V, int64B, if_pos (by omega), decide_eq_true_eq]
  omega
theorem i64_fn {V : Nat} (h : 9223372036854775808 ≤ (V : Int)) : int64V (sg false V) = 0 ∧ int64B (sg false V) = false := by
  rw [sgF, int64V, int64B, if_neg (by omega), decide_eq_false_iff_not]
  omega
set_option maxHeartbeats 2000000 in
theorem int64_big (F : Fence) (n : Nat) (h1f : F.fn 42) (htf : F.fn 115) (h5f : F.fn 133) (h6f : F.fn 152) (hro : F.round = none) (hn : 4 ≤ n) (s : Bool) (ws : List Nat) (w : World) (sv : Value) (ho : Ok BW ws) (hl : 2 < ws.length)
    (hT : CallsIn F (n - 1) Try.prog 115 #[sv] (w.alloc (.cells #[.bool s, sv] 24)) fun e w' => ∃ v, e = .returned v ∧ Below (w.alloc (.cells #[.bool s, sv] 24)).heap.size (w.alloc (.cells #[.bool s, sv] 24)) w' ∧ Mag w'.heap.size w' v ws) :
    CallsIn F n Try.prog 42 #[.agg #[.bool s, sv]] w fun e W' => e = .returned (.tuple #[.int .i64 0, .bool false]) ∧ Below w.heap.size w W' := by
  have h1 : 1 ≤ n := by omega
  refine callsIn_of_wp Try.func42 rfl h1f ?_ hro
  simp only [Try.ntmps42, List.size_toArray, List.length_cons, List.length_nil, Nat.reduceAdd, Nat.reduceSub, Array.replicate_succ, Array.replicate_zero, List.push_toArray, List.append_toArray, List.nil_append, List.cons_append]
  gi_wp2
  refine hT.mono ?_
  rintro e w1 ⟨v, rfl, hB1, ad, cap, rfl, hc⟩
  have hBw : Below w.heap.size w w1 := ((Below.refl _ w).alloc (Nat.le_refl _) _).trans (hB1.mono (by simp))
  gi_wp2
  go_ret2
  exact ⟨rfl, hBw⟩
set_option maxHeartbeats 4000000 in
theorem int64_in (F : Fence) (n : Nat) (h1f : F.fn 42) (htf : F.fn 115) (h5f : F.fn 133) (h6f : F.fn 152) (hro : F.round = none) (hn : 4 ≤ n) (s : Bool) (ws : List Nat) (w : World) (sv : Value) (ho : Ok BW ws) (hl : ws.length ≤ 2) (r1 : Int) (r2 : Bool)
    (hr1 : r1 = int64V (sg s (val BW ws))) (hr2 : r2 = int64B (sg s (val BW ws)))
    (hT : CallsIn F (n - 1) Try.prog 115 #[sv] (w.alloc (.cells #[.bool s, sv] 24)) fun e w' => ∃ v, e = .returned v ∧ Below (w.alloc (.cells #[.bool s, sv] 24)).heap.size (w.alloc (.cells #[.bool s, sv] 24)) w' ∧ Mag w'.heap.size w' v ws) :
    CallsIn F n Try.prog 42 #[.agg #[.bool s, sv]] w fun e W' => e = .returned (.tuple #[.int .i64 r1, .bool r2]) ∧ Below w.heap.size w W' := by
  have h1 : 1 ≤ n := by omega
  refine callsIn_of_wp_marks Try.func42 rfl h1f ?_ hro
  simp only [Try.ntmps42, List.size_toArray, List.length_cons, List.length_nil, Nat.reduceAdd, Nat.reduceSub, Array.replicate_succ, Array.replicate_zero, List.push_toArray, List.append_toArray, List.nil_append, List.cons_append]
  gi_wp2
  refine hT.mono ?_
  rintro e w1 ⟨v, rfl, hB1, ad, cap, rfl, hc⟩
  have hBw : Below w.heap.size w w1 := ((Below.refl _ w).alloc (Nat.le_refl _) _).trans (hB1.mono (by simp))
  have bZ : w1.heap[w.heap.size]? = some (.cells #[.bool s, sv] 24 (0, 0)) := (hB1.block _ (by simp)).trans (World.alloc_heap_new w _)
  have hs1 : w.heap.size < w1.heap.size := (Array.getElem?_eq_some_iff.1 bZ).1
  gi_wp2_with (gi_at_call 133; refine (pairs_in F (n - 1) h5f hro _ _ _ _ _ _ _).mono ?_; rintro e w' ⟨rfl, rfl⟩)
  have bC := Boxed.new w1 115 (.int .u64 0)
  have bA := Boxed.new (w1.alloc (.cells #[.int .u64 0] 115)) 22 (.slice ad ws.length cap)
  have bB := Boxed.new ((w1.alloc (.cells #[.int .u64 0] 115)).alloc (.cells #[.slice ad ws.length cap] 22)) 22 (.slice none 0 0)
  simp only [World.size_alloc] at bA bB
  have hB0 : Below w1.heap.size w1 (((w1.alloc (.cells #[.int .u64 0] 115)).alloc (.cells #[.slice ad ws.length cap] 22)).alloc (.cells #[.slice none 0 0] 22)) :=
    (((Below.refl _ w1).alloc (Nat.le_refl _) _).alloc (by simp) _).alloc (by simp; omega) _
  have bC := (bC.alloc (.cells #[.slice ad ws.length cap] 22)).alloc (.cells #[.slice none 0 0] 22)
  have bA := bA.alloc (.cells #[.slice none 0 0] 22)
  obtain ⟨W0, hW0⟩ : ∃ W0, (((w1.alloc (.cells #[.int .u64 0] 115)).alloc (.cells #[.slice ad ws.length cap] 22)).alloc (.cells #[.slice none 0 0] 22)) = W0 := ⟨_, rfl⟩
  have hs0 : W0.heap.size = w1.heap.size + 3 := by rw [← hW0]; simp
  rw [hW0] at bA bB bC hB0 ⊢
  clear hW0
  have mA : Mag w1.heap.size W0 (.slice ad ws.length cap) ws := Mag.below hB0 ⟨_, _, rfl, hc⟩
  have mB : Mag w1.heap.size W0 (.slice none 0 0) [] := ⟨none, 0, rfl, fun j x hj => by simp at hj⟩
  refine wpIn_rangeFunc_ownG hro h1 (gf := 152) (lb := #[.pointer (some ⟨(w1.heap.size + 1), 0, none⟩), .pointer (some ⟨(w1.heap.size + 1 + 1), 0, none⟩)]) rfl h6f (enters_of Try.func152 (by kernel_rfl) rfl)
    (pairs_stops F (n - 1) h6f hro (by omega) (w1.heap.size + 1) (w1.heap.size + 1 + 1) w1.heap.size ws [] _ _ (by omega) (by simp) ho Ok.nil W0 (by omega) (by omega) (by omega) bA.cell bB.cell mA mB) KpP.trans (kpP_b (by omega) (by omega) (by omega)) (Below.refl _ _) (fun _ => rfl)
    (fun pre W => (Boxed W w1.heap.size 115 (.int .u64 (uR pre : Int)) ∧ Boxed W (w1.heap.size + 1) 22 (.slice ad ws.length cap) ∧ Boxed W (w1.heap.size + 1 + 1) 22 (.slice none 0 0)) ∧ Below w1.heap.size w1 W)
    (fun _ _ _ => False)
    (OwnFrom.and (OwnFrom.and (Own.from (boxed_own _ _ (fun pre => .int .u64 (uR pre : Int))) _) (OwnFrom.and (Own.from (boxed_own _ _ (fun _ => _)) _) (Own.from (boxed_own _ _ (fun _ => _)) _))) (ownFrom_below (Nat.le_refl _) (by omega)))
    (fun _ _ _ _ _ hs _ _ => hs)
    ⟨⟨bC, bA, bB⟩, hB0⟩
    (fun x => { tmps := #[.agg #[.bool s, sv], .pointer (some ⟨w.heap.size, 0, none⟩), .int .i64 0, .bool false, .slice ad ws.length cap, .pointer (some ⟨w1.heap.size, 0, none⟩), .int .u64 (x.1.1 : Int), undef, .pointer (some ⟨w.heap.size, 1, none⟩), sv, .slice ad ws.length cap, .slice ad ws.length cap, .int .i64 ws.length, .bool (decide ((2 : Int) < ws.length)), .slice ad ws.length cap, .func (.func 152) #[] #[.pointer (some ⟨(w1.heap.size + 1), 0, none⟩), .pointer (some ⟨(w1.heap.size + 1 + 1), 0, none⟩)],
      .int .u64 (x.1.1 : Int), .int .u64 (x.1.2 : Int), undef, undef, undef, undef, undef, undef, undef, undef, undef, undef, undef, undef, undef, undef, undef, undef, undef, undef, undef, undef, undef, undef, undef, undef, undef, undef, undef, undef], defers := [] }) ?assign ?body ?done ?stop
  case assign =>
    intro l x W K hK
    gi_wp2
    exact hK
  case body =>
    rintro l pre x W ⟨⟨hC, hA, hB⟩, hBl⟩ hlt
    have hcc := hC.cell
    have hcf := hC.frozen
    have hx1 : x.1.1 < 4294967296 := by have := x.2.1; have := BW_eq; omega
    have hul := uR_lt pre
    have hv : ((uR (pre ++ [x]) : Nat) : Int) = (uR pre : Int) / 4294967296 + x.1.1 * 4294967296 := by
      rw [uR_snoc]
      unfold uS
      omega
    gi_wp2
    rw [← hv]
    have hA' := hA.other (B' := w1.heap.size) (by omega) (.int .u64 (uR (pre ++ [x]) : Int))
    have hB' := hB.other (B' := w1.heap.size) (by omega) (.int .u64 (uR (pre ++ [x]) : Int))
    have hb := (Below.refl w1.heap.size W).setCell (p := ⟨w1.heap.size, 0, none⟩) (Nat.le_refl _) (.int .u64 (uR (pre ++ [x]) : Int))
    exact ⟨(KeepsOthers.setCell _ _ _).from _, ⟨hb, hA'.cell.trans hA.cell.symm, hB'.cell.trans hB.cell.symm⟩, ⟨hC.set _, hA', hB'⟩, hBl.trans hb⟩
  case done =>
    rintro D ys W hD rfl ⟨⟨hC, hA, hB⟩, hBl⟩ hK
    have hcc := hC.cell
    have hcf := hC.frozen
    have hul := uR_lt (prs2 ho Ok.nil (max ws.length ([] : List Nat).length))
    have hfin := int64_fin ho hl
    obtain ⟨u, hu⟩ : ∃ u, u = uR (prs2 ho Ok.nil (max ws.length ([] : List Nat).length)) := ⟨_, rfl⟩
    rw [← hu] at hcc hul hfin hC
    clear hu
    have bZ' := (hBl.block _ hs1).trans bZ
    have hz0 : W.cell? ⟨w.heap.size, 0, none⟩ = some (.bool s) := by simp [World.cell?, show W.heap[w.heap.size]? = _ from bZ']
    have hK1 := (KeepsOthers.setCell W ⟨w1.heap.size, 0, none⟩ (.int .u64 ((u : Int) / 4294967296))).same D _ hK rfl
    have hBe := hBl.setCell (p := ⟨w1.heap.size, 0, none⟩) (Nat.le_refl _) (.int .u64 ((u : Int) / 4294967296))
    have hbel : ∀ {W' : World}, Below w1.heap.size w1 W' → W'.heap[D]? = some (.deferred (some [])) → Below w.heap.size w (W'.putObj D (.deferred none)) := fun hb hk => hBw.trans ((hb.mono (by omega)).trans (belowK_b (w := w) (Nat.le_refl _) _ D _ _ (by omega) hk rfl rfl))
    by_cases hl1 : ws.length = 1
    · have hl1' : (ws.length : Int) = 1 := by omega
      rw [if_pos hl1] at hfin
      have hV : ((val BW ws : Nat) : Int) = (u : Int) / 4294967296 := by rw [← hfin]; omega
      clear hfin
      gi_wp2
      · have hs : s = true := by assumption
        have e := i64_t (V := val BW ws) (by rw [hV]; assumption)
        rw [hs, e.1] at hr1
        rw [hs, e.2] at hr2
        refine ⟨by simp, .inl ⟨_, _, rfl, run_takeDeferred hK1, ?_⟩⟩
        refine ⟨_, results_tmp2 (t := 2) (u := 3) rfl _ _ _, ?_, hbel hBe hK1⟩
        show Ending.returned (.tuple #[.int .i64 (-((u : Int) / 4294967296)), .bool true]) = _
        rw [hr1, hr2, hV]
      · have hs : s = false := by simpa using (by assumption : ¬ s = true)
        have e := i64_f (V := val BW ws) (by rw [hV]; exact div64 hul)
        rw [hs, e.1] at hr1
        rw [hs, e.2] at hr2
        refine ⟨by simp, .inl ⟨_, _, rfl, run_takeDeferred hK1, ?_⟩⟩
        refine ⟨_, results_tmp2 (t := 2) (u := 3) rfl _ _ _, ?_, hbel hBe hK1⟩
        show Ending.returned (.tuple #[.int .i64 ((u : Int) / 4294967296), .bool true]) = _
        rw [hr1, hr2, hV]
    · have hl1' : ¬ (ws.length : Int) = 1 := by omega
      rw [if_neg hl1] at hfin
      have hV : ((val BW ws : Nat) : Int) = (u : Int) := by rw [hfin]
      clear hfin
      gi_wp2
      · have hs : s = true := by assumption
        have e := i64_t (V := val BW ws) (by rw [hV]; assumption)
        rw [hs, e.1, hV] at hr1
        rw [hs, e.2] at hr2
        have ew : wrap64 (-wrap64 (u : Int)) = -(u : Int) := wnn64 (Int.natCast_nonneg u) (by assumption)
        refine ⟨by simp, .inl ⟨_, _, rfl, run_takeDeferred hK, ?_⟩⟩
        refine ⟨_, results_tmp2 (t := 2) (u := 3) rfl _ _ _, ?_, hbel hBl hK⟩
        show Ending.returned (.tuple #[.int .i64 (wrap64 (-wrap64 (u : Int))), .bool true]) = _
        rw [hr1, hr2, ew]
      · have hs : s = true := by assumption
        have e := i64_tn (V := val BW ws) (by rw [hV]; assumption)
        rw [hs, e.1] at hr1
        rw [hs, e.2] at hr2
        refine ⟨by simp, .inl ⟨_, _, rfl, run_takeDeferred hK, ?_⟩⟩
        refine ⟨_, results_tmp2 (t := 2) (u := 3) rfl _ _ _, ?_, hbel hBl hK⟩
        show Ending.returned (.tuple #[.int .i64 0, .bool false]) = _
        rw [hr1, hr2]
      · have hs : s = false := by simpa using (by assumption : ¬ s = true)
        have hw : 0 ≤ wrap64 (u : Int) := by assumption
        have hu2 : (u : Int) < 9223372036854775808 := lo64 (nat_u64 hul) hw
        have e := i64_f (V := val BW ws) (by rw [hV]; exact hu2)
        rw [hs, e.1, hV] at hr1
        rw [hs, e.2] at hr2
        have ew : wrap64 (u : Int) = (u : Int) := wid64 (Int.le_trans (by decide) (Int.natCast_nonneg u)) hu2
        refine ⟨by simp, .inl ⟨_, _, rfl, run_takeDeferred hK, ?_⟩⟩
        refine ⟨_, results_tmp2 (t := 2) (u := 3) rfl _ _ _, ?_, hbel hBl hK⟩
        show Ending.returned (.tuple #[.int .i64 (wrap64 (u : Int)), .bool true]) = _
        rw [hr1, hr2, ew]
      · have hs : s = false := by simpa using (by assumption : ¬ s = true)
        have hw : wrap64 (u : Int) < 0 := by assumption
        have hu2 : 9223372036854775808 ≤ (u : Int) := hi64 (Int.natCast_nonneg u) hw
        have e := i64_fn (V := val BW ws) (by rw [hV]; exact hu2)
        rw [hs, e.1] at hr1
        rw [hs, e.2] at hr2
        refine ⟨by simp, .inl ⟨_, _, rfl, run_takeDeferred hK, ?_⟩⟩
        refine ⟨_, results_tmp2 (t := 2) (u := 3) rfl _ _ _, ?_, hbel hBl hK⟩
        show Ending.returned (.tuple #[.int .i64 0, .bool false]) = _
        rw [hr1, hr2]
  case stop =>
    rintro D c pre W _ _ h _
    exact h.elim
end Go.Proofs.Ytpmlocilhhjifaa.Eng
