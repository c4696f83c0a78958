/- The reference of chapter 1: its functions over integers. -/
import Derived.Test.YtpmlocilhhjifaaGreatRef5
set_option maxRecDepth 100000
set_option linter.unusedSimpArgs false
set_option linter.unusedVariables false
set_option pp.maxSteps 200
namespace Go.Proofs.YtpmlocilhhjifaaGreat.Eng
open Go.RowKit
theorem za_eq {b b' : Bool} {ys ys' : List (List D)} {i i' : Int} (h : Zc b' ys' i') (hy : Zc b ys i) (e : i' = i) : (DV.ag [.sc (.bool b'), .sl 1 1 ys'] : DV) = za b 1 ys := h.eqs hy e
/-- The length in halves, by that in words. -/
theorem dgh_len {n l : Nat} (h : (dg BW n).length ≤ l) : (dg BH n).length ≤ 2 * l := by
  refine dg_len BH2 ?_
  rw [← BW_pow]
  exact Nat.lt_of_lt_of_le (lt_dg_len BW2 n) (Nat.pow_le_pow_right BW0 h)
theorem least_c {t l : Nat} {s b : Bool} {xs ys : List (List D)} {i : Int} (hz : Zr s xs i l) (hl' : l ≤ 100000) (hy : Zc b ys i) : TT 86 [za s t xs] [za b 1 ys] := by
  refine con Tryz.func86 rfl (by kernel_rfl) (by kernel_rfl) fun π Q h hQ => ?_
  obtain ⟨ws, hx, ho, hw, hi⟩ := hz
  have l1 := dgh_len (dg_len_val BW2 ho)
  cbv
  refine halves_s h hx ho (by omega) fun us hu => ?_
  cbv
  refine of_s h hu (dg_ok BH2 _) (by omega) fun b' ys' hz' => ?_
  rw [show za b' 1 ys' = za b 1 ys from za_eq hz' hy (by rw [dg_val BH2, hi])]
  cbv
  (refine Good.chk' ‹_› rfl ?_; cbv)
  exact hQ
theorem least_s {π : Pi} (h : Good TT π) {K : List DV → Prop} {t l : Nat} {s : Bool} {xs : List (List D)} {i : Int} (hz : Zr s xs i l) (hl : l ≤ 100000) (hk : ∀ b ys, Zc b ys i → K [za b 1 ys]) : π.call 86 [za s t xs] K := h.call' _ (least_c hz hl ⟨rfl, rfl⟩) (hk _ _ ⟨rfl, rfl⟩)
theorem rsign_c {t l : Nat} {s : Bool} {xs : List (List D)} {i c : Int} (hz : Zr s xs i l) (hl' : l ≤ 100000) (hc : c = sgnV i) : TT 80 [za s t xs] [.one (.sc (.int .i64 c))] := by
  refine con Tryz.func80 rfl (by kernel_rfl) (by kernel_rfl) fun π Q h hQ => ?_
  obtain ⟨ws, hx, ho, hw, hi⟩ := hz
  cbv
  refine halves_s h hx ho (by omega) fun us hu => ?_
  have hlen : us.length = (dg BH (val BW ws)).length := by rw [hu, hl_len]
  cbv
  (refine Good.len' ‹_› ?_; intro _ _; cbv)
  refine h.dec rfl (fun hp => ?_) (fun hp => ?_)
  · cbv
    have h0 : val BW ws = 0 := (dg_nil BH2).1 (List.eq_nil_of_length_eq_zero (by (simp only [inR, cmpP, loOk, hiOk, Int.ofNat_eq_natCast, Int.negSucc_eq, IntKind.bits, Int.toNat_natCast, ge_iff_le, gt_iff_lt, ne_eq, wl_len, hl_len, natCast_fold, not_true_eq_false, not_false_eq_true] at * <;> omega)))
    have : c = 0 := by rw [hc, hi, sg_zero.2 h0]; rfl
    rw [this] at hQ
    exact hQ
  · have h0 : val BW ws ≠ 0 := fun h0 => by rw [h0, dg_zero, List.length_nil] at hlen; (simp only [inR, cmpP, loOk, hiOk, Int.ofNat_eq_natCast, Int.negSucc_eq, IntKind.bits, Int.toNat_natCast, ge_iff_le, gt_iff_lt, ne_eq, wl_len, hl_len, natCast_fold, not_true_eq_false, not_false_eq_true] at * <;> omega)
    cases s
    · cbv
      have : c = 1 := by rw [hc, hi, sg_f]; exact sgnV_pos (by omega)
      rw [this] at hQ
      exact hQ
    · cbv
      have : c = -1 := by rw [hc, hi, sg_t]; exact sgnV_neg (by omega)
      rw [this] at hQ
      exact hQ
theorem rsign_s {π : Pi} (h : Good TT π) {K : List DV → Prop} {t l : Nat} {s : Bool} {xs : List (List D)} {i : Int} (hz : Zr s xs i l) (hl : l ≤ 100000) (hk : ∀ c, c = sgnV i → K [.one (.sc (.int .i64 c))]) : π.call 80 [za s t xs] K := h.call' _ (rsign_c hz hl rfl) (hk _ rfl)
theorem rfrom_c {n : Int} {b : Bool} {ys : List (List D)} (hn : inR .i64 n) (hz : Zc b ys n) : TT 56 [.one (.sc (.int .i64 n))] [za b 1 ys] := by
  refine con Tryz.func56 rfl (by kernel_rfl) (by kernel_rfl) fun π Q h hQ => ?_
  simp only [inR] at hn
  cbv
  refine h.conv' fun u hu => ?_
  rw [wrap_u rfl] at hu
  simp only [IntKind.bits] at hu
  have fin : ∀ (a c : Nat) (s : Bool), a < BW → c < BW → sg s (val BW [a, c]) = n → ∀ K : List DV → Prop, K [za b 1 ys] → π.call 86 [za s 1 [[D.sc (.int .u32 (a : Int))], [D.sc (.int .u32 (c : Int))]]] K :=
    fun a c s ha hc hs K hK => least_s h (l := 2) ⟨[a, c], rfl, Ok.of ha (Ok.of hc Ok.nil), by simp, hs.symm⟩ (by omega) fun b' ys' hz' => by
      rw [show za b' 1 ys' = za b 1 ys from za_eq hz' hz rfl]; exact hK
  cbv
  refine h.dec rfl (fun hp => ?_) (fun hp => ?_)
  · cbv
    refine h.subw fun v hv => ?_
    rw [wrap_u rfl] at hv
    simp only [IntKind.bits] at hv
    cbv
    (refine Good.yes ‹_› ?_ ?_; (· omega); cbv)
    refine h.rem' (by omega) (by omega) fun lo hlo => ?_
    cbv
    (refine Good.convi ‹_› ?_ ?_; (· (simp only [inR, cmpP, loOk, hiOk, Int.ofNat_eq_natCast, Int.negSucc_eq, IntKind.bits, Int.toNat_natCast, ge_iff_le, gt_iff_lt, ne_eq, wl_len, hl_len, natCast_fold, not_true_eq_false, not_false_eq_true] at * <;> omega)); cbv)
    refine h.quo' (by omega) (by omega) (by (simp only [inR, cmpP, loOk, hiOk, Int.ofNat_eq_natCast, Int.negSucc_eq, IntKind.bits, Int.toNat_natCast, ge_iff_le, gt_iff_lt, ne_eq, wl_len, hl_len, natCast_fold, not_true_eq_false, not_false_eq_true] at * <;> omega)) fun hi hhi => ?_
    cbv
    (refine Good.convi ‹_› ?_ ?_; (· (simp only [inR, cmpP, loOk, hiOk, Int.ofNat_eq_natCast, Int.negSucc_eq, IntKind.bits, Int.toNat_natCast, ge_iff_le, gt_iff_lt, ne_eq, wl_len, hl_len, natCast_fold, not_true_eq_false, not_false_eq_true] at * <;> omega)); cbv)
    have e1 : lo = ((lo.toNat : Nat) : Int) := by omega
    have e2 : hi = ((hi.toNat : Nat) : Int) := by omega
    rw [e1, e2]
    refine fin _ _ true (by rw [BW_eq]; omega) (by rw [BW_eq]; omega) ?_ _ ?_
    · simp only [val, sg, BW_eq]; (simp only [inR, cmpP, loOk, hiOk, Int.ofNat_eq_natCast, Int.negSucc_eq, IntKind.bits, Int.toNat_natCast, ge_iff_le, gt_iff_lt, ne_eq, wl_len, hl_len, natCast_fold, not_true_eq_false, not_false_eq_true] at * <;> omega)
    · cbv
      exact hQ
  · cbv
    (refine Good.no ‹_› rfl ?_ ?_; (· omega); cbv)
    refine h.rem' (by omega) (by omega) fun lo hlo => ?_
    cbv
    (refine Good.convi ‹_› ?_ ?_; (· (simp only [inR, cmpP, loOk, hiOk, Int.ofNat_eq_natCast, Int.negSucc_eq, IntKind.bits, Int.toNat_natCast, ge_iff_le, gt_iff_lt, ne_eq, wl_len, hl_len, natCast_fold, not_true_eq_false, not_false_eq_true] at * <;> omega)); cbv)
    refine h.quo' (by omega) (by omega) (by (simp only [inR, cmpP, loOk, hiOk, Int.ofNat_eq_natCast, Int.negSucc_eq, IntKind.bits, Int.toNat_natCast, ge_iff_le, gt_iff_lt, ne_eq, wl_len, hl_len, natCast_fold, not_true_eq_false, not_false_eq_true] at * <;> omega)) fun hi hhi => ?_
    cbv
    (refine Good.convi ‹_› ?_ ?_; (· (simp only [inR, cmpP, loOk, hiOk, Int.ofNat_eq_natCast, Int.negSucc_eq, IntKind.bits, Int.toNat_natCast, ge_iff_le, gt_iff_lt, ne_eq, wl_len, hl_len, natCast_fold, not_true_eq_false, not_false_eq_true] at * <;> omega)); cbv)
    have e1 : lo = ((lo.toNat : Nat) : Int) := by omega
    have e2 : hi = ((hi.toNat : Nat) : Int) := by omega
    rw [e1, e2]
    refine fin _ _ false (by rw [BW_eq]; omega) (by rw [BW_eq]; omega) ?_ _ ?_
    · simp only [val, sg, BW_eq]; (simp only [inR, cmpP, loOk, hiOk, Int.ofNat_eq_natCast, Int.negSucc_eq, IntKind.bits, Int.toNat_natCast, ge_iff_le, gt_iff_lt, ne_eq, wl_len, hl_len, natCast_fold, not_true_eq_false, not_false_eq_true] at * <;> omega)
    · cbv
      exact hQ
theorem rfrom_s {π : Pi} (h : Good TT π) {K : List DV → Prop} {n : Int} (hn : inR .i64 n) (hk : ∀ b ys, Zc b ys n → K [za b 1 ys]) : π.call 56 [.one (.sc (.int .i64 n))] K := h.call' _ (rfrom_c hn ⟨rfl, rfl⟩) (hk _ _ ⟨rfl, rfl⟩)
theorem rneg_c {t l : Nat} {s b : Bool} {xs ys : List (List D)} {i : Int} (hz : Zr s xs i l) (hl' : l ≤ 100000) (hy : Zc b ys (-i)) : TT 103 [za s t xs] [za b 1 ys] := by
  refine con Tryz.func103 rfl (by kernel_rfl) (by kernel_rfl) fun π Q h hQ => ?_
  obtain ⟨ws, hx, ho, hw, hi⟩ := hz
  have l1 := dgh_len (dg_len_val BW2 ho)
  cases s <;> cbv <;> refine halves_s h hx ho (by omega) fun us hu => ?_ <;> cbv
  · refine of_s h hu (dg_ok BH2 _) (by omega) fun b' ys' hz' => ?_
    rw [show za b' 1 ys' = za b 1 ys from za_eq hz' hy (by rw [dg_val BH2, hi]; rfl)]
    cbv
    (refine Good.chk' ‹_› rfl ?_; cbv)
    exact hQ
  · refine of_s h hu (dg_ok BH2 _) (by omega) fun b' ys' hz' => ?_
    rw [show za b' 1 ys' = za b 1 ys from za_eq hz' hy (by rw [dg_val BH2, hi, sg_t, sg_f]; omega)]
    cbv
    (refine Good.chk' ‹_› rfl ?_; cbv)
    exact hQ
theorem rabs_c {t l : Nat} {s b : Bool} {xs ys : List (List D)} {i : Int} (hz : Zr s xs i l) (hl' : l ≤ 100000) (hy : Zc b ys (i.natAbs : Int)) : TT 111 [za s t xs] [za b 1 ys] := by
  refine con Tryz.func111 rfl (by kernel_rfl) (by kernel_rfl) fun π Q h hQ => ?_
  obtain ⟨ws, hx, ho, hw, hi⟩ := hz
  have l1 := dgh_len (dg_len_val BW2 ho)
  cbv
  refine halves_s h hx ho (by omega) fun us hu => ?_
  cbv
  refine of_s h hu (dg_ok BH2 _) (by omega) fun b' ys' hz' => ?_
  rw [show za b' 1 ys' = za b 1 ys from za_eq hz' hy (by rw [dg_val BH2, hi, sg_natAbs]; rfl)]
  cbv
  skip
  exact hQ
section
variable {π : Pi} (h : Good TT π) {K : List DV → Prop} {t l : Nat} {s : Bool} {xs : List (List D)} {i : Int}
include h
theorem rneg_s (hz : Zr s xs i l) (hl : l ≤ 100000) (hk : ∀ b ys, Zc b ys (-i) → K [za b 1 ys]) : π.call 103 [za s t xs] K := h.call' _ (rneg_c hz hl ⟨rfl, rfl⟩) (hk _ _ ⟨rfl, rfl⟩)
theorem rabs_s (hz : Zr s xs i l) (hl : l ≤ 100000) (hk : ∀ b ys, Zc b ys (i.natAbs : Int) → K [za b 1 ys]) : π.call 111 [za s t xs] K := h.call' _ (rabs_c hz hl ⟨rfl, rfl⟩) (hk _ _ ⟨rfl, rfl⟩)
end
theorem radd2_c {t t' l l' : Nat} {s s' b : Bool} {xs xs' ys : List (List D)} {i i' : Int} (hz : Zr s xs i l) (hz' : Zr s' xs' i' l') (hl' : l ≤ 100000) (hl'' : l' ≤ 100000) (hy : Zc b ys (i + i')) : TT 85 [za s t xs, za s' t' xs'] [za b 1 ys] := by
  refine con Tryz.func85 rfl (by kernel_rfl) (by kernel_rfl) fun π Q h hQ => ?_
  obtain ⟨ws, hx, ho, hw, hi⟩ := hz
  obtain ⟨ws', hx', ho', hw', hi'⟩ := hz'
  subst hi hi'
  have l1 := dgh_len (dg_len_val BW2 ho)
  have l2 := dgh_len (dg_len_val BW2 ho')
  have l3 := dg_len_add BH2 (val BW ws) (val BW ws')
  have l4 : (dg BH (val BW ws - val BW ws')).length ≤ _ := dg_len_mono BH2 (Nat.sub_le _ _)
  have l5 : (dg BH (val BW ws' - val BW ws)).length ≤ _ := dg_len_mono BH2 (Nat.sub_le _ _)
  cbv
  refine halves_s h hx ho (by omega) fun us hu => ?_
  cbv
  refine halves_s h hx' ho' (by omega) fun us' hu' => ?_
  cbv
  (refine Good.chk' ‹_› rfl ?_; cbv)
  refine h.beq' fun q hq => ?_
  by_cases hs : s = s'
  · have : q = true := by rw [hq]; simp [hs]
    subst this
    cbv
    skip
    refine radd_s h hu hu' (dg_ok BH2 _) (dg_ok BH2 _) (by omega) (by omega) fun z hz => ?_
    rw [dg_val BH2, dg_val BH2] at hz
    cbv
    refine of_s h hz (dg_ok BH2 _) (by omega) fun b' ys' hz' => ?_
    rw [show za b' 1 ys' = za b 1 ys from za_eq hz' hy (by rw [dg_val BH2, sg_add hs])]
    cbv
    (refine Good.chk' ‹_› rfl ?_; cbv)
    exact hQ
  · have : q = false := by rw [hq]; simp [hs]
    subst this
    cbv
    skip
    refine rcmp_s h hu hu' (dg_ok BH2 _) (dg_ok BH2 _) (by omega) (by omega) fun c hc => ?_
    rw [dg_val BH2, dg_val BH2] at hc
    have h5 : 0 ≤ c ↔ val BW ws' ≤ val BW ws := by
      rw [hc]; unfold cmpV
      split
      · omega
      · split <;> omega
    cbv
    refine h.dec rfl (fun hp => ?_) (fun hp => ?_)
    · have hle : val BW ws' ≤ val BW ws := by (simp only [inR, cmpP, loOk, hiOk, Int.ofNat_eq_natCast, Int.negSucc_eq, IntKind.bits, Int.toNat_natCast, ge_iff_le, gt_iff_lt, ne_eq, wl_len, hl_len, natCast_fold, not_true_eq_false, not_false_eq_true] at * <;> omega)
      cbv
      skip
      refine rsub_s h hu hu' (dg_ok BH2 _) (dg_ok BH2 _) (by omega) (by omega) (by rw [dg_val BH2, dg_val BH2]; exact hle) fun z hz => ?_
      rw [dg_val BH2, dg_val BH2] at hz
      cbv
      refine of_s h hz (dg_ok BH2 _) (by omega) fun b' ys' hz' => ?_
      rw [show za b' 1 ys' = za b 1 ys from za_eq hz' hy (by rw [dg_val BH2, sg_sub hs hle])]
      cbv
      (refine Good.chk' ‹_› rfl ?_; cbv)
      exact hQ
    · have hle : val BW ws ≤ val BW ws' := by (simp only [inR, cmpP, loOk, hiOk, Int.ofNat_eq_natCast, Int.negSucc_eq, IntKind.bits, Int.toNat_natCast, ge_iff_le, gt_iff_lt, ne_eq, wl_len, hl_len, natCast_fold, not_true_eq_false, not_false_eq_true] at * <;> omega)
      cbv
      skip
      refine rsub_s h hu' hu (dg_ok BH2 _) (dg_ok BH2 _) (by omega) (by omega) (by rw [dg_val BH2, dg_val BH2]; exact hle) fun z hz => ?_
      rw [dg_val BH2, dg_val BH2] at hz
      cbv
      refine of_s h hz (dg_ok BH2 _) (by omega) fun b' ys' hz' => ?_
      rw [show za b' 1 ys' = za b 1 ys from za_eq hz' hy (by rw [dg_val BH2, sg_sub' hs hle])]
      cbv
      (refine Good.chk' ‹_› rfl ?_; cbv)
      exact hQ
theorem radd2_s {π : Pi} (h : Good TT π) {K : List DV → Prop} {t t' l l' : Nat} {s s' : Bool} {xs xs' : List (List D)} {i i' : Int} (hz : Zr s xs i l) (hz' : Zr s' xs' i' l') (hl : l ≤ 100000) (hl' : l' ≤ 100000) (hk : ∀ b ys, Zc b ys (i + i') → K [za b 1 ys]) : π.call 85 [za s t xs, za s' t' xs'] K := h.call' _ (radd2_c hz hz' hl hl' ⟨rfl, rfl⟩) (hk _ _ ⟨rfl, rfl⟩)
theorem rmul2_c {t t' l l' : Nat} {s s' b : Bool} {xs xs' ys : List (List D)} {i i' : Int} (hz : Zr s xs i l) (hz' : Zr s' xs' i' l') (hl' : l ≤ 100000) (hl'' : l' ≤ 100000) (hy : Zc b ys (i * i')) : TT 83 [za s t xs, za s' t' xs'] [za b 1 ys] := by
  refine con Tryz.func83 rfl (by kernel_rfl) (by kernel_rfl) fun π Q h hQ => ?_
  obtain ⟨ws, hx, ho, hw, hi⟩ := hz
  obtain ⟨ws', hx', ho', hw', hi'⟩ := hz'
  have l1 := dgh_len (dg_len_val BW2 ho)
  have l2 := dgh_len (dg_len_val BW2 ho')
  have l3 := dg_len_mul BH2 (val BW ws) (val BW ws')
  cbv
  skip
  refine h.beq' fun q hq => ?_
  cbv
  refine halves_s h hx ho (by omega) fun us hu => ?_
  cbv
  refine halves_s h hx' ho' (by omega) fun us' hu' => ?_
  cbv
  refine rmul_s h hu hu' (dg_ok BH2 _) (dg_ok BH2 _) (by omega) (by omega) fun z hz => ?_
  rw [dg_val BH2, dg_val BH2] at hz
  cbv
  refine of_s h hz (dg_ok BH2 _) (by omega) fun b' ys' hz' => ?_
  rw [show za b' 1 ys' = za b 1 ys from za_eq hz' hy (by rw [dg_val BH2, hi, hi', sg_mul, hq]; rfl)]
  cbv
  (refine Good.chk' ‹_› rfl ?_; cbv)
  exact hQ
theorem rmul2_s {π : Pi} (h : Good TT π) {K : List DV → Prop} {t t' l l' : Nat} {s s' : Bool} {xs xs' : List (List D)} {i i' : Int} (hz : Zr s xs i l) (hz' : Zr s' xs' i' l') (hl : l ≤ 100000) (hl' : l' ≤ 100000) (hk : ∀ b ys, Zc b ys (i * i') → K [za b 1 ys]) : π.call 83 [za s t xs, za s' t' xs'] K := h.call' _ (rmul2_c hz hz' hl hl' ⟨rfl, rfl⟩) (hk _ _ ⟨rfl, rfl⟩)
theorem rgcd_c {t t' l l' : Nat} {s s' b : Bool} {xs xs' ys : List (List D)} {i i' : Int} (hz : Zr s xs i l) (hz' : Zr s' xs' i' l') (hl' : l ≤ 100000) (hl'' : l' ≤ 100000) (hy : Zc b ys (Int.gcd i i' : Int)) :
    TT 105 [za s t xs, za s' t' xs'] [za b 1 ys] := by
  refine con Tryz.func105 rfl (by kernel_rfl) (by kernel_rfl) fun π Q h hQ => ?_
  obtain ⟨ws, hx, ho, hw, hi⟩ := hz
  obtain ⟨ws', hx', ho', hw', hi'⟩ := hz'
  have hg : Int.gcd i i' = Nat.gcd (val BW ws) (val BW ws') := by rw [Int.gcd, hi, hi', sg_natAbs, sg_natAbs]
  rw [hg] at hy
  have l1 := dgh_len (dg_len_val BW2 ho)
  have l2 := dgh_len (dg_len_val BW2 ho')
  cbv
  refine halves_s h hx ho (by omega) fun us hu => ?_
  cbv
  refine halves_s h hx' ho' (by omega) fun us' hu' => ?_
  cbv
  (refine Good.chk' ‹_› rfl ?_; cbv)
  refine h.loop' (Nat × List (List D) × Nat × List (List D) × Nat × Nat) (fun p => p.2.1 = hl (dg BH p.2.2.2.2.1) ∧ p.2.2.2.1 = hl (dg BH p.2.2.2.2.2) ∧ Nat.gcd p.2.2.2.2.1 p.2.2.2.2.2 = Nat.gcd (val BW ws) (val BW ws') ∧ (dg BH p.2.2.2.2.1).length ≤ 200000 ∧ (dg BH p.2.2.2.2.2).length ≤ 200000)
    (fun p => ⟨[(4, .p 4 0 0 0), (5, vs p.1 p.2.1), (6, vs p.2.2.1 p.2.2.2.1)], [(4, .bx [.sc (.bool false), .sl 1 1 []])]⟩) (fun p => p.2.2.2.2.2) (1, us, 1, us', val BW ws, val BW ws') ⟨hu, hu', rfl, by simp only; omega, by simp only; omega⟩ (by (refine Wk.of [(4, some 4)] rfl ?_ ?_; (· (repeat (first | exact trivial | (refine And.intro ?_ ?_; (· first | exact trivial | exact Or.inl ⟨_, rfl, rfl⟩ | exact ⟨_, rfl, rfl⟩ | exact Or.inr ⟨rfl, rfl, by decide⟩))))); (· (repeat (first | exact trivial | (refine And.intro ?_ ?_; (· first | exact trivial | exact Or.inl rfl | rfl | exact Or.inr ⟨_, _, _, _, rfl, rfl, rfl, renNo rfl⟩ | exact ⟨ne_no rfl, Or.inl ⟨_, rfl, rfl⟩⟩ | exact ⟨ne_no rfl, Or.inr ⟨rfl, _, rfl⟩⟩ | exact ⟨_, rfl, rfl, ne_no rfl⟩))))))) ?_
  clear hu hu'
  rintro ⟨tx, us, ty', us', m, n⟩ R ⟨hu, hu', hmn, hm, hn⟩ hR
  simp only at hu hu' hmn hm hn
  have hlu : us'.length = (dg BH n).length := by rw [hu', hl_len]
  cbv
  (refine Good.len' ‹_› ?_; intro _ _; cbv)
  refine h.dec rfl (fun hp => ?_) (fun hp => ?_)
  · have hn0 : 0 < n := Nat.pos_of_ne_zero fun h0 => by rw [h0] at hlu; rw [dg_zero, List.length_nil] at hlu; (simp only [inR, cmpP, loOk, hiOk, Int.ofNat_eq_natCast, Int.negSucc_eq, IntKind.bits, Int.toNat_natCast, ge_iff_le, gt_iff_lt, ne_eq, wl_len, hl_len, natCast_fold, not_true_eq_false, not_false_eq_true] at * <;> omega)
    cbv
    refine rdiv_s h hu hu' (dg_ok BH2 _) (dg_ok BH2 _) (dg_can BH2 _) (by rw [dg_val BH2]; exact hn0) (by omega) (by omega) fun qs rs hqs hrs => ?_
    rw [dg_val BH2, dg_val BH2] at hrs
    have hlt := Nat.mod_lt m hn0
    cbv
    skip
    refine hR _ (ty', us', 1, rs, n, m % n) ⟨hu', hrs, ?_, hn, Nat.le_trans (dg_len_mono BH2 (Nat.le_of_lt hlt)) hn⟩ hlt (by (refine Wk.of [(4, some 4)] rfl ?_ ?_; (· (repeat (first | exact trivial | (refine And.intro ?_ ?_; (· first | exact trivial | exact Or.inl ⟨_, rfl, rfl⟩ | exact ⟨_, rfl, rfl⟩ | exact Or.inr ⟨rfl, rfl, by decide⟩))))); (· (repeat (first | exact trivial | (refine And.intro ?_ ?_; (· first | exact trivial | exact Or.inl rfl | rfl | exact Or.inr ⟨_, _, _, _, rfl, rfl, rfl, renNo rfl⟩ | exact ⟨ne_no rfl, Or.inl ⟨_, rfl, rfl⟩⟩ | exact ⟨ne_no rfl, Or.inr ⟨rfl, _, rfl⟩⟩ | exact ⟨_, rfl, rfl, ne_no rfl⟩)))))))
    rw [← hmn]
    show Nat.gcd n (m % n) = _
    rw [Nat.gcd_comm m n, Nat.gcd_rec n m, Nat.gcd_comm]
  · have hn0 : n = 0 := (dg_nil BH2).1 (List.eq_nil_of_length_eq_zero (by (simp only [inR, cmpP, loOk, hiOk, Int.ofNat_eq_natCast, Int.negSucc_eq, IntKind.bits, Int.toNat_natCast, ge_iff_le, gt_iff_lt, ne_eq, wl_len, hl_len, natCast_fold, not_true_eq_false, not_false_eq_true] at * <;> omega)))
    subst hn0
    rw [Nat.gcd_zero_right] at hmn
    cbv
    refine of_s h hu (dg_ok BH2 _) (by omega) fun b1 y1 hz1 => ?_
    rw [show za b1 1 y1 = za b 1 ys from za_eq hz1 hy (by rw [dg_val BH2, hmn]; rfl)]
    cbv
    skip
    exact hQ
theorem rgcd_s {π : Pi} (h : Good TT π) {K : List DV → Prop} {t t' l l' : Nat} {s s' : Bool} {xs xs' : List (List D)} {i i' : Int} (hz : Zr s xs i l) (hz' : Zr s' xs' i' l') (hl : l ≤ 100000) (hl' : l' ≤ 100000)
    (hk : ∀ b ys, Zc b ys (Int.gcd i i' : Int) → K [za b 1 ys]) : π.call 105 [za s t xs, za s' t' xs'] K := h.call' _ (rgcd_c hz hz' hl hl' ⟨rfl, rfl⟩) (hk _ _ ⟨rfl, rfl⟩)
end Go.Proofs.YtpmlocilhhjifaaGreat.Eng
