/- The reference of chapter 2. -/
import Derived.Test.YtpmlocilhhjifaaGreatRef7
import Derived.Test.YtpmlocilhhjifaaGreatFrc4
set_option maxRecDepth 100000
set_option linter.unusedSimpArgs false
set_option linter.unusedVariables false
set_option pp.maxSteps 200
namespace Go.Proofs.YtpmlocilhhjifaaGreat.Eng
open Go.RowKit Go.Proofs
theorem rone_c {b : Bool} {zs : List (List D)} (hz : Zc b zs 1) : TT 108 [] [za b 1 zs] := by
  refine con Tryz.func108 rfl (by kernel_rfl) (by kernel_rfl) fun π Q h hQ => ?_
  cbv
  refine rfrom_s h (by (simp only [inR, cmpP, loOk, hiOk, Int.ofNat_eq_natCast, Int.negSucc_eq, IntKind.bits, Int.toNat_natCast, ge_iff_le, gt_iff_lt, ne_eq, wl_len, hl_len, natCast_fold, not_true_eq_false, not_false_eq_true] at * <;> omega)) fun _ _ w1 => ?_
  obtain ⟨rfl, rfl⟩ := w1.uni hz
  cbv
  skip
  exact hQ
theorem qn_len (i j : Int) : (dg BW (qn i j).natAbs).length = (dg BW i.natAbs).length := by
  unfold qn
  split
  · rw [Int.natAbs_neg]
  · rfl
theorem qd_len (j : Int) : (dg BW (qd j).natAbs).length ≤ max (dg BW j.natAbs).length 1 := by
  unfold qd
  split
  · exact Nat.le_trans (dg_len BW2 (by rw [Nat.pow_one]; exact BW2)) (Nat.le_max_right _ _)
  · rw [Int.natAbs_natCast]; omega
variable {s1 s2 s3 s4 : Bool} {t1 t2 t3 t4 : Nat} {x1 x2 x3 x4 : List (List D)} {p q : Rat} {l : Nat} {b b' : Bool} {zs zs' : List (List D)} {i j i' j' n d : Int}
theorem rden_c (h1 : Zr s1 x1 i l) (h2 : Zr s2 x2 j l) (hl : l ≤ 10000) (hz : Zc b zs (qd j)) : TT 84 [qa s1 t1 x1 s2 t2 x2] [za b 1 zs] := by
  refine con Tryz.func84 rfl (by kernel_rfl) (by kernel_rfl) fun π Q h hQ => ?_
  have c0 := sgnV_cases j
  unfold qd at hz
  cbv
  skip
  refine rsign_s h h2 (by omega) fun c hc => ?_
  cbv
  refine h.dec rfl (fun hp => ?_) (fun hp => ?_)
  · rw [if_pos (by (simp only [inR, cmpP, loOk, hiOk, Int.ofNat_eq_natCast, Int.negSucc_eq, IntKind.bits, Int.toNat_natCast, ge_iff_le, gt_iff_lt, ne_eq, wl_len, hl_len, natCast_fold, not_true_eq_false, not_false_eq_true] at * <;> omega))] at hz
    cbv
    refine h.call' _ (rone_c hz) ?_
    cbv
    skip
    exact hQ
  · rw [if_neg (by (simp only [inR, cmpP, loOk, hiOk, Int.ofNat_eq_natCast, Int.negSucc_eq, IntKind.bits, Int.toNat_natCast, ge_iff_le, gt_iff_lt, ne_eq, wl_len, hl_len, natCast_fold, not_true_eq_false, not_false_eq_true] at * <;> omega))] at hz
    cbv
    skip
    refine rabs_s h h2 (by omega) fun _ _ w1 => ?_
    obtain ⟨rfl, rfl⟩ := w1.uni hz
    cbv
    skip
    exact hQ
theorem rnum_c (h1 : Zr s1 x1 i l) (h2 : Zr s2 x2 j l) (hl : l ≤ 10000) (hz : Zc b zs (qn i j)) : TT 81 [qa s1 t1 x1 s2 t2 x2] [za b 1 zs] := by
  refine con Tryz.func81 rfl (by kernel_rfl) (by kernel_rfl) fun π Q h hQ => ?_
  have c0 := sgnV_cases j
  unfold qn at hz
  cbv
  skip
  refine rsign_s h h2 (by omega) fun c hc => ?_
  cbv
  refine h.dec rfl (fun hp => ?_) (fun hp => ?_)
  · rw [if_pos (by (simp only [inR, cmpP, loOk, hiOk, Int.ofNat_eq_natCast, Int.negSucc_eq, IntKind.bits, Int.toNat_natCast, ge_iff_le, gt_iff_lt, ne_eq, wl_len, hl_len, natCast_fold, not_true_eq_false, not_false_eq_true] at * <;> omega))] at hz
    cbv
    skip
    refine rneg_s h h1 (by omega) fun _ _ w1 => ?_
    obtain ⟨rfl, rfl⟩ := w1.uni hz
    cbv
    skip
    exact hQ
  · rw [if_neg (by (simp only [inR, cmpP, loOk, hiOk, Int.ofNat_eq_natCast, Int.negSucc_eq, IntKind.bits, Int.toNat_natCast, ge_iff_le, gt_iff_lt, ne_eq, wl_len, hl_len, natCast_fold, not_true_eq_false, not_false_eq_true] at * <;> omega))] at hz
    cbv
    skip
    refine least_s h h1 (by omega) fun _ _ w1 => ?_
    obtain ⟨rfl, rfl⟩ := w1.uni hz
    cbv
    skip
    exact hQ
theorem over_c (hz : Zr s1 x1 n l) (hz' : Zr s2 x2 d l) (hl : l ≤ 10000) (hd : 0 < d) (hq : Qc b zs b' zs' (Rat.divInt n d)) : TT 82 [za s1 t1 x1, za s2 t2 x2] [qa b 1 zs b' 1 zs'] := by
  refine con Tryz.func82 rfl (by kernel_rfl) (by kernel_rfl) fun π Q h hQ => ?_
  have l1 := hz.len
  have l2 := hz'.len
  have hg := gcd_pos (n := n) hd
  have lg : (dg BW ((Int.gcd n d : Int)).natAbs).length ≤ l := by
    rw [Int.natAbs_natCast]
    exact Nat.le_trans (dg_len_mono BW2 (by have := Nat.le_of_dvd (by omega) (Int.gcd_dvd_natAbs_right n d); exact this)) l2
  have ed := divInt_den (n := n) hd
  have ld : (dg BW (d / (Int.gcd n d : Int)).natAbs).length ≤ l := by
    rw [← ed, Int.natAbs_natCast]
    refine Nat.le_trans (dg_len_mono BW2 ?_) l2
    have h1 : d / (Int.gcd n d : Int) ≤ d := Int.ediv_le_self _ (by omega)
    omega
  obtain ⟨hq1, hq2⟩ := hq
  rw [divInt_num hd] at hq1
  cbv
  refine rgcd_s h hz hz' (by omega) (by omega) fun _ _ z1 => ?_
  cbv
  skip
  refine rdivMod_s h hz z1.r (by omega) (by omega) fun _ _ _ _ e z2 z3 he => ?_
  obtain ⟨rfl, rfl⟩ := z2.uni hq1
  cbv
  skip
  refine rdivMod_s h hz' z1.r (by omega) (by omega) fun b4 y4 _ _ e' z4 z5 he' => ?_
  cbv
  skip
  refine h.call' _ (rone_c (b := decide ((1 : Int) < 0)) (zs := wl (dg BW (1 : Int).natAbs)) ⟨rfl, rfl⟩) ?_
  obtain ⟨b6, y6, e6, z6⟩ : ∃ b y, za (decide ((1 : Int) < 0)) 1 (wl (dg BW (1 : Int).natAbs)) = za b 1 y ∧ Zc b y 1 := ⟨_, _, rfl, rfl, rfl⟩
  rw [e6]
  cbv
  skip
  refine rcmp2_s h z4.r (one_zc z6 rfl) (by omega) (by omega) fun c hc => ?_
  have d1 := sgnV_cases (d / (Int.gcd n d : Int) - 1)
  cbv
  refine h.dec rfl (fun hp => ?_) (fun hp => ?_)
  · have e1 : (Rat.divInt n d).den = 1 := by (simp only [inR, cmpP, loOk, hiOk, Int.ofNat_eq_natCast, Int.negSucc_eq, IntKind.bits, Int.toNat_natCast, ge_iff_le, gt_iff_lt, ne_eq, wl_len, hl_len, natCast_fold, not_true_eq_false, not_false_eq_true] at * <;> omega)
    rw [if_pos e1] at hq2
    rw [hq2.1, hq2.2] at hQ
    cbv
    (refine Good.chk' ‹_› rfl ?_; cbv)
    exact hQ
  · have e1 : (Rat.divInt n d).den ≠ 1 := by (simp only [inR, cmpP, loOk, hiOk, Int.ofNat_eq_natCast, Int.negSucc_eq, IntKind.bits, Int.toNat_natCast, ge_iff_le, gt_iff_lt, ne_eq, wl_len, hl_len, natCast_fold, not_true_eq_false, not_false_eq_true] at * <;> omega)
    rw [if_neg e1, ed] at hq2
    obtain ⟨rfl, rfl⟩ := z4.uni hq2
    cbv
    (refine Good.chk' ‹_› rfl ?_; cbv)
    exact hQ
theorem qcx (p : Rat) : ∃ b z b' z', Qc b z b' z' p := by
  by_cases h : p.den = 1
  · exact ⟨_, _, false, [], ⟨rfl, rfl⟩, by rw [if_pos h]; exact ⟨rfl, rfl⟩⟩
  · exact ⟨_, _, _, _, ⟨rfl, rfl⟩, by rw [if_neg h]; exact ⟨rfl, rfl⟩⟩
theorem zcx (i : Int) : ∃ b z, Zc b z i := ⟨_, _, rfl, rfl⟩
theorem rleast_c (ha : Qr s1 x1 s2 x2 p l) (hl : l ≤ 1000) (hq : Qc b zs b' zs' p) : TT 57 [qa s1 t1 x1 s2 t2 x2] [qa b 1 zs b' 1 zs'] := by
  obtain ⟨i, j, h1, h2, rfl⟩ := ha
  obtain ⟨bn, zn, hn⟩ := zcx (qn i j)
  obtain ⟨bd, zd, hd⟩ := zcx (qd j)
  have e1 := qn_len i j
  have e2 := qd_len j
  have e3 := h1.len
  have e4 := h2.len
  refine con Tryz.func57 rfl (by kernel_rfl) (by kernel_rfl) fun π Q h hQ => ?_
  cbv
  refine h.call' _ (rnum_c h1 h2 (by omega) hn) ?_
  cbv
  refine h.call' _ (rden_c h1 h2 (by omega) hd) ?_
  cbv
  refine h.call' _ (over_c (l := max l 1) (hn.r.le (by omega)) (hd.r.le (by omega)) (by omega) (qd_pos j) hq) ?_
  cbv
  (refine Good.chk' ‹_› rfl ?_; cbv)
  exact hQ
theorem rradd_c (ha : Qr s1 x1 s2 x2 p l) (hb : Qr s3 x3 s4 x4 q l) (hl : l ≤ 1000) (hq : Qc b zs b' zs' (p + q)) : TT 55 [qa s1 t1 x1 s2 t2 x2, qa s3 t3 x3 s4 t4 x4] [qa b 1 zs b' 1 zs'] := by
  obtain ⟨i, j, h1, h2, rfl⟩ := ha
  obtain ⟨i', j', h3, h4, rfl⟩ := hb
  obtain ⟨bn, zn, hn⟩ := zcx (qn i j)
  obtain ⟨bd, zd, hd⟩ := zcx (qd j)
  obtain ⟨bn', zn', hn'⟩ := zcx (qn i' j')
  obtain ⟨bd', zd', hd'⟩ := zcx (qd j')
  have e1 := qn_len i j
  have e2 := qd_len j
  have e3 := h1.len
  have e4 := h2.len
  have e5 := qn_len i' j'
  have e6 := qd_len j'
  have e7 := h3.len
  have e8 := h4.len
  have p1 := qd_pos j
  have p2 := qd_pos j'
  have m1 := ll_mul (qn i j) (qd j')
  have m2 := ll_mul (qn i' j') (qd j)
  have m3 := ll_mul (qd j) (qd j')
  have m4 := ll_add (qn i j * qd j') (qn i' j' * qd j)
  unfold qv at hq
  rw [Rat.divInt_add_divInt _ _ (by omega) (by omega)] at hq
  refine con Tryz.func55 rfl (by kernel_rfl) (by kernel_rfl) fun π Q h hQ => ?_
  cbv
  refine h.call' _ (rnum_c h1 h2 (by omega) hn) ?_
  cbv
  refine h.call' _ (rden_c h3 h4 (by omega) hd') ?_
  cbv
  refine rmul2_s h hn.r hd'.r (by omega) (by omega) fun _ _ w1 => ?_
  cbv
  refine h.call' _ (rnum_c h3 h4 (by omega) hn') ?_
  cbv
  refine h.call' _ (rden_c h1 h2 (by omega) hd) ?_
  cbv
  refine rmul2_s h hn'.r hd.r (by omega) (by omega) fun _ _ w2 => ?_
  cbv
  (refine Good.chk' ‹_› rfl ?_; cbv)
  refine radd2_s h w1.r w2.r (by omega) (by omega) fun _ _ w3 => ?_
  cbv
  refine h.call' _ (rden_c h1 h2 (by omega) hd) ?_
  cbv
  refine h.call' _ (rden_c h3 h4 (by omega) hd') ?_
  cbv
  refine rmul2_s h hd.r hd'.r (by omega) (by omega) fun _ _ w4 => ?_
  cbv
  skip
  refine h.call' _ (over_c (l := 2 * l + 3) (w3.r.le (by omega)) (w4.r.le (by omega)) (by omega) (Int.mul_pos p1 p2) hq) ?_
  cbv
  (refine Good.chk' ‹_› rfl ?_; cbv)
  exact hQ
theorem rrneg_c (ha : Qr s1 x1 s2 x2 p l) (hl : l ≤ 1000) (hq : Qc b zs b' zs' (-p)) : TT 79 [qa s1 t1 x1 s2 t2 x2] [qa b 1 zs b' 1 zs'] := by
  obtain ⟨i, j, h1, h2, rfl⟩ := ha
  obtain ⟨bn, zn, hn⟩ := zcx (qn i j)
  obtain ⟨bd, zd, hd⟩ := zcx (qd j)
  have e1 := qn_len i j
  have e2 := qd_len j
  have e3 := h1.len
  have e4 := h2.len
  have e5 : (-qn i j).natAbs = (qn i j).natAbs := Int.natAbs_neg _
  unfold qv at hq
  rw [Rat.neg_divInt] at hq
  refine con Tryz.func79 rfl (by kernel_rfl) (by kernel_rfl) fun π Q h hQ => ?_
  cbv
  refine h.call' _ (rnum_c h1 h2 (by omega) hn) ?_
  cbv
  refine rneg_s h hn.r (by omega) fun _ _ w1 => ?_
  cbv
  refine h.call' _ (rden_c h1 h2 (by omega) hd) ?_
  cbv
  skip
  refine h.call' _ (over_c (l := max l 1) (w1.r.le (by rw [e5]; omega)) (hd.r.le (by omega)) (by omega) (qd_pos j) hq) ?_
  cbv
  (refine Good.chk' ‹_› rfl ?_; cbv)
  exact hQ
end Go.Proofs.YtpmlocilhhjifaaGreat.Eng
