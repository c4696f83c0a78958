/- Package frac: rationals; of, least. -/
import Derived.Test.YtpmlocilhhjifaaGreatWhole6
section
set_option maxRecDepth 100000
set_option linter.unusedSimpArgs false
set_option linter.unusedVariables false
set_option pp.maxSteps 200
namespace Go.Proofs.YtpmlocilhhjifaaGreat.Eng
open Go.RowKit
abbrev qa (s : Bool) (t : Nat) (xs : List (List D)) (s' : Bool) (t' : Nat) (ys : List (List D)) : DV := .ag [.sc (.bool s), .sl t 1 xs, .sc (.bool s'), .sl t' 1 ys]
def qn (i j : Int) : Int := if j < 0 then -i else i
def qd (j : Int) : Int := if j = 0 then 1 else (j.natAbs : Int)
def qv (i j : Int) : Rat := Rat.divInt (qn i j) (qd j)
/-- The canonical form. -/
def Qc (b : Bool) (z : List (List D)) (b' : Bool) (z' : List (List D)) (q : Rat) : Prop := Zc b z q.num ∧ (if q.den = 1 then b' = false ∧ z' = [] else Zc b' z' (q.den : Int))
/-- Any form, of at most l words each. -/
def Qr (b : Bool) (z : List (List D)) (b' : Bool) (z' : List (List D)) (q : Rat) (l : Nat) : Prop := ∃ i j, Zr b z i l ∧ Zr b' z' j l ∧ q = qv i j
def ql (q : Rat) : Nat := max (dg BW q.num.natAbs).length (dg BW q.den).length
theorem qd_pos (j : Int) : 0 < qd j := by unfold qd; split <;> omega
theorem Zr.le {s : Bool} {xs : List (List D)} {i : Int} {l m : Nat} (h : Zr s xs i l) (hm : l ≤ m) : Zr s xs i m := by
  obtain ⟨ws, h1, h2, h3, h4⟩ := h
  exact ⟨ws, h1, h2, Nat.le_trans h3 hm, h4⟩
theorem Qr.le {b : Bool} {z : List (List D)} {b' : Bool} {z' : List (List D)} {q : Rat} {l m : Nat} (h : Qr b z b' z' q l) (hm : l ≤ m) : Qr b z b' z' q m := by
  obtain ⟨i, j, h1, h2, h3⟩ := h
  exact ⟨i, j, h1.le hm, h2.le hm, h3⟩
theorem qv_canon (q : Rat) : qv q.num (if q.den = 1 then 0 else (q.den : Int)) = q := by
  unfold qv qn qd
  by_cases h : q.den = 1
  · rw [if_pos h, if_neg (by decide), if_pos rfl]
    have := Rat.num_divInt_den q
    rw [h] at this
    exact this
  · rw [if_neg h, if_neg (by omega), if_neg (by have := q.den_nz; omega), Int.natAbs_natCast]
    exact Rat.num_divInt_den q
theorem Qc.r {b : Bool} {z : List (List D)} {b' : Bool} {z' : List (List D)} {q : Rat} (h : Qc b z b' z' q) : Qr b z b' z' q (ql q) := by
  refine ⟨q.num, if q.den = 1 then 0 else (q.den : Int), h.1.r.le (Nat.le_max_left _ _), ?_, (qv_canon q).symm⟩
  have h2 := h.2
  by_cases hd : q.den = 1
  · rw [if_pos hd] at h2 ⊢
    exact ⟨[], by rw [h2.2]; rfl, Ok.nil, Nat.zero_le _, by rw [h2.1]; rfl⟩
  · rw [if_neg hd] at h2 ⊢
    have := h2.r
    rw [Int.natAbs_natCast] at this
    exact this.le (Nat.le_max_right _ _)
theorem Qc.eqs {b c : Bool} {z y : List (List D)} {b' c' : Bool} {z' y' : List (List D)} {q : Rat} {t t' : Nat} (h : Qc b z b' z' q) (h' : Qc c y c' y' q) : qa b t z b' t' z' = qa c t y c' t' y' := by
  have e1 := h.1
  have e2 := h'.1
  have e3 := h.2
  have e4 := h'.2
  have f1 : b = c := by rw [e1.1, e2.1]
  have f2 : z = y := by rw [e1.2, e2.2]
  by_cases hd : q.den = 1
  · rw [if_pos hd] at e3 e4
    rw [f1, f2, e3.1, e3.2, e4.1, e4.2]
  · rw [if_neg hd] at e3 e4
    rw [f1, f2, e3.1, e3.2, e4.1, e4.2]
theorem one_zc {n : Int} {b : Bool} {ys : List (List D)} (h : Zc b ys n) (hn : n = 1) : Zr b ys 1 1 := by
  subst hn
  exact h.r.le (dg_len BW2 (by rw [Nat.pow_one]; exact BW2))
theorem Zc.uni {b c : Bool} {z y : List (List D)} {i : Int} (h : Zc b z i) (h' : Zc c y i) : b = c ∧ z = y := ⟨h.1.trans h'.1.symm, h.2.trans h'.2.symm⟩
variable {s s' : Bool} {t t' : Nat} {xs ys : List (List D)}
theorem fof0_c {i j : Int} {l : Nat} {b : Bool} {zs : List (List D)} (hz : Zr s xs i l) (hz' : Zr s' ys j l) (hl : l ≤ 100000) (hj : j = 0) (h1 : Zc b zs 1) : TT 43 [qa s t xs s' t' ys] [qa s t xs b 1 zs] := by
  refine con Tryz.func43 rfl (by kernel_rfl) (by kernel_rfl) fun π Q h hQ => ?_
  cbv
  skip
  refine sign_s h hz' (by omega) fun c hc => ?_
  have d1 := sgnV_cases j
  have hc : c = 0 := by omega
  subst hc
  cbv
  (refine Good.yes ‹_› ?_ ?_; (· (simp only [inR, cmpP, loOk, hiOk, Int.ofNat_eq_natCast, Int.negSucc_eq, IntKind.bits, Int.toNat_natCast, ge_iff_le, gt_iff_lt, ne_eq, wl_len, hl_len, natCast_fold, not_true_eq_false, not_false_eq_true] at * <;> omega)); cbv)
  refine fromInt64_s h (by (simp only [inR, cmpP, loOk, hiOk, Int.ofNat_eq_natCast, Int.negSucc_eq, IntKind.bits, Int.toNat_natCast, ge_iff_le, gt_iff_lt, ne_eq, wl_len, hl_len, natCast_fold, not_true_eq_false, not_false_eq_true] at * <;> omega)) fun b1 y1 z1 => ?_
  obtain ⟨rfl, rfl⟩ := z1.uni h1
  cbv
  (refine Good.chk' ‹_› rfl ?_; cbv)
  exact hQ
theorem fofn_c {i j : Int} {l : Nat} {b b' : Bool} {zs zs' : List (List D)} (hz : Zr s xs i l) (hz' : Zr s' ys j l) (hl : l ≤ 100000) (hj : j < 0) (h1 : Zc b zs (-i)) (h2 : Zc b' zs' (-j)) : TT 43 [qa s t xs s' t' ys] [qa b 1 zs b' 1 zs'] := by
  refine con Tryz.func43 rfl (by kernel_rfl) (by kernel_rfl) fun π Q h hQ => ?_
  cbv
  skip
  refine sign_s h hz' (by omega) fun c hc => ?_
  have d1 := sgnV_cases j
  have hc : c = -1 := by omega
  subst hc
  cbv
  (refine Good.no ‹_› rfl ?_ ?_; (· (simp only [inR, cmpP, loOk, hiOk, Int.ofNat_eq_natCast, Int.negSucc_eq, IntKind.bits, Int.toNat_natCast, ge_iff_le, gt_iff_lt, ne_eq, wl_len, hl_len, natCast_fold, not_true_eq_false, not_false_eq_true] at * <;> omega)); cbv; refine Good.yes ‹_› ?_ ?_; (· (simp only [inR, cmpP, loOk, hiOk, Int.ofNat_eq_natCast, Int.negSucc_eq, IntKind.bits, Int.toNat_natCast, ge_iff_le, gt_iff_lt, ne_eq, wl_len, hl_len, natCast_fold, not_true_eq_false, not_false_eq_true] at * <;> omega)); cbv)
  refine neg_s h hz (by omega) fun b1 y1 z1 => ?_
  obtain ⟨rfl, rfl⟩ := z1.uni h1
  cbv
  skip
  refine neg_s h hz' (by omega) fun b1 y1 z2 => ?_
  obtain ⟨rfl, rfl⟩ := z2.uni h2
  cbv
  (refine Good.chk' ‹_› rfl ?_; cbv)
  exact hQ
theorem fofp_c {i j : Int} {l : Nat} (hz : Zr s xs i l) (hz' : Zr s' ys j l) (hl : l ≤ 100000) (hj : 0 < j) : TT 43 [qa s t xs s' t' ys] [qa s t xs s' t' ys] := by
  refine con Tryz.func43 rfl (by kernel_rfl) (by kernel_rfl) fun π Q h hQ => ?_
  cbv
  skip
  refine sign_s h hz' (by omega) fun c hc => ?_
  have d1 := sgnV_cases j
  have hc : c = 1 := by omega
  subst hc
  cbv
  (refine Good.no ‹_› rfl ?_ ?_; (· (simp only [inR, cmpP, loOk, hiOk, Int.ofNat_eq_natCast, Int.negSucc_eq, IntKind.bits, Int.toNat_natCast, ge_iff_le, gt_iff_lt, ne_eq, wl_len, hl_len, natCast_fold, not_true_eq_false, not_false_eq_true] at * <;> omega)); cbv; refine Good.no ‹_› rfl ?_ ?_; (· (simp only [inR, cmpP, loOk, hiOk, Int.ofNat_eq_natCast, Int.negSucc_eq, IntKind.bits, Int.toNat_natCast, ge_iff_le, gt_iff_lt, ne_eq, wl_len, hl_len, natCast_fold, not_true_eq_false, not_false_eq_true] at * <;> omega)); cbv)
  exact hQ
/-- The parts of a rational: some form of them. -/
theorem fof_e {q : Rat} {l : Nat} (hz : Qr s xs s' ys q l) (hl : l ≤ 100000) : ∃ b t1 z1 b' t2 z2 n d, Zr b z1 n l ∧ Zr b' z2 d (max l 1) ∧ 0 < d ∧ q = Rat.divInt n d ∧ TT 43 [qa s t xs s' t' ys] [qa b t1 z1 b' t2 z2] := by
  obtain ⟨i, j, h1, h2, rfl⟩ := hz
  have l1 := h1.len
  have l2 := h2.len
  rcases Int.lt_trichotomy j 0 with hj | hj | hj
  · refine ⟨_, 1, _, _, 1, _, -i, -j, (Zc.r (s := decide (-i < 0)) ⟨rfl, rfl⟩).le (by rw [Int.natAbs_neg]; exact l1), (Zc.r (s := decide (-j < 0)) ⟨rfl, rfl⟩).le (by rw [Int.natAbs_neg]; omega), by omega, ?_, fofn_c h1 h2 hl hj ⟨rfl, rfl⟩ ⟨rfl, rfl⟩⟩
    unfold qv qn qd
    rw [if_pos hj, if_neg (by omega), show (j.natAbs : Int) = -j by omega]
  · refine ⟨_, _, _, _, 1, _, i, 1, h1, (one_zc (b := decide ((1 : Int) < 0)) ⟨rfl, rfl⟩ rfl).le (by omega), by omega, ?_, fof0_c h1 h2 hl hj ⟨rfl, rfl⟩⟩
    unfold qv qn qd
    rw [if_neg (by omega), if_pos hj]
  · refine ⟨_, _, _, _, _, _, i, j, h1, h2.le (by omega), hj, ?_, fofp_c h1 h2 hl hj⟩
    unfold qv qn qd
    rw [if_neg (by omega), if_neg (by omega), show (j.natAbs : Int) = j by omega]
theorem fof_s {π : Pi} (h : Good TT π) {K : List DV → Prop} {q : Rat} {l : Nat} (hz : Qr s xs s' ys q l) (hl : l ≤ 100000)
    (hk : ∀ b t1 z1 b' t2 z2 n d, Zr b z1 n l → Zr b' z2 d (max l 1) → 0 < d → q = Rat.divInt n d → K [qa b t1 z1 b' t2 z2]) : π.call 43 [qa s t xs s' t' ys] K := by
  obtain ⟨b, t1, z1, b', t2, z2, n, d, h1, h2, h3, h4, h5⟩ := fof_e (t := t) (t' := t') hz hl
  exact h.call' _ h5 (hk _ _ _ _ _ _ _ _ h1 h2 h3 h4)
theorem divInt_num {n d : Int} (hd : 0 < d) : (Rat.divInt n d).num = n / (Int.gcd n d : Int) := by
  rw [Rat.num_divInt, Int.sign_eq_one_of_pos hd, Int.one_mul, Int.gcd_comm]
theorem divInt_den {n d : Int} (hd : 0 < d) : ((Rat.divInt n d).den : Int) = d / (Int.gcd n d : Int) := by
  rw [Rat.den_divInt, if_neg (by omega), Int.natCast_ediv, Int.gcd_comm, show (d.natAbs : Int) = d by omega]
theorem gcd_pos {n d : Int} (hd : 0 < d) : 0 < (Int.gcd n d : Int) := by
  have := Int.gcd_pos_of_ne_zero_right n (show d ≠ 0 by omega)
  omega
theorem fleast_c {n d : Int} {l : Nat} {b b' : Bool} {zs zs' : List (List D)} (hz : Zr s xs n l) (hz' : Zr s' ys d l) (hl : l ≤ 10000) (hd : 0 < d) (hq : Qc b zs b' zs' (Rat.divInt n d)) : TT 75 [qa s t xs s' t' ys] [qa b 1 zs b' 1 zs'] := by
  refine con Tryz.func75 rfl (by kernel_rfl) (by kernel_rfl) fun π Q h hQ => ?_
  have l1 := hz.len
  have l2 := hz'.len
  have hg := gcd_pos (n := n) hd
  have lg : (dg BW ((Int.gcd n d : Int)).natAbs).length ≤ l := by
    rw [Int.natAbs_natCast]
    exact Nat.le_trans (dg_len_mono BW2 (by have := Nat.le_of_dvd (by omega) (Int.gcd_dvd_natAbs_right n d); exact this)) l2
  have ed := divInt_den (n := n) hd
  have ld : (dg BW (d / (Int.gcd n d : Int)).natAbs).length ≤ l := by
    rw [← ed, Int.natAbs_natCast]
    refine Nat.le_trans (dg_len_mono BW2 ?_) l2
    have h1 : d / (Int.gcd n d : Int) ≤ d := Int.ediv_le_self _ (by omega)
    omega
  obtain ⟨hq1, hq2⟩ := hq
  rw [divInt_num hd] at hq1
  cbv
  skip
  refine gcd_s h hz hz' (by omega) (by omega) fun _ _ z1 => ?_
  cbv
  skip
  refine divMod_s h hz z1.r (by omega) (by omega) fun _ _ _ _ e z2 z3 he => ?_
  obtain ⟨rfl, rfl⟩ := z2.uni hq1
  cbv
  skip
  refine divMod_s h hz' z1.r (by omega) (by omega) fun b4 y4 _ _ e' z4 z5 he' => ?_
  cbv
  skip
  refine fromInt64_s h (by (simp only [inR, cmpP, loOk, hiOk, Int.ofNat_eq_natCast, Int.negSucc_eq, IntKind.bits, Int.toNat_natCast, ge_iff_le, gt_iff_lt, ne_eq, wl_len, hl_len, natCast_fold, not_true_eq_false, not_false_eq_true] at * <;> omega)) fun _ _ z6 => ?_
  cbv
  skip
  refine cmp2_s h z4.r (one_zc z6 rfl) (by omega) (by omega) fun c hc => ?_
  have d1 := sgnV_cases (d / (Int.gcd n d : Int) - 1)
  cbv
  refine h.dec rfl (fun hp => ?_) (fun hp => ?_)
  · have e1 : (Rat.divInt n d).den = 1 := by (simp only [inR, cmpP, loOk, hiOk, Int.ofNat_eq_natCast, Int.negSucc_eq, IntKind.bits, Int.toNat_natCast, ge_iff_le, gt_iff_lt, ne_eq, wl_len, hl_len, natCast_fold, not_true_eq_false, not_false_eq_true] at * <;> omega)
    rw [if_pos e1] at hq2
    rw [hq2.1, hq2.2] at hQ
    cbv
    (refine Good.chk' ‹_› rfl ?_; cbv)
    exact hQ
  · have e1 : (Rat.divInt n d).den ≠ 1 := by (simp only [inR, cmpP, loOk, hiOk, Int.ofNat_eq_natCast, Int.negSucc_eq, IntKind.bits, Int.toNat_natCast, ge_iff_le, gt_iff_lt, ne_eq, wl_len, hl_len, natCast_fold, not_true_eq_false, not_false_eq_true] at * <;> omega)
    rw [if_neg e1, ed] at hq2
    obtain ⟨rfl, rfl⟩ := z4.uni hq2
    cbv
    (refine Good.chk' ‹_› rfl ?_; cbv)
    exact hQ
end Go.Proofs.YtpmlocilhhjifaaGreat.Eng
end
section
set_option maxRecDepth 100000
set_option linter.unusedSimpArgs false
set_option linter.unusedVariables false
set_option pp.maxSteps 200
namespace Go.Proofs.YtpmlocilhhjifaaGreat.Eng
open Go.RowKit
theorem ll_add (i j : Int) : (dg BW (i + j).natAbs).length ≤ max (dg BW i.natAbs).length (dg BW j.natAbs).length + 1 :=
  Nat.le_trans (dg_len_mono BW2 (show (i + j).natAbs ≤ i.natAbs + j.natAbs by omega)) (dg_len_add BW2 _ _)
theorem ll_mul (i j : Int) : (dg BW (i * j).natAbs).length ≤ (dg BW i.natAbs).length + (dg BW j.natAbs).length := by
  rw [Int.natAbs_mul]
  exact dg_len_mul BW2 _ _
theorem ll_abs (i : Int) : (dg BW ((i.natAbs : Int)).natAbs).length = (dg BW i.natAbs).length := by rw [Int.natAbs_natCast]
variable {s1 s2 s3 s4 : Bool} {t1 t2 t3 t4 : Nat} {x1 x2 x3 x4 : List (List D)} {n1 d1 n2 d2 : Int} {l : Nat} {b b' : Bool} {zs zs' : List (List D)}
theorem dadd_c (h1 : Zr s1 x1 n1 l) (h2 : Zr s2 x2 d1 l) (h3 : Zr s3 x3 n2 l) (h4 : Zr s4 x4 d2 l) (hl : l ≤ 10000) (hz : Zc b zs (n1 * d2 + n2 * d1)) (hz' : Zc b' zs' (d1 * d2)) :
    TT 70 [qa s1 t1 x1 s2 t2 x2, qa s3 t3 x3 s4 t4 x4] [qa b 1 zs b' 1 zs'] := by
  refine con Tryz.func70 rfl (by kernel_rfl) (by kernel_rfl) fun π Q h hQ => ?_
  have e1 := h1.len
  have e2 := h2.len
  have e3 := h3.len
  have e4 := h4.len
  have m1 := ll_mul n1 d2
  have m2 := ll_mul n2 d1
  cbv
  skip
  refine mul2_s h h1 h4 (by omega) (by omega) fun _ _ z1 => ?_
  cbv
  skip
  refine mul2_s h h3 h2 (by omega) (by omega) fun _ _ z2 => ?_
  cbv
  skip
  refine add2_s h z1.r z2.r (by omega) (by omega) fun _ _ z3 => ?_
  obtain ⟨rfl, rfl⟩ := z3.uni hz
  cbv
  skip
  refine mul2_s h h2 h4 (by omega) (by omega) fun _ _ z4 => ?_
  obtain ⟨rfl, rfl⟩ := z4.uni hz'
  cbv
  (refine Good.chk' ‹_› rfl ?_; cbv)
  exact hQ
theorem dsub_c (h1 : Zr s1 x1 n1 l) (h2 : Zr s2 x2 d1 l) (h3 : Zr s3 x3 n2 l) (h4 : Zr s4 x4 d2 l) (hl : l ≤ 10000) (hz : Zc b zs (n1 * d2 - n2 * d1)) (hz' : Zc b' zs' (d1 * d2)) :
    TT 72 [qa s1 t1 x1 s2 t2 x2, qa s3 t3 x3 s4 t4 x4] [qa b 1 zs b' 1 zs'] := by
  refine con Tryz.func72 rfl (by kernel_rfl) (by kernel_rfl) fun π Q h hQ => ?_
  have e1 := h1.len
  have e2 := h2.len
  have e3 := h3.len
  have e4 := h4.len
  have m1 := ll_mul n1 d2
  have m2 := ll_mul n2 d1
  cbv
  skip
  refine mul2_s h h1 h4 (by omega) (by omega) fun _ _ z1 => ?_
  cbv
  skip
  refine mul2_s h h3 h2 (by omega) (by omega) fun _ _ z2 => ?_
  cbv
  skip
  refine sub2_s h z1.r z2.r (by omega) (by omega) fun _ _ z3 => ?_
  obtain ⟨rfl, rfl⟩ := z3.uni hz
  cbv
  skip
  refine mul2_s h h2 h4 (by omega) (by omega) fun _ _ z4 => ?_
  obtain ⟨rfl, rfl⟩ := z4.uni hz'
  cbv
  (refine Good.chk' ‹_› rfl ?_; cbv)
  exact hQ
theorem dmul_c (h1 : Zr s1 x1 n1 l) (h2 : Zr s2 x2 d1 l) (h3 : Zr s3 x3 n2 l) (h4 : Zr s4 x4 d2 l) (hl : l ≤ 10000) (hz : Zc b zs (n1 * n2)) (hz' : Zc b' zs' (d1 * d2)) :
    TT 73 [qa s1 t1 x1 s2 t2 x2, qa s3 t3 x3 s4 t4 x4] [qa b 1 zs b' 1 zs'] := by
  refine con Tryz.func73 rfl (by kernel_rfl) (by kernel_rfl) fun π Q h hQ => ?_
  cbv
  skip
  refine mul2_s h h1 h3 (by omega) (by omega) fun _ _ z1 => ?_
  obtain ⟨rfl, rfl⟩ := z1.uni hz
  cbv
  skip
  refine mul2_s h h2 h4 (by omega) (by omega) fun _ _ z4 => ?_
  obtain ⟨rfl, rfl⟩ := z4.uni hz'
  cbv
  (refine Good.chk' ‹_› rfl ?_; cbv)
  exact hQ
/-- The quotient's parts, n2 not 0. -/
theorem ddiv_e (h1 : Zr s1 x1 n1 l) (h2 : Zr s2 x2 d1 l) (h3 : Zr s3 x3 n2 l) (h4 : Zr s4 x4 d2 l) (hl : l ≤ 10000) (hn : n2 ≠ 0) (hd1 : 0 < d1) (hd2 : 0 < d2) :
    ∃ b u1 z1 b' u2 z2 n d, Zr b z1 n (2 * l + 1) ∧ Zr b' z2 d (2 * l + 1) ∧ 0 < d ∧ Rat.divInt n1 d1 / Rat.divInt n2 d2 = Rat.divInt n d ∧ TT 74 [qa s1 t1 x1 s2 t2 x2, qa s3 t3 x3 s4 t4 x4] [qa b u1 z1 b' u2 z2] := by
  have e1 := h1.len
  have e2 := h2.len
  have e3 := h3.len
  have e4 := h4.len
  have m1 := ll_mul n1 d2
  have m2 := ll_mul d1 n2
  obtain ⟨bn, zn, hzn⟩ : ∃ b z, Zc b z (n1 * d2) := ⟨_, _, rfl, rfl⟩
  obtain ⟨bd, zd, hzd⟩ : ∃ b z, Zc b z (d1 * n2) := ⟨_, _, rfl, rfl⟩
  have hq : Qr bn zn bd zd (qv (n1 * d2) (d1 * n2)) (2 * l) := ⟨_, _, hzn.r.le (by omega), hzd.r.le (by omega), rfl⟩
  obtain ⟨c, u1, z1, c', u2, z2, n, d, g1, g2, g3, g4, g5⟩ := fof_e (t := 1) (t' := 1) hq (by omega)
  refine ⟨c, u1, z1, c', u2, z2, n, d, g1.le (by omega), g2.le (by omega), g3, ?_, ?_⟩
  · rw [← g4]
    have hnz : d1 * n2 ≠ 0 := Int.mul_ne_zero (by omega) hn
    rw [Rat.div_def, Rat.inv_divInt, Rat.divInt_mul_divInt]
    unfold qv qn qd
    rw [if_neg hnz]
    by_cases hs : d1 * n2 < 0
    · rw [if_pos hs, show ((d1 * n2).natAbs : Int) = -(d1 * n2) by omega, Rat.neg_divInt_neg]
    · rw [if_neg hs, show ((d1 * n2).natAbs : Int) = d1 * n2 by omega]
  · refine con Tryz.func74 rfl (by kernel_rfl) (by kernel_rfl) fun π Q h hQ => ?_
    cbv
    skip
    refine mul2_s h h1 h4 (by omega) (by omega) fun _ _ z1 => ?_
    obtain ⟨rfl, rfl⟩ := z1.uni hzn
    cbv
    skip
    refine mul2_s h h2 h3 (by omega) (by omega) fun _ _ z4 => ?_
    obtain ⟨rfl, rfl⟩ := z4.uni hzd
    cbv
    skip
    refine h.call' _ g5 ?_
    cbv
    (refine Good.chk' ‹_› rfl ?_; cbv)
    exact hQ
end Go.Proofs.YtpmlocilhhjifaaGreat.Eng
end
