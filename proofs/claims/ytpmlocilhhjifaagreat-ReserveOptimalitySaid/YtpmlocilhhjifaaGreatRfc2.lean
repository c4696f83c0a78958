/- The reference of chapter 2: the rest. -/
import Derived.Test.YtpmlocilhhjifaaGreatRfc1
import Derived.Test.YtpmlocilhhjifaaGreatFrc5
set_option maxRecDepth 100000
set_option linter.unusedSimpArgs false
set_option linter.unusedVariables false
set_option pp.maxSteps 200
namespace Go.Proofs.YtpmlocilhhjifaaGreat.Eng
open Go.RowKit Go.Proofs
def jq (p : Rat) : Int := if p.den = 1 then 0 else (p.den : Int)
theorem Qc.snd {b : Bool} {z : List (List D)} {b' : Bool} {z' : List (List D)} {p : Rat} (h : Qc b z b' z' p) : Zc b' z' (jq p) := by
  have h2 := h.2
  unfold jq
  by_cases hd : p.den = 1
  · rw [if_pos hd] at h2 ⊢
    rw [h2.1, h2.2]
    exact ⟨rfl, by rw [show (0 : Int).natAbs = 0 from rfl, dg_zero]; rfl⟩
  · rw [if_neg hd] at h2 ⊢
    exact h2
theorem jq_len (p : Rat) : (dg BW (jq p).natAbs).length ≤ ql p := by
  unfold jq ql
  split
  · rw [show (0 : Int).natAbs = 0 from rfl, dg_zero]; exact Nat.zero_le _
  · rw [Int.natAbs_natCast]; omega
theorem num_len (p : Rat) : (dg BW p.num.natAbs).length ≤ ql p := by unfold ql; omega
theorem rat_ext {p q : Rat} (h1 : p.num = q.num) (h2 : jq p = jq q) : p = q := by
  have := p.den_nz
  have := q.den_nz
  refine Rat.ext h1 ?_
  unfold jq at h2
  split at h2 <;> split at h2 <;> omega
variable {s1 s2 s3 s4 : Bool} {t1 t2 t3 t4 : Nat} {x1 x2 x3 x4 : List (List D)} {p q : Rat} {l : Nat} {b b' : Bool} {zs zs' : List (List D)} {i j i' j' n d : Int}
theorem is2_c (h1 : Zc s1 x1 i) (h2 : Zc s2 x2 j) (h3 : Zc s3 x3 i') (h4 : Zc s4 x4 j') (l1 : (dg BW i.natAbs).length ≤ 10000) (l2 : (dg BW j.natAbs).length ≤ 10000) (l3 : (dg BW i'.natAbs).length ≤ 10000) (l4 : (dg BW j'.natAbs).length ≤ 10000) {c : Bool} (hc : c = decide (i = i' ∧ j = j')) :
    TT 22 [qa s1 t1 x1 s2 t2 x2, qa s3 t3 x3 s4 t4 x4] [.one (.sc (.bool c))] := by
  refine con Tryz.func22 rfl (by kernel_rfl) (by kernel_rfl) fun π Q h hQ => ?_
  cbv
  skip
  refine same_z h h1 h3 (by omega) (by omega) fun c1 hc1 => ?_
  by_cases e1 : i = i'
  · have : c1 = true := by rw [hc1, decide_eq_true_eq]; exact e1
    subst this
    cbv
    skip
    refine same_z h h2 h4 (by omega) (by omega) fun c2 hc2 => ?_
    have : c2 = c := by rw [hc2, hc]; simp [e1]
    subst this
    cbv
    skip
    exact hQ
  · have : c1 = false := by rw [hc1, decide_eq_false_iff_not]; exact e1
    subst this
    have : c = false := by rw [hc, decide_eq_false_iff_not]; exact fun e => e1 e.1
    subst this
    cbv
    skip
    exact hQ
theorem is_q {π : Pi} (h : Good TT π) {K : List DV → Prop} (ha : Qc s1 x1 s2 x2 p) (hb : Qc s3 x3 s4 x4 q) (hl : ql p ≤ 10000) (hl' : ql q ≤ 10000) (hk : ∀ c, c = decide (p = q) → K [.one (.sc (.bool c))]) : π.call 22 [qa s1 t1 x1 s2 t2 x2, qa s3 t3 x3 s4 t4 x4] K := by
  have l1 := num_len p
  have l2 := num_len q
  have l3 := jq_len p
  have l4 := jq_len q
  refine h.call' _ (is2_c (c := decide (p = q)) ha.1 ha.snd hb.1 hb.snd (by omega) (by omega) (by omega) (by omega) ?_) (hk _ rfl)
  congr 1
  exact propext ⟨fun e => by rw [e]; exact ⟨rfl, rfl⟩, fun e => rat_ext e.1 e.2⟩
theorem rrsub_c (ha : Qr s1 x1 s2 x2 p l) (hb : Qr s3 x3 s4 x4 q l) (hl : l ≤ 900) (hq : Qc b zs b' zs' (p - q)) : TT 51 [qa s1 t1 x1 s2 t2 x2, qa s3 t3 x3 s4 t4 x4] [qa b 1 zs b' 1 zs'] := by
  obtain ⟨c1, z1, c2, z2, hn⟩ := qcx (-q)
  have h1 := hb.ql
  have h2 := ql_neg q
  rw [Rat.sub_eq_add_neg] at hq
  refine con Tryz.func51 rfl (by kernel_rfl) (by kernel_rfl) fun π Q h hQ => ?_
  cbv
  refine h.call' _ (rrneg_c hb (by omega) hn) ?_
  cbv
  skip
  refine h.call' _ (rradd_c (l := max l 1) (ha.le (by omega)) (hn.r.le (by omega)) (by omega) hq) ?_
  cbv
  (refine Good.chk' ‹_› rfl ?_; cbv)
  exact hQ
theorem rrsign_c (ha : Qr s1 x1 s2 x2 p l) (hl : l ≤ 10000) {c : Int} (hc : c = sgnQ p) : TT 52 [qa s1 t1 x1 s2 t2 x2] [.one (.sc (.int .i64 c))] := by
  obtain ⟨i, j, h1, h2, rfl⟩ := ha
  obtain ⟨bn, zn, hn⟩ := zcx (qn i j)
  have e1 := qn_len i j
  have e3 := h1.len
  refine con Tryz.func52 rfl (by kernel_rfl) (by kernel_rfl) fun π Q h hQ => ?_
  cbv
  refine h.call' _ (rnum_c h1 h2 (by omega) hn) ?_
  cbv
  skip
  refine rsign_s h hn.r (by omega) fun c' hc' => ?_
  have : c' = c := by rw [hc', hc, qv, sgnQ_div (qd_pos j)]
  subst this
  cbv
  skip
  exact hQ
theorem rrcmp_c (ha : Qr s1 x1 s2 x2 p l) (hb : Qr s3 x3 s4 x4 q l) (hl : l ≤ 900) {c : Int} (hc : c = sgnQ (p - q)) : TT 77 [qa s1 t1 x1 s2 t2 x2, qa s3 t3 x3 s4 t4 x4] [.one (.sc (.int .i64 c))] := by
  obtain ⟨c1, z1, c2, z2, hn⟩ := qcx (p - q)
  have h1 := ha.ql
  have h2 := hb.ql
  have h3 := ql_sub p q
  refine con Tryz.func77 rfl (by kernel_rfl) (by kernel_rfl) fun π Q h hQ => ?_
  cbv
  refine h.call' _ (rrsub_c ha hb (by omega) hn) ?_
  cbv
  skip
  refine h.call' _ (rrsign_c hn.r (by omega) hc) ?_
  cbv
  skip
  exact hQ
theorem rrmin_c (ha : Qr s1 x1 s2 x2 p l) (hb : Qr s3 x3 s4 x4 q l) (hl : l ≤ 900) (hq : Qc b zs b' zs' (if sgnQ (p - q) ≤ 0 then p else q)) : TT 49 [qa s1 t1 x1 s2 t2 x2, qa s3 t3 x3 s4 t4 x4] [qa b 1 zs b' 1 zs'] := by
  refine con Tryz.func49 rfl (by kernel_rfl) (by kernel_rfl) fun π Q h hQ => ?_
  cbv
  refine h.call' _ (rrcmp_c (c := sgnQ (p - q)) ha hb hl rfl) ?_
  obtain ⟨c', hc'⟩ : ∃ c', c' = sgnQ (p - q) := ⟨_, rfl⟩
  rw [← hc'] at hq ⊢
  cbv
  refine h.dec rfl (fun hp => ?_) (fun hp => ?_)
  · rw [if_pos (by (simp only [inR, cmpP, loOk, hiOk, Int.ofNat_eq_natCast, Int.negSucc_eq, IntKind.bits, Int.toNat_natCast, ge_iff_le, gt_iff_lt, ne_eq, wl_len, hl_len, natCast_fold, not_true_eq_false, not_false_eq_true] at * <;> omega))] at hq
    cbv
    refine h.call' _ (rleast_c ha (by omega) hq) ?_
    cbv
    skip
    exact hQ
  · rw [if_neg (by (simp only [inR, cmpP, loOk, hiOk, Int.ofNat_eq_natCast, Int.negSucc_eq, IntKind.bits, Int.toNat_natCast, ge_iff_le, gt_iff_lt, ne_eq, wl_len, hl_len, natCast_fold, not_true_eq_false, not_false_eq_true] at * <;> omega))] at hq
    cbv
    refine h.call' _ (rleast_c hb (by omega) hq) ?_
    cbv
    skip
    exact hQ
theorem rrmul_c (ha : Qr s1 x1 s2 x2 p l) (hb : Qr s3 x3 s4 x4 q l) (hl : l ≤ 1000) (hq : Qc b zs b' zs' (p * q)) : TT 54 [qa s1 t1 x1 s2 t2 x2, qa s3 t3 x3 s4 t4 x4] [qa b 1 zs b' 1 zs'] := by
  obtain ⟨i, j, h1, h2, rfl⟩ := ha
  obtain ⟨i', j', h3, h4, rfl⟩ := hb
  obtain ⟨bn, zn, hn⟩ := zcx (qn i j)
  obtain ⟨bd, zd, hd⟩ := zcx (qd j)
  obtain ⟨bn', zn', hn'⟩ := zcx (qn i' j')
  obtain ⟨bd', zd', hd'⟩ := zcx (qd j')
  have e1 := qn_len i j
  have e2 := qd_len j
  have e3 := h1.len
  have e4 := h2.len
  have e5 := qn_len i' j'
  have e6 := qd_len j'
  have e7 := h3.len
  have e8 := h4.len
  have p1 := qd_pos j
  have p2 := qd_pos j'
  have m1 := ll_mul (qn i j) (qn i' j')
  have m3 := ll_mul (qd j) (qd j')
  unfold qv at hq
  rw [Rat.divInt_mul_divInt] at hq
  refine con Tryz.func54 rfl (by kernel_rfl) (by kernel_rfl) fun π Q h hQ => ?_
  cbv
  refine h.call' _ (rnum_c h1 h2 (by omega) hn) ?_
  cbv
  refine h.call' _ (rnum_c h3 h4 (by omega) hn') ?_
  cbv
  refine rmul2_s h hn.r hn'.r (by omega) (by omega) fun _ _ w1 => ?_
  cbv
  refine h.call' _ (rden_c h1 h2 (by omega) hd) ?_
  cbv
  refine h.call' _ (rden_c h3 h4 (by omega) hd') ?_
  cbv
  refine rmul2_s h hd.r hd'.r (by omega) (by omega) fun _ _ w4 => ?_
  cbv
  skip
  refine h.call' _ (over_c (l := 2 * l + 3) (w1.r.le (by omega)) (w4.r.le (by omega)) (by omega) (Int.mul_pos p1 p2) hq) ?_
  cbv
  (refine Good.chk' ‹_› rfl ?_; cbv)
  exact hQ
theorem rrint_c {n : Int} (hn : inR .i64 n) (hz : Zc b zs n) : TT 28 [.one (.sc (.int .i64 n))] [qa b 1 zs false 1 []] := by
  refine con Tryz.func28 rfl (by kernel_rfl) (by kernel_rfl) fun π Q h hQ => ?_
  cbv
  refine rfrom_s h hn fun _ _ w1 => ?_
  obtain ⟨rfl, rfl⟩ := w1.uni hz
  cbv
  skip
  exact hQ
theorem rrof_c {n d : Int} (hn : inR .i64 n) (hd : inR .i64 d) (hq : Qc b zs b' zs' (qv n d)) : TT 29 [.one (.sc (.int .i64 n)), .one (.sc (.int .i64 d))] [qa b 1 zs b' 1 zs'] := by
  have l2 : ∀ {n : Int}, inR .i64 n → (dg BW n.natAbs).length ≤ 2 := fun {n} hn => by
    refine dg_len BW2 ?_
    have : BW ^ 2 = 18446744073709551616 := by decide
    rw [this]
    simp only [inR] at hn
    omega
  have e1 := l2 hn
  have e2 := l2 hd
  refine con Tryz.func29 rfl (by kernel_rfl) (by kernel_rfl) fun π Q h hQ => ?_
  cbv
  refine rfrom_s h hn fun _ _ w1 => ?_
  cbv
  skip
  refine rfrom_s h hd fun _ _ w2 => ?_
  cbv
  skip
  refine h.call' _ (rleast_c (l := 2) ⟨n, d, w1.r.le e1, w2.r.le e2, rfl⟩ (by decide) hq) ?_
  cbv
  skip
  exact hQ
theorem inv_qv (i j : Int) (h : qv i j ≠ 0) : qv (qd j) (qn i j) = 1 / qv i j := by
  have hn : qn i j ≠ 0 := fun e => h (by unfold qv; rw [e, Rat.zero_divInt])
  have e1 : 1 / qv i j = Rat.divInt (qd j) (qn i j) := by
    rw [Rat.div_def, Rat.one_mul]
    conv => lhs; unfold qv
    rw [Rat.inv_divInt]
  rw [e1]
  have hd := qd_pos j
  generalize qn i j = n at *
  generalize qd j = d at *
  conv => lhs; unfold qv
  have e2 : qd n = (n.natAbs : Int) := by unfold qd; rw [if_neg hn]
  rw [e2]
  unfold qn
  by_cases hs : n < 0
  · rw [if_pos hs, show (n.natAbs : Int) = -n by omega, Rat.neg_divInt_neg]
  · rw [if_neg hs, show (n.natAbs : Int) = n by omega]
end Go.Proofs.YtpmlocilhhjifaaGreat.Eng
