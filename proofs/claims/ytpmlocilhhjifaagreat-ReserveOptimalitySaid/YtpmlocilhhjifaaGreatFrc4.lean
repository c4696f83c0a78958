/- Package frac: the functions. -/
import Derived.Test.YtpmlocilhhjifaaGreatFrc3
set_option maxRecDepth 100000
set_option linter.unusedSimpArgs false
set_option linter.unusedVariables false
set_option pp.maxSteps 200
namespace Go.Proofs.YtpmlocilhhjifaaGreat.Eng
open Go.RowKit Go.Proofs
variable {s1 s2 s3 s4 : Bool} {t1 t2 t3 t4 : Nat} {x1 x2 x3 x4 : List (List D)} {p q : Rat} {l : Nat} {b b' : Bool} {zs zs' : List (List D)}
theorem fsub_c (ha : Qr s1 x1 s2 x2 p l) (hb : Qr s3 x3 s4 x4 q l) (hl : l ≤ 1000) (hq : Qc b zs b' zs' (p - q)) : TT 40 [qa s1 t1 x1 s2 t2 x2, qa s3 t3 x3 s4 t4 x4] [qa b 1 zs b' 1 zs'] := by
  obtain ⟨c1, v1, z1, c2, v2, z2, n1, d1, g1, g2, g3, g4, g5⟩ := fof_e (t := t1) (t' := t2) ha (by omega)
  obtain ⟨c3, v3, z3, c4, v4, z4, n2, d2, k1, k2, k3, k4, k5⟩ := fof_e (t := t3) (t' := t4) hb (by omega)
  obtain ⟨bn, zn, hzn⟩ : ∃ b z, Zc b z (n1 * d2 - n2 * d1) := ⟨_, _, rfl, rfl⟩
  obtain ⟨bd, zd, hzd⟩ : ∃ b z, Zc b z (d1 * d2) := ⟨_, _, rfl, rfl⟩
  have e1 := g1.len
  have e2 := g2.len
  have e3 := k1.len
  have e4 := k2.len
  have m1 := ll_mul n1 d2
  have m2 := ll_mul n2 d1
  have m3 := ll_mul d1 d2
  have m4 := dg_len_sub (n1 * d2) (n2 * d1)
  rw [g4, k4, Rat.divInt_sub_divInt _ _ (by omega) (by omega)] at hq
  refine con Tryz.func40 rfl (by kernel_rfl) (by kernel_rfl) fun π Q h hQ => ?_
  cbv
  refine h.call' _ (does_c (f := 72) (i := 1) rfl (enters_of Tryz.func72 (by kernel_rfl) rfl) (by kernel_rfl) g5 k5 (dsub_c (l := max l 1) (g1.le (by omega)) g2 (k1.le (by omega)) k2 (by omega) hzn hzd) (fleast_c (l := 2 * l + 3) (hzn.r.le (by omega)) (hzd.r.le (by omega)) (by omega) (Int.mul_pos g3 k3) hq)) ?_
  cbv
  skip
  exact hQ
theorem fmul_c (ha : Qr s1 x1 s2 x2 p l) (hb : Qr s3 x3 s4 x4 q l) (hl : l ≤ 1000) (hq : Qc b zs b' zs' (p * q)) : TT 19 [qa s1 t1 x1 s2 t2 x2, qa s3 t3 x3 s4 t4 x4] [qa b 1 zs b' 1 zs'] := by
  obtain ⟨c1, v1, z1, c2, v2, z2, n1, d1, g1, g2, g3, g4, g5⟩ := fof_e (t := t1) (t' := t2) ha (by omega)
  obtain ⟨c3, v3, z3, c4, v4, z4, n2, d2, k1, k2, k3, k4, k5⟩ := fof_e (t := t3) (t' := t4) hb (by omega)
  obtain ⟨bn, zn, hzn⟩ : ∃ b z, Zc b z (n1 * n2) := ⟨_, _, rfl, rfl⟩
  obtain ⟨bd, zd, hzd⟩ : ∃ b z, Zc b z (d1 * d2) := ⟨_, _, rfl, rfl⟩
  have e1 := g1.len
  have e2 := g2.len
  have e3 := k1.len
  have e4 := k2.len
  have m1 := ll_mul n1 n2
  have m3 := ll_mul d1 d2
  rw [g4, k4, Rat.divInt_mul_divInt _ _] at hq
  refine con Tryz.func19 rfl (by kernel_rfl) (by kernel_rfl) fun π Q h hQ => ?_
  cbv
  refine h.call' _ (does_c (f := 73) (i := 2) rfl (enters_of Tryz.func73 (by kernel_rfl) rfl) (by kernel_rfl) g5 k5 (dmul_c (l := max l 1) (g1.le (by omega)) g2 (k1.le (by omega)) k2 (by omega) hzn hzd) (fleast_c (l := 2 * l + 3) (hzn.r.le (by omega)) (hzd.r.le (by omega)) (by omega) (Int.mul_pos g3 k3) hq)) ?_
  cbv
  skip
  exact hQ
def sgnQ (q : Rat) : Int := sgnV q.num
theorem sgnQ_div {n d : Int} (hd : 0 < d) : sgnQ (Rat.divInt n d) = sgnV n := by
  unfold sgnQ
  rw [divInt_num hd]
  have hg := gcd_pos (n := n) hd
  have e := Int.ediv_mul_cancel (Int.gcd_dvd_left n d)
  have d1 := sgnV_cases n
  have d2 := sgnV_cases (n / (Int.gcd n d : Int))
  rcases Int.lt_trichotomy (n / (Int.gcd n d : Int)) 0 with h | h | h
  · have := Int.mul_neg_of_neg_of_pos h hg
    omega
  · rw [h, Int.zero_mul] at e
    omega
  · have := Int.mul_pos h hg
    omega
theorem sgnQ_cases (q : Rat) : (q < 0 ∧ sgnQ q = -1) ∨ (q = 0 ∧ sgnQ q = 0) ∨ (0 < q ∧ sgnQ q = 1) := by
  unfold sgnQ
  have h1 : q = 0 ↔ q.num = 0 := Rat.num_eq_zero.symm
  have h2 : 0 ≤ q.num ↔ 0 ≤ q := Rat.num_nonneg
  rcases sgnV_cases q.num with ⟨h, e⟩ | ⟨h, e⟩ | ⟨h, e⟩
  · exact .inl ⟨by have : ¬ 0 ≤ q := fun hh => by have := h2.2 hh; omega
                   exact Rat.not_le.1 this, e⟩
  · exact .inr (.inl ⟨h1.2 h, e⟩)
  · refine .inr (.inr ⟨?_, e⟩)
    have h3 : 0 ≤ q := h2.1 (by omega)
    have h4 : q ≠ 0 := fun hh => by have := h1.1 hh; omega
    grind
theorem fsign_c (ha : Qr s1 x1 s2 x2 p l) (hl : l ≤ 10000) {c : Int} (hc : c = sgnQ p) : TT 15 [qa s1 t1 x1 s2 t2 x2] [.one (.sc (.int .i64 c))] := by
  refine con Tryz.func15 rfl (by kernel_rfl) (by kernel_rfl) fun π Q h hQ => ?_
  cbv
  refine fof_s h ha (by omega) fun c1 v1 z1 c2 v2 z2 n1 d1 g1 g2 g3 g4 => ?_
  cbv
  skip
  refine sign_s h g1 (by omega) fun c' hc' => ?_
  have : c' = c := by rw [hc', hc, g4, sgnQ_div g3]
  subst this
  cbv
  skip
  exact hQ
theorem fcmp_c (ha : Qr s1 x1 s2 x2 p l) (hb : Qr s3 x3 s4 x4 q l) (hl : l ≤ 1000) {c : Int} (hc : c = sgnQ (p - q)) : TT 18 [qa s1 t1 x1 s2 t2 x2, qa s3 t3 x3 s4 t4 x4] [.one (.sc (.int .i64 c))] := by
  refine con Tryz.func18 rfl (by kernel_rfl) (by kernel_rfl) fun π Q h hQ => ?_
  cbv
  refine fof_s h ha (by omega) fun c1 v1 z1 c2 v2 z2 n1 d1 g1 g2 g3 g4 => ?_
  cbv
  refine fof_s h hb (by omega) fun c3 v3 z3 c4 v4 z4 n2 d2 k1 k2 k3 k4 => ?_
  have e1 := g1.len
  have e2 := g2.len
  have e3 := k1.len
  have e4 := k2.len
  have m1 := ll_mul n1 d2
  have m2 := ll_mul n2 d1
  cbv
  (refine Good.chk' ‹_› rfl ?_; cbv)
  refine mul2_s h g1 k2 (by omega) (by omega) fun _ _ w1 => ?_
  cbv
  skip
  refine mul2_s h k1 g2 (by omega) (by omega) fun _ _ w2 => ?_
  cbv
  skip
  refine cmp2_s h w1.r w2.r (by omega) (by omega) fun c' hc' => ?_
  have : c' = c := by rw [hc', hc, g4, k4, Rat.divInt_sub_divInt _ _ (by omega) (by omega), sgnQ_div (Int.mul_pos g3 k3)]
  subst this
  cbv
  (refine Good.chk' ‹_› rfl ?_; cbv)
  exact hQ
theorem fcanon_c (ha : Qr s1 x1 s2 x2 p l) (hl : l ≤ 1000) (hq : Qc b zs b' zs' p) : TT 58 [qa s1 t1 x1 s2 t2 x2] [qa b 1 zs b' 1 zs'] := by
  refine con Tryz.func58 rfl (by kernel_rfl) (by kernel_rfl) fun π Q h hQ => ?_
  cbv
  refine fof_s h ha (by omega) fun c1 v1 z1 c2 v2 z2 n1 d1 g1 g2 g3 g4 => ?_
  rw [g4] at hq
  cbv
  refine h.call' _ (fleast_c (l := max l 1) (g1.le (by omega)) g2 (by omega) g3 hq) ?_
  cbv
  skip
  exact hQ
end Go.Proofs.YtpmlocilhhjifaaGreat.Eng
