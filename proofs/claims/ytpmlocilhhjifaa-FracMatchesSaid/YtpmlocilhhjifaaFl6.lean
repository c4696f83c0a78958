/- Chapter 2: FracField. -/
import Derived.Test.YtpmlocilhhjifaaFl5
set_option maxRecDepth 100000
set_option linter.unusedSimpArgs false
set_option linter.unusedVariables false
set_option pp.maxSteps 200
namespace Go.Proofs.Ytpmlocilhhjifaa.Eng
open Go.RowKit Go.Proofs
theorem ql_quot (p : Rat) {q : Rat} (h : q ≠ 0) : ql (p / q) ≤ ql p + max (ql q) 1 := by
  have ec : qv q.num (jq q) = q := qv_canon q
  have e := inv_qv q.num (jq q) (by rw [ec]; exact h)
  rw [ec] at e
  obtain ⟨b, z, hz⟩ := zcx (qd (jq q))
  obtain ⟨b', z', hz'⟩ := zcx (qn q.num (jq q))
  have h1 := qd_len (jq q)
  have h2 := qn_len q.num (jq q)
  have h3 := jq_len q
  have h4 := num_len q
  have hQ : Qr b z b' z' (1 / q) (max (ql q) 1) := ⟨_, _, hz.r.le (by omega), hz'.r.le (by omega), e.symm⟩
  have h5 := hQ.ql
  have h6 := ql_mul p (1 / q)
  rw [show p * (1 / q) = p / q by rw [Rat.div_def, Rat.div_def, Rat.one_mul]] at h6
  omega
theorem qlong_f {zs : List QD} (h : false = zs.any QD.long) : ∀ z ∈ zs, z.xs.length ≤ 6 ∧ z.ys.length ≤ 6 := fun z hz => by
  have h1 := List.any_eq_false.1 h.symm z hz
  have h2 : ¬ (6 < z.xs.length ∨ 6 < z.ys.length) := by simpa [QD.long] using h1
  omega
theorem qr_raw {s s' : Bool} {xs ys : List (List D)} {ws vs : List Nat} (hx : xs = wl ws) (hy : ys = wl vs) (ho : Ok BW ws) (ho' : Ok BW vs) (h : xs.length ≤ 6 ∧ ys.length ≤ 6) : Qr s xs s' ys (qv (sg s (val BW ws)) (sg s' (val BW vs))) 6 :=
  ⟨_, _, ⟨ws, hx, ho, by rw [← wl_len ws, ← hx]; exact h.1, rfl⟩, ⟨vs, hy, ho', by rw [← wl_len vs, ← hy]; exact h.2, rfl⟩, rfl⟩
theorem israw_s {π : Pi} (h : Good TT π) {K : List DV → Prop} {s1 s2 s3 s4 : Bool} {t1 t2 t3 t4 : Nat} {x1 x2 x3 x4 : List (List D)} {w1 w2 w3 w4 : List Nat} (h1 : x1 = wl w1) (h2 : x2 = wl w2) (h3 : x3 = wl w3) (h4 : x4 = wl w4) (l1 : w1.length ≤ 10000) (l2 : w2.length ≤ 10000) (l3 : w3.length ≤ 10000) (l4 : w4.length ≤ 10000)
    (hk : ∀ c, c = decide ((s1 = s3 ∧ w1 = w3) ∧ (s2 = s4 ∧ w2 = w4)) → K [.one (.sc (.bool c))]) : π.call 58 [qa s1 t1 x1 s2 t2 x2, qa s3 t3 x3 s4 t4 x4] K := by
  refine h.call' _ ?_ (hk _ rfl)
  obtain ⟨c, hc⟩ : ∃ c, c = decide ((s1 = s3 ∧ w1 = w3) ∧ (s2 = s4 ∧ w2 = w4)) := ⟨_, rfl⟩
  rw [← hc]
  refine con Try.func58 rfl (by kernel_rfl) (by kernel_rfl) fun π Q h hQ => ?_
  cbv
  skip
  refine same_s h h1 h3 (by omega) (by omega) fun c1 hc1 => ?_
  by_cases e1 : s1 = s3 ∧ w1 = w3
  · have : c1 = true := by rw [hc1]; exact decide_eq_true e1
    subst this
    cbv
    skip
    refine same_s h h2 h4 (by omega) (by omega) fun c2 hc2 => ?_
    have : c2 = c := by
      rw [hc2, hc]
      congr 1
      exact propext ⟨fun e => ⟨e1, e⟩, fun e => e.2⟩
    subst this
    cbv
    skip
    exact hQ
  · have : c1 = false := by rw [hc1]; exact decide_eq_false e1
    subst this
    have : c = false := by rw [hc]; exact decide_eq_false fun e => e1 e.1
    subst this
    cbv
    skip
    exact hQ
theorem sg_zc {s : Bool} {ws : List Nat} {i : Int} (h1 : s = decide (i < 0)) (h2 : ws = dg BW i.natAbs) : sg s (val BW ws) = i := by
  rw [h2, dg_val BW2, h1]
  by_cases hi : i < 0
  · simp [hi, sg]; omega
  · simp [hi, sg]; omega
set_option maxHeartbeats 8000000 in
theorem field_l {s1 s2 s3 s4 s5 s6 : Bool} {t1 t2 t3 t4 t5 t6 : Nat} {x1 x2 x3 x4 x5 x6 : List (List D)} {w1 w2 w3 w4 w5 w6 : List Nat} (h1 : x1 = wl w1) (h2 : x2 = wl w2) (h3 : x3 = wl w3) (h4 : x4 = wl w4) (h5 : x5 = wl w5) (h6 : x6 = wl w6)
    (o1 : Ok BW w1) (o2 : Ok BW w2) (o3 : Ok BW w3) (o4 : Ok BW w4) (o5 : Ok BW w5) (o6 : Ok BW w6) : TT 17 [qa s1 t1 x1 s2 t2 x2, qa s3 t3 x3 s4 t4 x4, qa s5 t5 x5 s6 t6 x6] [.one (.sc (.bool true))] := by
  refine con Try.func17 rfl (by kernel_rfl) (by kernel_rfl) fun π Q h hQ => ?_
  cbv
  skip
  refine qlong_s h [⟨s1, t1, x1, s2, t2, x2⟩, ⟨s3, t3, x3, s4, t4, x4⟩, ⟨s5, t5, x5, s6, t6, x6⟩] rfl (by simp) fun c hc => ?_
  cases c
  · have hl := qlong_f hc
    have a1 := qr_raw (s := s1) (s' := s2) h1 h2 o1 o2 (hl ⟨s1, t1, x1, s2, t2, x2⟩ (by simp))
    have a2 := qr_raw (s := s3) (s' := s4) h3 h4 o3 o4 (hl ⟨s3, t3, x3, s4, t4, x4⟩ (by simp))
    have a3 := qr_raw (s := s5) (s' := s6) h5 h6 o5 o6 (hl ⟨s5, t5, x5, s6, t6, x6⟩ (by simp))
    obtain ⟨p, hp⟩ : ∃ p, p = qv (sg s1 (val BW w1)) (sg s2 (val BW w2)) := ⟨_, rfl⟩
    obtain ⟨q, hq⟩ : ∃ q, q = qv (sg s3 (val BW w3)) (sg s4 (val BW w4)) := ⟨_, rfl⟩
    obtain ⟨r, hr⟩ : ∃ r, r = qv (sg s5 (val BW w5)) (sg s6 (val BW w6)) := ⟨_, rfl⟩
    rw [← hp] at a1
    rw [← hq] at a2
    rw [← hr] at a3
    clear hp hq hr hl hc h1 h2 h3 h4 h5 h6 o1 o2 o3 o4 o5 o6
    have l1 := a1.ql
    have l2 := a2.ql
    have l3 := a3.ql
    have m1 := ql_add p q
    have m2 := ql_add q r
    have m3 := ql_mul p q
    have m4 := ql_mul q r
    have m5 := ql_add q p
    have m6 := ql_mul q p
    have m7 := ql_add (p + q) r
    have m8 := ql_add p (q + r)
    have m9 := ql_mul (p * q) r
    have m10 := ql_mul p (q * r)
    have m11 := ql_mul p (q + r)
    have m12 := ql_mul p r
    have m13 := ql_add (p * q) (p * r)
    have m14 := ql_sub p r
    have m15 := ql_add (p - r) r
    cbv
    skip
    (refine fadd_s h (l := 100) (a1.le (by omega)) (a2.le (by omega)) (by decide) fun _ _ _ _ zs => ?_
     cbv
     skip
    )
    (refine fadd_s h (l := 100) (a2.le (by omega)) (a3.le (by omega)) (by decide) fun _ _ _ _ zt => ?_
     cbv
     (refine Good.chk' ‹_› rfl ?_; cbv)
    )
    (refine fmul_s h (l := 100) (a1.le (by omega)) (a2.le (by omega)) (by decide) fun _ _ _ _ zp => ?_
     cbv
     skip
    )
    (refine fmul_s h (l := 100) (a2.le (by omega)) (a3.le (by omega)) (by decide) fun _ _ _ _ zq => ?_
     cbv
     (refine Good.chk' ‹_› rfl ?_; cbv)
    )
    (refine fadd_s h (l := 100) (a2.le (by omega)) (a1.le (by omega)) (by decide) fun _ _ _ _ z1 => ?_
     cbv
     skip
    )
    (refine fequal_s h (l := 100) (zs.r.le (by omega)) (z1.r.le (by omega)) (by decide) fun c hc => ?_
     have hc : c = true := by rw [hc, decide_eq_true_eq]; exact (Rat.add_comm _ _)
     subst hc
     cbv
     skip
    )
    (refine fmul_s h (l := 100) (a2.le (by omega)) (a1.le (by omega)) (by decide) fun _ _ _ _ z2 => ?_
     cbv
     skip
    )
    (refine fequal_s h (l := 100) (zp.r.le (by omega)) (z2.r.le (by omega)) (by decide) fun c hc => ?_
     have hc : c = true := by rw [hc, decide_eq_true_eq]; exact (Rat.mul_comm _ _)
     subst hc
     cbv
     skip
    )
    (refine fadd_s h (l := 100) (zs.r.le (by omega)) (a3.le (by omega)) (by decide) fun _ _ _ _ z3 => ?_
     cbv
     skip
    )
    (refine fadd_s h (l := 100) (a1.le (by omega)) (zt.r.le (by omega)) (by decide) fun _ _ _ _ z4 => ?_
     cbv
     skip
    )
    (refine fequal_s h (l := 100) (z3.r.le (by omega)) (z4.r.le (by omega)) (by decide) fun c hc => ?_
     have hc : c = true := by rw [hc, decide_eq_true_eq]; exact (Rat.add_assoc _ _ _)
     subst hc
     cbv
     skip
    )
    (refine fmul_s h (l := 100) (zp.r.le (by omega)) (a3.le (by omega)) (by decide) fun _ _ _ _ z5 => ?_
     cbv
     skip
    )
    (refine fmul_s h (l := 100) (a1.le (by omega)) (zq.r.le (by omega)) (by decide) fun _ _ _ _ z6 => ?_
     cbv
     skip
    )
    (refine fequal_s h (l := 100) (z5.r.le (by omega)) (z6.r.le (by omega)) (by decide) fun c hc => ?_
     have hc : c = true := by rw [hc, decide_eq_true_eq]; exact (Rat.mul_assoc _ _ _)
     subst hc
     cbv
     skip
    )
    (refine fmul_s h (l := 100) (a1.le (by omega)) (zt.r.le (by omega)) (by decide) fun _ _ _ _ z7 => ?_
     cbv
     skip
    )
    (refine fmul_s h (l := 100) (a1.le (by omega)) (a3.le (by omega)) (by decide) fun _ _ _ _ z8 => ?_
     cbv
     skip
    )
    (refine fadd_s h (l := 100) (zp.r.le (by omega)) (z8.r.le (by omega)) (by decide) fun _ _ _ _ z9 => ?_
     cbv
     skip
    )
    (refine fequal_s h (l := 100) (z7.r.le (by omega)) (z9.r.le (by omega)) (by decide) fun c hc => ?_
     have hc : c = true := by rw [hc, decide_eq_true_eq]; exact (Rat.mul_add _ _ _)
     subst hc
     cbv
     (refine Good.chk' ‹_› rfl ?_; cbv)
    )
    have d := sgnQ_cases q
    by_cases h0 : q = 0
    · have e0 : (0 : Int) = sgnQ q := by rw [h0]; rfl
      refine h.call' _ (fdiv0_c (l := 100) (a1.le (by omega)) (a2.le (by omega)) (by decide) h0) ?_
      cbv
      skip
      refine h.call' _ (fsign_c (l := 100) (a2.le (by omega)) (by decide) e0) ?_
      cbv
      (refine Good.yes ‹_› ?_ ?_; (· (simp only [inR, cmpP, loOk, hiOk, Int.ofNat_eq_natCast, Int.negSucc_eq, IntKind.bits, Int.toNat_natCast, ge_iff_le, gt_iff_lt, ne_eq, wl_len, hl_len, natCast_fold, not_true_eq_false, not_false_eq_true] at * <;> omega)); cbv; refine Good.yes ‹_› ?_ ?_; (· (simp only [inR, cmpP, loOk, hiOk, Int.ofNat_eq_natCast, Int.negSucc_eq, IntKind.bits, Int.toNat_natCast, ge_iff_le, gt_iff_lt, ne_eq, wl_len, hl_len, natCast_fold, not_true_eq_false, not_false_eq_true] at * <;> omega)); cbv)
      refine h.call' _ qalive_c ?_
      cbv
      skip
      exact hQ
    · have m16 := ql_quot p h0
      have m17 := ql_mul (p / q) q
      obtain ⟨c', hc'⟩ : ∃ c', c' = sgnQ q := ⟨_, rfl⟩
      have hc0 : c' ≠ 0 := by
        rcases d with ⟨_, h⟩ | ⟨h, _⟩ | ⟨_, h⟩
        · omega
        · exact absurd h h0
        · omega
      refine fdiv_s h (l := 100) (a1.le (by omega)) (a2.le (by omega)) (by decide) h0 fun _ _ _ _ zd => ?_
      cbv
      skip
      refine h.call' _ (fsign_c (l := 100) (a2.le (by omega)) (by decide) hc') ?_
      cbv
      (refine Good.no ‹_› rfl ?_ ?_; (· (simp only [inR, cmpP, loOk, hiOk, Int.ofNat_eq_natCast, Int.negSucc_eq, IntKind.bits, Int.toNat_natCast, ge_iff_le, gt_iff_lt, ne_eq, wl_len, hl_len, natCast_fold, not_true_eq_false, not_false_eq_true] at * <;> omega)); cbv; refine Good.yes ‹_› ?_ ?_; (· (simp only [inR, cmpP, loOk, hiOk, Int.ofNat_eq_natCast, Int.negSucc_eq, IntKind.bits, Int.toNat_natCast, ge_iff_le, gt_iff_lt, ne_eq, wl_len, hl_len, natCast_fold, not_true_eq_false, not_false_eq_true] at * <;> omega)); cbv)
      (refine fmul_s h (l := 100) (zd.r.le (by omega)) (a2.le (by omega)) (by decide) fun _ _ _ _ z10 => ?_
       cbv
       skip
      )
      (refine fequal_s h (l := 100) (z10.r.le (by omega)) (a1.le (by omega)) (by decide) fun c hc => ?_
       have hc : c = true := by rw [hc, decide_eq_true_eq]; exact (by grind)
       subst hc
       cbv
       skip
      )
      (refine fsub_s h (l := 100) (a1.le (by omega)) (a3.le (by omega)) (by decide) fun _ _ _ _ z11 => ?_
       cbv
       skip
      )
      (refine fadd_s h (l := 100) (z11.r.le (by omega)) (a3.le (by omega)) (by decide) fun _ _ _ _ z12 => ?_
       cbv
       skip
      )
      (refine fequal_s h (l := 100) (z12.r.le (by omega)) (a1.le (by omega)) (by decide) fun c hc => ?_
       have hc : c = true := by rw [hc, decide_eq_true_eq]; exact (by grind)
       subst hc
       cbv
       skip
      )
      refine fiscan_q h zs (by omega) ?_
      cbv
      skip
      refine fiscan_q h zp (by omega) ?_
      cbv
      skip
      refine fiscan_q h zd (by omega) ?_
      cbv
      skip
      refine h.call' _ qalive_c ?_
      cbv
      (refine Good.chk' ‹_› rfl ?_; cbv)
      exact hQ
  · cbv
    skip
    refine h.call' _ qalive_c ?_
    cbv
    skip
    exact hQ
end Go.Proofs.Ytpmlocilhhjifaa.Eng
