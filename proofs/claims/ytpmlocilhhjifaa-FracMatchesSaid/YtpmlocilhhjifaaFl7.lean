/- Chapter 2: FracMatches, FracFormMatches. -/
import Derived.Test.YtpmlocilhhjifaaFl6
set_option maxRecDepth 100000
set_option linter.unusedSimpArgs false
set_option linter.unusedVariables false
set_option pp.maxSteps 200
namespace Go.Proofs.Ytpmlocilhhjifaa.Eng
open Go.RowKit Go.Proofs
theorem abs_eq (p : Rat) : (if sgnQ (p - -p) > 0 then p else -p) = Rat.divInt (p.num.natAbs : Int) p.den := by
  have d := sgnQ_cases (p - -p)
  have hn : 0 ≤ p.num ↔ 0 ≤ p := Rat.num_nonneg
  by_cases h : 0 < p
  · rw [if_pos (by
      rcases d with ⟨h1, _⟩ | ⟨h1, _⟩ | ⟨_, e⟩
      · exfalso; grind
      · exfalso; grind
      · omega)]
    have : 0 ≤ p := by grind
    have := hn.2 this
    rw [show (p.num.natAbs : Int) = p.num by omega, Rat.num_divInt_den]
  · rw [if_neg (by
      rcases d with ⟨_, e⟩ | ⟨_, e⟩ | ⟨h1, _⟩
      · omega
      · omega
      · exfalso; grind)]
    have : p.num ≤ 0 := by
      refine Int.not_lt.1 fun h1 => h ?_
      have h2 : p ≠ 0 := fun e => by rw [e] at h1; exact absurd h1 (by decide)
      have h3 := hn.1 (by omega)
      grind
    rw [show (p.num.natAbs : Int) = -p.num by omega, ← Rat.neg_divInt, Rat.num_divInt_den]
theorem max_eq (p q : Rat) : (if sgnQ (p - q) > 0 then p else q) = (if sgnQ (p - q) ≥ 0 then p else q) := by
  rcases sgnQ_cases (p - q) with ⟨_, e⟩ | ⟨h1, e⟩ | ⟨_, e⟩
  · rw [e]; rfl
  · rw [e]
    show q = p
    grind
  · rw [e]; rfl
set_option maxHeartbeats 8000000 in
theorem fmatches_l {s1 s2 s3 s4 : Bool} {t1 t2 t3 t4 : Nat} {x1 x2 x3 x4 : List (List D)} {w1 w2 w3 w4 : List Nat} (h1 : x1 = wl w1) (h2 : x2 = wl w2) (h3 : x3 = wl w3) (h4 : x4 = wl w4)
    (o1 : Ok BW w1) (o2 : Ok BW w2) (o3 : Ok BW w3) (o4 : Ok BW w4) : TT 20 [qa s1 t1 x1 s2 t2 x2, qa s3 t3 x3 s4 t4 x4] [.one (.sc (.bool true))] := by
  refine con Try.func20 rfl (by kernel_rfl) (by kernel_rfl) fun π Q h hQ => ?_
  cbv
  skip
  refine qlong_s h [⟨s1, t1, x1, s2, t2, x2⟩, ⟨s3, t3, x3, s4, t4, x4⟩] rfl (by simp) fun c hc => ?_
  cases c
  · have hl := qlong_f hc
    have b1 := hl ⟨s1, t1, x1, s2, t2, x2⟩ (by simp)
    have b2 := hl ⟨s3, t3, x3, s4, t4, x4⟩ (by simp)
    simp only at b1 b2
    have a1 := qr_raw (s := s1) (s' := s2) h1 h2 o1 o2 b1
    have a2 := qr_raw (s := s3) (s' := s4) h3 h4 o3 o4 b2
    have v1 : w1.length ≤ 6 := by rw [← wl_len w1, ← h1]; exact b1.1
    have v2 : w2.length ≤ 6 := by rw [← wl_len w2, ← h2]; exact b1.2
    have v3 : w3.length ≤ 6 := by rw [← wl_len w3, ← h3]; exact b2.1
    have v4 : w4.length ≤ 6 := by rw [← wl_len w4, ← h4]; exact b2.2
    have c1 : ∀ y ∈ x1, y.length = 1 := fun y hy => wl_one (h1 ▸ hy)
    have c2 : ∀ y ∈ x2, y.length = 1 := fun y hy => wl_one (h2 ▸ hy)
    have c3 : ∀ y ∈ x3, y.length = 1 := fun y hy => wl_one (h3 ▸ hy)
    have c4 : ∀ y ∈ x4, y.length = 1 := fun y hy => wl_one (h4 ▸ hy)
    obtain ⟨p, hp⟩ : ∃ p, p = qv (sg s1 (val BW w1)) (sg s2 (val BW w2)) := ⟨_, rfl⟩
    obtain ⟨q, hq⟩ : ∃ q, q = qv (sg s3 (val BW w3)) (sg s4 (val BW w4)) := ⟨_, rfl⟩
    rw [← hp] at a1
    rw [← hq] at a2
    clear hp hq hl hc o1 o2 o3 o4
    have a1' := a1
    have a2' := a2
    have l1 := a1.ql
    have l2 := a2.ql
    have m1 := ql_add p q
    have m2 := ql_sub p q
    have m3 := ql_mul p q
    have m4 := ql_neg p
    have m5 : ql (if sgnQ (p - -p) > 0 then p else -p) ≤ 100 := by split <;> omega
    have m6 : ql (Rat.divInt (p.num.natAbs : Int) p.den) ≤ 100 := by rw [← abs_eq]; exact m5
    have m7 : ql (if sgnQ (p - q) ≤ 0 then p else q) ≤ 100 := by split <;> omega
    have m8 : ql (if sgnQ (p - q) > 0 then p else q) ≤ 100 := by split <;> omega
    have m9 : ql (if sgnQ (p - q) ≥ 0 then p else q) ≤ 100 := by split <;> omega
    cbv
    skip
    refine qown_s h c1 c2 (by omega) (by omega) ?_
    cbv
    skip
    refine qown_s h c3 c4 (by omega) (by omega) ?_
    cbv
    (refine Good.chk' ‹_› rfl ?_; cbv)
    by_cases h0 : q = 0
    · refine h.call' _ (fdiv0_c (l := 100) (a1.le (by omega)) (a2.le (by omega)) (by decide) h0) ?_
      cbv
      skip
      refine h.call' _ (rrdiv0_c (l := 100) (a1'.le (by omega)) (a2'.le (by omega)) (by decide) h0) ?_
      cbv
      skip
      refine israw_s h (w1 := []) (w2 := []) (w3 := []) (w4 := []) rfl rfl rfl rfl (by decide) (by decide) (by decide) (by decide) fun c hc => ?_
      have hc : c = true := by rw [hc]; rfl
      subst hc
      cbv
      (refine Good.no ‹_› rfl ?_ ?_; (· (simp only [inR, cmpP, loOk, hiOk, Int.ofNat_eq_natCast, Int.negSucc_eq, IntKind.bits, Int.toNat_natCast, ge_iff_le, gt_iff_lt, ne_eq, wl_len, hl_len, natCast_fold, not_true_eq_false, not_false_eq_true] at * <;> omega)); cbv)
      ((refine fadd_s h (l := 100) (a1.le (by omega)) (a2.le (by omega)) (by decide) fun _ _ _ _ u1 => ?_
        cbv
        skip
        refine rradd_s h (l := 100) (a1'.le (by omega)) (a2'.le (by omega)) (by decide) fun _ _ _ _ u2 => ?_
        cbv
        skip
        (refine is_q h u1 u2 (by omega) (by omega) fun c hc => ?_
         have hc : c = true := by rw [hc]; exact decide_eq_true (Eq.refl _)
         subst hc
         cbv
         skip
        )
       )
       (refine fsub_s h (l := 100) (a1.le (by omega)) (a2.le (by omega)) (by decide) fun _ _ _ _ u1 => ?_
        cbv
        skip
        refine rrsub_s h (l := 100) (a1'.le (by omega)) (a2'.le (by omega)) (by decide) fun _ _ _ _ u2 => ?_
        cbv
        skip
        (refine is_q h u1 u2 (by omega) (by omega) fun c hc => ?_
         have hc : c = true := by rw [hc]; exact decide_eq_true (Eq.refl _)
         subst hc
         cbv
         skip
        )
       )
       (refine fmul_s h (l := 100) (a1.le (by omega)) (a2.le (by omega)) (by decide) fun _ _ _ _ u1 => ?_
        cbv
        skip
        refine rrmul_s h (l := 100) (a1'.le (by omega)) (a2'.le (by omega)) (by decide) fun _ _ _ _ u2 => ?_
        cbv
        skip
        (refine is_q h u1 u2 (by omega) (by omega) fun c hc => ?_
         have hc : c = true := by rw [hc]; exact decide_eq_true (Eq.refl _)
         subst hc
         cbv
         (refine Good.chk' ‹_› rfl ?_; cbv)
        )
       )
       (refine fneg_s h (l := 100) (a1.le (by omega)) (by decide) fun _ _ _ _ u1 => ?_
        cbv
        skip
        refine rrneg_s h (l := 100) (a1'.le (by omega)) (by decide) fun _ _ _ _ u2 => ?_
        cbv
        skip
        (refine is_q h u1 u2 (by omega) (by omega) fun c hc => ?_
         have hc : c = true := by rw [hc]; exact decide_eq_true (Eq.refl _)
         subst hc
         cbv
         skip
        )
       )
       (refine fabs_s h (l := 100) (a1.le (by omega)) (by decide) fun _ _ _ _ u1 => ?_
        cbv
        skip
        refine rrabs_s h (l := 100) (a1'.le (by omega)) (by decide) fun _ _ _ _ u2 => ?_
        cbv
        skip
        (refine is_q h u1 u2 (by omega) (by omega) fun c hc => ?_
         have hc : c = true := by rw [hc]; exact decide_eq_true (abs_eq p)
         subst hc
         cbv
         skip
        )
       )
       (refine fmin_s h (l := 100) (a1.le (by omega)) (a2.le (by omega)) (by decide) fun _ _ _ _ u1 => ?_
        cbv
        skip
        refine rrmin_s h (l := 100) (a1'.le (by omega)) (a2'.le (by omega)) (by decide) fun _ _ _ _ u2 => ?_
        cbv
        skip
        (refine is_q h u1 u2 (by omega) (by omega) fun c hc => ?_
         have hc : c = true := by rw [hc]; exact decide_eq_true (Eq.refl _)
         subst hc
         cbv
         skip
        )
       )
       (refine fmax_s h (l := 100) (a1.le (by omega)) (a2.le (by omega)) (by decide) fun _ _ _ _ u1 => ?_
        cbv
        skip
        refine rrmax_s h (l := 100) (a1'.le (by omega)) (a2'.le (by omega)) (by decide) fun _ _ _ _ u2 => ?_
        cbv
        skip
        (refine is_q h u1 u2 (by omega) (by omega) fun c hc => ?_
         have hc : c = true := by rw [hc]; exact decide_eq_true (max_eq p q)
         subst hc
         cbv
         skip
        )
       )
       refine fsign_s h (l := 100) (a1.le (by omega)) (by decide) fun c1 hc1 => ?_
       cbv
       skip
       refine rrsign_s h (l := 100) (a1'.le (by omega)) (by decide) fun c2 hc2 => ?_
       have e3 : c1 = c2 := by rw [hc1, hc2]
       subst e3
       clear hc2
       cbv
       (refine Good.no ‹_› rfl ?_ ?_; (· (simp only [inR, cmpP, loOk, hiOk, Int.ofNat_eq_natCast, Int.negSucc_eq, IntKind.bits, Int.toNat_natCast, ge_iff_le, gt_iff_lt, ne_eq, wl_len, hl_len, natCast_fold, not_true_eq_false, not_false_eq_true] at * <;> omega)); cbv; refine Good.chk' ‹_› rfl ?_; cbv)
       refine fcmp_s h (l := 100) (a1.le (by omega)) (a2.le (by omega)) (by decide) fun c3 hc3 => ?_
       cbv
       skip
       refine rrcmp_s h (l := 100) (a1'.le (by omega)) (a2'.le (by omega)) (by decide) fun c4 hc4 => ?_
       have e4 : c3 = c4 := by rw [hc3, hc4]
       subst e4
       clear hc4
       cbv
       (refine Good.yes ‹_› ?_ ?_; (· (simp only [inR, cmpP, loOk, hiOk, Int.ofNat_eq_natCast, Int.negSucc_eq, IntKind.bits, Int.toNat_natCast, ge_iff_le, gt_iff_lt, ne_eq, wl_len, hl_len, natCast_fold, not_true_eq_false, not_false_eq_true] at * <;> omega)); cbv)
       refine fequal_s h (l := 100) (a1.le (by omega)) (a2.le (by omega)) (by decide) fun c5 hc5 => ?_
       cbv
       skip
       refine rrsame_s h (l := 100) (a1'.le (by omega)) (a2'.le (by omega)) (by decide) fun c6 hc6 => ?_
       have e5 : c5 = c6 := by rw [hc5, hc6]
       subst e5
       clear hc6
       cbv
       skip
       refine h.beq' fun c hc => ?_
       have hc : c = true := by rw [hc]; cases c5 <;> rfl
       subst hc
       cbv
       skip
       refine israw_s h h1 h2 h1 h2 (by omega) (by omega) (by omega) (by omega) fun c hc => ?_
       have hc : c = true := by rw [hc]; exact decide_eq_true ⟨⟨rfl, rfl⟩, rfl, rfl⟩
       subst hc
       cbv
       skip
       refine israw_s h h3 h4 h3 h4 (by omega) (by omega) (by omega) (by omega) fun c hc => ?_
       have hc : c = true := by rw [hc]; exact decide_eq_true ⟨⟨rfl, rfl⟩, rfl, rfl⟩
       subst hc
       cbv
       skip
       refine h.call' _ qalive_c ?_
       cbv
       (refine Good.chk' ‹_› rfl ?_; cbv)
       exact hQ
      )
    · have m10 := ql_quot p h0
      refine fdiv_s h (l := 100) (a1.le (by omega)) (a2.le (by omega)) (by decide) h0 fun _ _ _ _ u1 => ?_
      cbv
      skip
      refine rrdiv_s h (l := 100) (a1'.le (by omega)) (a2'.le (by omega)) (by decide) h0 fun _ _ _ _ u2 => ?_
      cbv
      skip
      (refine is_q h u1 u2 (by omega) (by omega) fun c hc => ?_
       have hc : c = true := by rw [hc]; exact decide_eq_true (Eq.refl _)
       subst hc
       cbv
       (refine Good.no ‹_› rfl ?_ ?_; (· (simp only [inR, cmpP, loOk, hiOk, Int.ofNat_eq_natCast, Int.negSucc_eq, IntKind.bits, Int.toNat_natCast, ge_iff_le, gt_iff_lt, ne_eq, wl_len, hl_len, natCast_fold, not_true_eq_false, not_false_eq_true] at * <;> omega)); cbv)
      )
      ((refine fadd_s h (l := 100) (a1.le (by omega)) (a2.le (by omega)) (by decide) fun _ _ _ _ u1 => ?_
        cbv
        skip
        refine rradd_s h (l := 100) (a1'.le (by omega)) (a2'.le (by omega)) (by decide) fun _ _ _ _ u2 => ?_
        cbv
        skip
        (refine is_q h u1 u2 (by omega) (by omega) fun c hc => ?_
         have hc : c = true := by rw [hc]; exact decide_eq_true (Eq.refl _)
         subst hc
         cbv
         skip
        )
       )
       (refine fsub_s h (l := 100) (a1.le (by omega)) (a2.le (by omega)) (by decide) fun _ _ _ _ u1 => ?_
        cbv
        skip
        refine rrsub_s h (l := 100) (a1'.le (by omega)) (a2'.le (by omega)) (by decide) fun _ _ _ _ u2 => ?_
        cbv
        skip
        (refine is_q h u1 u2 (by omega) (by omega) fun c hc => ?_
         have hc : c = true := by rw [hc]; exact decide_eq_true (Eq.refl _)
         subst hc
         cbv
         skip
        )
       )
       (refine fmul_s h (l := 100) (a1.le (by omega)) (a2.le (by omega)) (by decide) fun _ _ _ _ u1 => ?_
        cbv
        skip
        refine rrmul_s h (l := 100) (a1'.le (by omega)) (a2'.le (by omega)) (by decide) fun _ _ _ _ u2 => ?_
        cbv
        skip
        (refine is_q h u1 u2 (by omega) (by omega) fun c hc => ?_
         have hc : c = true := by rw [hc]; exact decide_eq_true (Eq.refl _)
         subst hc
         cbv
         (refine Good.chk' ‹_› rfl ?_; cbv)
        )
       )
       (refine fneg_s h (l := 100) (a1.le (by omega)) (by decide) fun _ _ _ _ u1 => ?_
        cbv
        skip
        refine rrneg_s h (l := 100) (a1'.le (by omega)) (by decide) fun _ _ _ _ u2 => ?_
        cbv
        skip
        (refine is_q h u1 u2 (by omega) (by omega) fun c hc => ?_
         have hc : c = true := by rw [hc]; exact decide_eq_true (Eq.refl _)
         subst hc
         cbv
         skip
        )
       )
       (refine fabs_s h (l := 100) (a1.le (by omega)) (by decide) fun _ _ _ _ u1 => ?_
        cbv
        skip
        refine rrabs_s h (l := 100) (a1'.le (by omega)) (by decide) fun _ _ _ _ u2 => ?_
        cbv
        skip
        (refine is_q h u1 u2 (by omega) (by omega) fun c hc => ?_
         have hc : c = true := by rw [hc]; exact decide_eq_true (abs_eq p)
         subst hc
         cbv
         skip
        )
       )
       (refine fmin_s h (l := 100) (a1.le (by omega)) (a2.le (by omega)) (by decide) fun _ _ _ _ u1 => ?_
        cbv
        skip
        refine rrmin_s h (l := 100) (a1'.le (by omega)) (a2'.le (by omega)) (by decide) fun _ _ _ _ u2 => ?_
        cbv
        skip
        (refine is_q h u1 u2 (by omega) (by omega) fun c hc => ?_
         have hc : c = true := by rw [hc]; exact decide_eq_true (Eq.refl _)
         subst hc
         cbv
         skip
        )
       )
       (refine fmax_s h (l := 100) (a1.le (by omega)) (a2.le (by omega)) (by decide) fun _ _ _ _ u1 => ?_
        cbv
        skip
        refine rrmax_s h (l := 100) (a1'.le (by omega)) (a2'.le (by omega)) (by decide) fun _ _ _ _ u2 => ?_
        cbv
        skip
        (refine is_q h u1 u2 (by omega) (by omega) fun c hc => ?_
         have hc : c = true := by rw [hc]; exact decide_eq_true (max_eq p q)
         subst hc
         cbv
         skip
        )
       )
       refine fsign_s h (l := 100) (a1.le (by omega)) (by decide) fun c1 hc1 => ?_
       cbv
       skip
       refine rrsign_s h (l := 100) (a1'.le (by omega)) (by decide) fun c2 hc2 => ?_
       have e3 : c1 = c2 := by rw [hc1, hc2]
       subst e3
       clear hc2
       cbv
       (refine Good.no ‹_› rfl ?_ ?_; (· (simp only [inR, cmpP, loOk, hiOk, Int.ofNat_eq_natCast, Int.negSucc_eq, IntKind.bits, Int.toNat_natCast, ge_iff_le, gt_iff_lt, ne_eq, wl_len, hl_len, natCast_fold, not_true_eq_false, not_false_eq_true] at * <;> omega)); cbv; refine Good.chk' ‹_› rfl ?_; cbv)
       refine fcmp_s h (l := 100) (a1.le (by omega)) (a2.le (by omega)) (by decide) fun c3 hc3 => ?_
       cbv
       skip
       refine rrcmp_s h (l := 100) (a1'.le (by omega)) (a2'.le (by omega)) (by decide) fun c4 hc4 => ?_
       have e4 : c3 = c4 := by rw [hc3, hc4]
       subst e4
       clear hc4
       cbv
       (refine Good.yes ‹_› ?_ ?_; (· (simp only [inR, cmpP, loOk, hiOk, Int.ofNat_eq_natCast, Int.negSucc_eq, IntKind.bits, Int.toNat_natCast, ge_iff_le, gt_iff_lt, ne_eq, wl_len, hl_len, natCast_fold, not_true_eq_false, not_false_eq_true] at * <;> omega)); cbv)
       refine fequal_s h (l := 100) (a1.le (by omega)) (a2.le (by omega)) (by decide) fun c5 hc5 => ?_
       cbv
       skip
       refine rrsame_s h (l := 100) (a1'.le (by omega)) (a2'.le (by omega)) (by decide) fun c6 hc6 => ?_
       have e5 : c5 = c6 := by rw [hc5, hc6]
       subst e5
       clear hc6
       cbv
       skip
       refine h.beq' fun c hc => ?_
       have hc : c = true := by rw [hc]; cases c5 <;> rfl
       subst hc
       cbv
       skip
       refine israw_s h h1 h2 h1 h2 (by omega) (by omega) (by omega) (by omega) fun c hc => ?_
       have hc : c = true := by rw [hc]; exact decide_eq_true ⟨⟨rfl, rfl⟩, rfl, rfl⟩
       subst hc
       cbv
       skip
       refine israw_s h h3 h4 h3 h4 (by omega) (by omega) (by omega) (by omega) fun c hc => ?_
       have hc : c = true := by rw [hc]; exact decide_eq_true ⟨⟨rfl, rfl⟩, rfl, rfl⟩
       subst hc
       cbv
       skip
       refine h.call' _ qalive_c ?_
       cbv
       (refine Good.chk' ‹_› rfl ?_; cbv)
       exact hQ
      )
  · cbv
    skip
    refine h.call' _ qalive_c ?_
    cbv
    skip
    exact hQ
end Go.Proofs.Ytpmlocilhhjifaa.Eng
