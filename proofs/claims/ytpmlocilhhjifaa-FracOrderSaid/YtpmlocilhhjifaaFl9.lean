/- Chapter 2: FracOrder. -/
import Derived.Test.YtpmlocilhhjifaaFl6
set_option maxRecDepth 100000
set_option linter.unusedSimpArgs false
set_option linter.unusedVariables false
set_option pp.maxSteps 200
namespace Go.Proofs.Ytpmlocilhhjifaa.Eng
open Go.RowKit Go.Proofs
theorem sgnQ_neg (x : Rat) : sgnQ (-x) = -sgnQ x := by
  have d := sgnQ_cases x
  have e := sgnQ_cases (-x)
  rcases d with ⟨h, k⟩ | ⟨h, k⟩ | ⟨h, k⟩ <;> rcases e with ⟨h', k'⟩ | ⟨h', k'⟩ | ⟨h', k'⟩ <;> first | omega | (exfalso; grind)
theorem sgnQ_swap (p q : Rat) : sgnQ (q - p) = -sgnQ (p - q) := by
  rw [← sgnQ_neg]
  congr 1
  grind
theorem sgnQ_mul (x y : Rat) : sgnQ (x * y) = sgnQ x * sgnQ y := by
  have key : ∀ {x y : Rat}, 0 < x → 0 < y → sgnQ (x * y) = 1 := fun {x y} h1 h2 => by
    have h3 := Rat.mul_pos h1 h2
    rcases sgnQ_cases (x * y) with ⟨h, _⟩ | ⟨h, _⟩ | ⟨_, k⟩
    · exfalso; grind
    · exfalso; grind
    · exact k
  rcases sgnQ_cases x with ⟨h, k⟩ | ⟨h, k⟩ | ⟨h, k⟩
  · rcases sgnQ_cases y with ⟨h', k'⟩ | ⟨h', k'⟩ | ⟨h', k'⟩
    · have := key (x := -x) (y := -y) (by grind) (by grind)
      rw [show -x * -y = x * y by grind] at this
      rw [this, k, k']; rfl
    · rw [h', Rat.mul_zero, k]; rfl
    · have := key (x := -x) (y := y) (by grind) h'
      rw [show -x * y = -(x * y) by grind, sgnQ_neg] at this
      rw [k, k']; omega
  · rw [h, Rat.zero_mul]
    show (0 : Int) = sgnQ 0 * sgnQ y
    rw [show sgnQ 0 = 0 from rfl, Int.zero_mul]
  · rcases sgnQ_cases y with ⟨h', k'⟩ | ⟨h', k'⟩ | ⟨h', k'⟩
    · have := key (x := x) (y := -y) h (by grind)
      rw [show x * -y = -(x * y) by grind, sgnQ_neg] at this
      rw [k, k']; omega
    · rw [h', Rat.mul_zero, k]; rfl
    · rw [key h h', k, k']; rfl
theorem sgnQ_min {p q r : Rat} (h1 : sgnQ (p - q) ≤ 0) (h2 : sgnQ (q - r) ≤ 0) : sgnQ (p - r) = if sgnQ (q - r) < sgnQ (p - q) then sgnQ (q - r) else sgnQ (p - q) := by
  have a := sgnQ_cases (p - q)
  have b := sgnQ_cases (q - r)
  have c := sgnQ_cases (p - r)
  rcases a with ⟨h, k⟩ | ⟨h, k⟩ | ⟨h, k⟩ <;> rcases b with ⟨h', k'⟩ | ⟨h', k'⟩ | ⟨h', k'⟩ <;> rcases c with ⟨h'', k''⟩ | ⟨h'', k''⟩ | ⟨h'', k''⟩ <;> first | omega | (rw [k, k', k'']; rfl) | (exfalso; grind)
theorem sgn_le {x : Rat} (h : x ≤ 0) : sgnQ x ≤ 0 := by rcases sgnQ_cases x with ⟨_, k⟩ | ⟨_, k⟩ | ⟨h', k⟩ <;> first | omega | (exfalso; grind)
theorem sgn_ge {x : Rat} (h : 0 ≤ x) : 0 ≤ sgnQ x := by rcases sgnQ_cases x with ⟨h', k⟩ | ⟨_, k⟩ | ⟨_, k⟩ <;> first | omega | (exfalso; grind)
theorem sgn_lt {x : Rat} (h : x < 0) : sgnQ x < 0 := by rcases sgnQ_cases x with ⟨_, k⟩ | ⟨h', k⟩ | ⟨h', k⟩ <;> first | omega | (exfalso; grind)
theorem sgn_gt {x : Rat} (h : 0 < x) : 0 < sgnQ x := by rcases sgnQ_cases x with ⟨h', k⟩ | ⟨h', k⟩ | ⟨_, k⟩ <;> first | omega | (exfalso; grind)
theorem ql_int (n : Int) : ql (n : Rat) ≤ max (dg BW n.natAbs).length 1 := by
  unfold ql
  rw [Rat.num_intCast, Rat.den_intCast]
  have : (dg BW 1).length ≤ 1 := dg_len BW2 (by rw [Nat.pow_one]; exact BW2)
  omega
set_option maxHeartbeats 16000000 in
theorem order_l {s1 s2 s3 s4 s5 s6 : Bool} {t1 t2 t3 t4 t5 t6 : Nat} {x1 x2 x3 x4 x5 x6 : List (List D)} {w1 w2 w3 w4 w5 w6 : List Nat} (h1 : x1 = wl w1) (h2 : x2 = wl w2) (h3 : x3 = wl w3) (h4 : x4 = wl w4) (h5 : x5 = wl w5) (h6 : x6 = wl w6)
    (o1 : Ok BW w1) (o2 : Ok BW w2) (o3 : Ok BW w3) (o4 : Ok BW w4) (o5 : Ok BW w5) (o6 : Ok BW w6) : TT 19 [qa s1 t1 x1 s2 t2 x2, qa s3 t3 x3 s4 t4 x4, qa s5 t5 x5 s6 t6 x6] [.one (.sc (.bool true))] := by
  refine con Try.func19 rfl (by kernel_rfl) (by kernel_rfl) fun π Q h hQ => ?_
  cbv
  skip
  refine qlong_s h [⟨s1, t1, x1, s2, t2, x2⟩, ⟨s3, t3, x3, s4, t4, x4⟩, ⟨s5, t5, x5, s6, t6, x6⟩] rfl (by simp) fun c hc => ?_
  cases c
  · have hl := qlong_f hc
    have a1 := qr_raw (s := s1) (s' := s2) h1 h2 o1 o2 (hl ⟨s1, t1, x1, s2, t2, x2⟩ (by simp))
    have a2 := qr_raw (s := s3) (s' := s4) h3 h4 o3 o4 (hl ⟨s3, t3, x3, s4, t4, x4⟩ (by simp))
    have a3 := qr_raw (s := s5) (s' := s6) h5 h6 o5 o6 (hl ⟨s5, t5, x5, s6, t6, x6⟩ (by simp))
    obtain ⟨p, hp⟩ : ∃ p, p = qv (sg s1 (val BW w1)) (sg s2 (val BW w2)) := ⟨_, rfl⟩
    obtain ⟨q, hq⟩ : ∃ q, q = qv (sg s3 (val BW w3)) (sg s4 (val BW w4)) := ⟨_, rfl⟩
    obtain ⟨r, hr⟩ : ∃ r, r = qv (sg s5 (val BW w5)) (sg s6 (val BW w6)) := ⟨_, rfl⟩
    rw [← hp] at a1
    rw [← hq] at a2
    rw [← hr] at a3
    clear hp hq hr hl hc h1 h2 h3 h4 h5 h6 o1 o2 o3 o4 o5 o6
    have l1 := a1.ql
    have l2 := a2.ql
    have l3 := a3.ql
    have m1 := ql_add p q
    have m2 := ql_add p r
    have m3 := ql_add q r
    have m4 := ql_mul p r
    have m5 := ql_mul q r
    have m6 := floor_len p
    have m7 := floor_len (-p)
    have m8 := ql_neg p
    have m9 : (dg BW (-(-p).floor).natAbs).length = (dg BW (-p).floor.natAbs).length := by rw [Int.natAbs_neg]
    have m10 := ql_int p.floor
    have m11 := ql_int (-(-p).floor)
    have m12 := ql_add (p.floor : Rat) ((1 : Int) : Rat)
    have m13 := ql_sub ((-(-p).floor : Int) : Rat) ((1 : Int) : Rat)
    have m14 := ql_int 1
    have m15 := small_len (n := 1) ⟨by decide, by decide⟩
    have m16 : ql (if sgnQ (p - q) ≤ 0 then p else q) ≤ 6 := by split <;> omega
    have m17 : ql (if sgnQ (p - q) > 0 then p else q) ≤ 6 := by split <;> omega
    have m18 := ql_add (if sgnQ (p - q) ≤ 0 then p else q) (if sgnQ (p - q) > 0 then p else q)
    have f1 : sgnQ (p + r - (q + r)) = sgnQ (p - q) := by congr 1; grind
    have f2 : sgnQ (p * r - q * r) = sgnQ (p - q) * sgnQ r := by rw [← sgnQ_mul]; congr 1; grind
    have g1 : (p.floor : Rat) ≤ p := Rat.floor_le p
    have g2 : p < ((p.floor + 1 : Int) : Rat) := Rat.lt_floor_add_one p
    have g3 : ((-p).floor : Rat) ≤ -p := Rat.floor_le (-p)
    have g4 : -p < (((-p).floor + 1 : Int) : Rat) := Rat.lt_floor_add_one (-p)
    rw [Rat.intCast_add] at g2 g4
    have f7 : sgnQ ((p.floor : Rat) - p) ≤ 0 := sgn_le (by grind)
    have f8 : 0 ≤ sgnQ (((-(-p).floor : Int) : Rat) - p) := sgn_ge (by rw [Rat.intCast_neg]; grind)
    have f9 : 0 < sgnQ ((p.floor : Rat) + ((1 : Int) : Rat) - p) := sgn_gt (by grind)
    have f10 : sgnQ (((-(-p).floor : Int) : Rat) - ((1 : Int) : Rat) - p) < 0 := sgn_lt (by rw [Rat.intCast_neg]; grind)
    have f11 : (if sgnQ (p - q) ≤ 0 then p else q) + (if sgnQ (p - q) > 0 then p else q) = p + q := by
      by_cases hh : sgnQ (p - q) ≤ 0
      · rw [if_pos hh, if_neg (by omega)]
      · rw [if_neg hh, if_pos (by omega)]; exact Rat.add_comm _ _
    have d := sgnQ_cases (p - q)
    have d3 := sgnQ_cases r
    have f12 : sgnQ ((if sgnQ (p - q) ≤ 0 then p else q) - (if sgnQ (p - q) > 0 then p else q)) ≤ 0 := by
      by_cases hh : sgnQ (p - q) ≤ 0
      · rw [if_pos hh, if_neg (by omega)]; exact hh
      · rw [if_neg hh, if_pos (by omega)]
        have := sgnQ_swap p q
        omega
    have f5 : -1 ≤ sgnQ (p - q) * sgnQ r ∧ sgnQ (p - q) * sgnQ r ≤ 1 := by
      rw [← sgnQ_mul]
      have := sgnQ_cases ((p - q) * r)
      omega
    have f13 : sgnQ (p - q) = 0 ↔ p = q := by
      rcases d with ⟨k, e⟩ | ⟨k, e⟩ | ⟨k, e⟩
      · exact ⟨fun _ => by omega, fun hh => by exfalso; grind⟩
      · exact ⟨fun _ => by grind, fun _ => e⟩
      · exact ⟨fun _ => by omega, fun hh => by exfalso; grind⟩
    have f14 := sgnQ_swap p q
    have dx : -1 ≤ sgnQ (p - q) ∧ sgnQ (p - q) ≤ 1 := by omega
    have d2 := sgnQ_cases (q - r)
    have dy : -1 ≤ sgnQ (q - r) ∧ sgnQ (q - r) ≤ 1 := by omega
    clear d d2 g1 g2 g3 g4
    cbv
    skip
    refine fcmp_s h (l := 100) (a1.le (by omega)) (a2.le (by omega)) (by decide) fun x hx => ?_
    rw [← hx] at f5 f13 f14 dx
    cbv
    skip
    refine fcmp_s h (l := 100) (a2.le (by omega)) (a3.le (by omega)) (by decide) fun y hy => ?_
    rw [← hy] at dy
    cbv
    (refine Good.chk' ‹_› rfl ?_; cbv)
    refine fcmp_s h (l := 100) (a2.le (by omega)) (a1.le (by omega)) (by decide) fun c1 hc1 => ?_
    rw [f14] at hc1
    cbv
    (refine Good.sub' ‹_› ?_ ?_; (· (simp only [inR, cmpP, loOk, hiOk, Int.ofNat_eq_natCast, Int.negSucc_eq, IntKind.bits, Int.toNat_natCast, ge_iff_le, gt_iff_lt, ne_eq, wl_len, hl_len, natCast_fold, not_true_eq_false, not_false_eq_true] at * <;> omega)); intro _ _; cbv; refine Good.no ‹_› rfl ?_ ?_; (· (simp only [inR, cmpP, loOk, hiOk, Int.ofNat_eq_natCast, Int.negSucc_eq, IntKind.bits, Int.toNat_natCast, ge_iff_le, gt_iff_lt, ne_eq, wl_len, hl_len, natCast_fold, not_true_eq_false, not_false_eq_true] at * <;> omega)); cbv)
    by_cases hx0 : x = 0
    · cbv
      (refine Good.yes ‹_› ?_ ?_; (· (simp only [inR, cmpP, loOk, hiOk, Int.ofNat_eq_natCast, Int.negSucc_eq, IntKind.bits, Int.toNat_natCast, ge_iff_le, gt_iff_lt, ne_eq, wl_len, hl_len, natCast_fold, not_true_eq_false, not_false_eq_true] at * <;> omega)); cbv)
      refine fequal_s h (l := 100) (a1.le (by omega)) (a2.le (by omega)) (by decide) fun c hc => ?_
      have hc : c = true := by rw [hc]; exact decide_eq_true (f13.1 hx0)
      subst hc
      cbv
      refine h.beq' fun c hc => ?_
      have hc : c = false := by rw [hc]; rfl
      subst hc
      (have hx1 : x ≤ 0 := by omega
       by_cases hy1 : y ≤ 0
       · cbv
         (refine Good.yes ‹_› ?_ ?_; (· (simp only [inR, cmpP, loOk, hiOk, Int.ofNat_eq_natCast, Int.negSucc_eq, IntKind.bits, Int.toNat_natCast, ge_iff_le, gt_iff_lt, ne_eq, wl_len, hl_len, natCast_fold, not_true_eq_false, not_false_eq_true] at * <;> omega)); cbv; refine Good.yes ‹_› ?_ ?_; (· (simp only [inR, cmpP, loOk, hiOk, Int.ofNat_eq_natCast, Int.negSucc_eq, IntKind.bits, Int.toNat_natCast, ge_iff_le, gt_iff_lt, ne_eq, wl_len, hl_len, natCast_fold, not_true_eq_false, not_false_eq_true] at * <;> omega)); cbv)
         refine fcmp_s h (l := 100) (a1.le (by omega)) (a3.le (by omega)) (by decide) fun c3 hc3 => ?_
         rw [sgnQ_min (by rw [← hx]; exact hx1) (by rw [← hy]; exact hy1), ← hx, ← hy] at hc3
         cbv
         refine h.dec rfl (fun hlt => ?_) (fun hlt => ?_)
         · rw [if_pos (by (simp only [inR, cmpP, loOk, hiOk, Int.ofNat_eq_natCast, Int.negSucc_eq, IntKind.bits, Int.toNat_natCast, ge_iff_le, gt_iff_lt, ne_eq, wl_len, hl_len, natCast_fold, not_true_eq_false, not_false_eq_true] at * <;> omega))] at hc3
           subst hc3
           cbv
           refine h.no rfl (fun hh => hh rfl) ?_
           cbv
           skip
           ((refine fadd_s h (l := 100) (a1.le (by omega)) (a3.le (by omega)) (by decide) fun _ _ _ _ u1 => ?_
             cbv
             skip
            )
            (refine fadd_s h (l := 100) (a2.le (by omega)) (a3.le (by omega)) (by decide) fun _ _ _ _ u2 => ?_
             cbv
             skip
            )
            refine fcmp_s h (l := 100) (u1.r.le (by omega)) (u2.r.le (by omega)) (by decide) fun c4 hc4 => ?_
            rw [f1, ← hx] at hc4
            subst hc4
            cbv
            (refine Good.no ‹_› rfl ?_ ?_; (· (simp only [inR, cmpP, loOk, hiOk, Int.ofNat_eq_natCast, Int.negSucc_eq, IntKind.bits, Int.toNat_natCast, ge_iff_le, gt_iff_lt, ne_eq, wl_len, hl_len, natCast_fold, not_true_eq_false, not_false_eq_true] at * <;> omega)); cbv)
            (refine fmul_s h (l := 100) (a1.le (by omega)) (a3.le (by omega)) (by decide) fun _ _ _ _ u3 => ?_
             cbv
             skip
            )
            (refine fmul_s h (l := 100) (a2.le (by omega)) (a3.le (by omega)) (by decide) fun _ _ _ _ u4 => ?_
             cbv
             skip
            )
            refine fcmp_s h (l := 100) (u3.r.le (by omega)) (u4.r.le (by omega)) (by decide) fun c5 hc5 => ?_
            rw [f2, ← hx] at hc5
            cbv
            skip
            refine fsign_s h (l := 100) (a3.le (by omega)) (by decide) fun c6 hc6 => ?_
            rw [← hc6] at hc5
            have f5' := f5
            rw [← hc6] at f5'
            cbv
            refine h.mul' (by (simp only [inR, cmpP, loOk, hiOk, Int.ofNat_eq_natCast, Int.negSucc_eq, IntKind.bits, Int.toNat_natCast, ge_iff_le, gt_iff_lt, ne_eq, wl_len, hl_len, natCast_fold, not_true_eq_false, not_false_eq_true] at * <;> omega)) fun m hm => ?_
            have hm : m = c5 := by rw [hm, hc5]
            subst hm
            cbv
            refine h.no rfl (fun hh => hh rfl) ?_
            cbv
            (refine Good.chk' ‹_› rfl ?_; cbv)
            refine ffloor_s h (l := 100) (a1.le (by omega)) (by decide) fun _ _ z1 => ?_
            cbv
            skip
            refine ffromZ_s h (l := 100) (z1.r.le (by omega)) (by decide) fun _ _ _ _ ulo => ?_
            cbv
            skip
            refine fceil_s h (l := 100) (a1.le (by omega)) (by decide) fun _ _ z2 => ?_
            cbv
            skip
            refine ffromZ_s h (l := 100) (z2.r.le (by omega)) (by decide) fun _ _ _ _ uhi => ?_
            cbv
            (refine Good.chk' ‹_› rfl ?_; cbv)
            refine ffromInt_s h (n := 1) ⟨by decide, by decide⟩ fun _ _ uone => ?_
            cbv
            skip
            refine fcmp_s h (l := 100) (ulo.r.le (by omega)) (a1.le (by omega)) (by decide) fun c7 hc7 => ?_
            rw [← hc7] at f7
            cbv
            (refine Good.no ‹_› rfl ?_ ?_; (· (simp only [inR, cmpP, loOk, hiOk, Int.ofNat_eq_natCast, Int.negSucc_eq, IntKind.bits, Int.toNat_natCast, ge_iff_le, gt_iff_lt, ne_eq, wl_len, hl_len, natCast_fold, not_true_eq_false, not_false_eq_true] at * <;> omega)); cbv)
            refine fcmp_s h (l := 100) (uhi.r.le (by omega)) (a1.le (by omega)) (by decide) fun c8 hc8 => ?_
            rw [← hc8] at f8
            cbv
            (refine Good.no ‹_› rfl ?_ ?_; (· (simp only [inR, cmpP, loOk, hiOk, Int.ofNat_eq_natCast, Int.negSucc_eq, IntKind.bits, Int.toNat_natCast, ge_iff_le, gt_iff_lt, ne_eq, wl_len, hl_len, natCast_fold, not_true_eq_false, not_false_eq_true] at * <;> omega)); cbv)
            (refine fadd_s h (l := 100) (ulo.r.le (by omega)) (uone.r.le (by omega)) (by decide) fun _ _ _ _ u5 => ?_
             cbv
             skip
            )
            refine fcmp_s h (l := 100) (u5.r.le (by omega)) (a1.le (by omega)) (by decide) fun c9 hc9 => ?_
            rw [← hc9] at f9
            cbv
            (refine Good.no ‹_› rfl ?_ ?_; (· (simp only [inR, cmpP, loOk, hiOk, Int.ofNat_eq_natCast, Int.negSucc_eq, IntKind.bits, Int.toNat_natCast, ge_iff_le, gt_iff_lt, ne_eq, wl_len, hl_len, natCast_fold, not_true_eq_false, not_false_eq_true] at * <;> omega)); cbv)
            (refine fsub_s h (l := 100) (uhi.r.le (by omega)) (uone.r.le (by omega)) (by decide) fun _ _ _ _ u6 => ?_
             cbv
             skip
            )
            refine fcmp_s h (l := 100) (u6.r.le (by omega)) (a1.le (by omega)) (by decide) fun c10 hc10 => ?_
            rw [← hc10] at f10
            cbv
            (refine Good.no ‹_› rfl ?_ ?_; (· (simp only [inR, cmpP, loOk, hiOk, Int.ofNat_eq_natCast, Int.negSucc_eq, IntKind.bits, Int.toNat_natCast, ge_iff_le, gt_iff_lt, ne_eq, wl_len, hl_len, natCast_fold, not_true_eq_false, not_false_eq_true] at * <;> omega)); cbv; refine Good.chk' ‹_› rfl ?_; cbv)
            (refine fmin_s h (l := 100) (a1.le (by omega)) (a2.le (by omega)) (by decide) fun _ _ _ _ u7 => ?_
             cbv
             skip
            )
            (refine fmax_s h (l := 100) (a1.le (by omega)) (a2.le (by omega)) (by decide) fun _ _ _ _ u8 => ?_
             cbv
             skip
            )
            (refine fadd_s h (l := 100) (u7.r.le (by omega)) (u8.r.le (by omega)) (by decide) fun _ _ _ _ u9 => ?_
             cbv
             skip
            )
            (refine fadd_s h (l := 100) (a1.le (by omega)) (a2.le (by omega)) (by decide) fun _ _ _ _ u10 => ?_
             cbv
             skip
            )
            (refine fequal_s h (l := 100) (u9.r.le (by omega)) (u10.r.le (by omega)) (by decide) fun c hc => ?_
             have hc : c = true := by rw [hc, decide_eq_true_eq]; exact f11
             subst hc
             cbv
             skip
            )
            (refine fmin_s h (l := 100) (a1.le (by omega)) (a2.le (by omega)) (by decide) fun _ _ _ _ u11 => ?_
             cbv
             skip
            )
            (refine fmax_s h (l := 100) (a1.le (by omega)) (a2.le (by omega)) (by decide) fun _ _ _ _ u12 => ?_
             cbv
             skip
            )
            refine fcmp_s h (l := 100) (u11.r.le (by omega)) (u12.r.le (by omega)) (by decide) fun c12 hc12 => ?_
            rw [← hc12] at f12
            cbv
            (refine Good.yes ‹_› ?_ ?_; (· (simp only [inR, cmpP, loOk, hiOk, Int.ofNat_eq_natCast, Int.negSucc_eq, IntKind.bits, Int.toNat_natCast, ge_iff_le, gt_iff_lt, ne_eq, wl_len, hl_len, natCast_fold, not_true_eq_false, not_false_eq_true] at * <;> omega)); cbv)
            refine h.call' _ qalive_c ?_
            cbv
            (refine Good.chk' ‹_› rfl ?_; cbv)
            exact hQ
           )
         · rw [if_neg (by (simp only [inR, cmpP, loOk, hiOk, Int.ofNat_eq_natCast, Int.negSucc_eq, IntKind.bits, Int.toNat_natCast, ge_iff_le, gt_iff_lt, ne_eq, wl_len, hl_len, natCast_fold, not_true_eq_false, not_false_eq_true] at * <;> omega))] at hc3
           subst hc3
           cbv
           refine h.no rfl (fun hh => hh rfl) ?_
           cbv
           skip
           ((refine fadd_s h (l := 100) (a1.le (by omega)) (a3.le (by omega)) (by decide) fun _ _ _ _ u1 => ?_
             cbv
             skip
            )
            (refine fadd_s h (l := 100) (a2.le (by omega)) (a3.le (by omega)) (by decide) fun _ _ _ _ u2 => ?_
             cbv
             skip
            )
            refine fcmp_s h (l := 100) (u1.r.le (by omega)) (u2.r.le (by omega)) (by decide) fun c4 hc4 => ?_
            rw [f1, ← hx] at hc4
            subst hc4
            cbv
            (refine Good.no ‹_› rfl ?_ ?_; (· (simp only [inR, cmpP, loOk, hiOk, Int.ofNat_eq_natCast, Int.negSucc_eq, IntKind.bits, Int.toNat_natCast, ge_iff_le, gt_iff_lt, ne_eq, wl_len, hl_len, natCast_fold, not_true_eq_false, not_false_eq_true] at * <;> omega)); cbv)
            (refine fmul_s h (l := 100) (a1.le (by omega)) (a3.le (by omega)) (by decide) fun _ _ _ _ u3 => ?_
             cbv
             skip
            )
            (refine fmul_s h (l := 100) (a2.le (by omega)) (a3.le (by omega)) (by decide) fun _ _ _ _ u4 => ?_
             cbv
             skip
            )
            refine fcmp_s h (l := 100) (u3.r.le (by omega)) (u4.r.le (by omega)) (by decide) fun c5 hc5 => ?_
            rw [f2, ← hx] at hc5
            cbv
            skip
            refine fsign_s h (l := 100) (a3.le (by omega)) (by decide) fun c6 hc6 => ?_
            rw [← hc6] at hc5
            have f5' := f5
            rw [← hc6] at f5'
            cbv
            refine h.mul' (by (simp only [inR, cmpP, loOk, hiOk, Int.ofNat_eq_natCast, Int.negSucc_eq, IntKind.bits, Int.toNat_natCast, ge_iff_le, gt_iff_lt, ne_eq, wl_len, hl_len, natCast_fold, not_true_eq_false, not_false_eq_true] at * <;> omega)) fun m hm => ?_
            have hm : m = c5 := by rw [hm, hc5]
            subst hm
            cbv
            refine h.no rfl (fun hh => hh rfl) ?_
            cbv
            (refine Good.chk' ‹_› rfl ?_; cbv)
            refine ffloor_s h (l := 100) (a1.le (by omega)) (by decide) fun _ _ z1 => ?_
            cbv
            skip
            refine ffromZ_s h (l := 100) (z1.r.le (by omega)) (by decide) fun _ _ _ _ ulo => ?_
            cbv
            skip
            refine fceil_s h (l := 100) (a1.le (by omega)) (by decide) fun _ _ z2 => ?_
            cbv
            skip
            refine ffromZ_s h (l := 100) (z2.r.le (by omega)) (by decide) fun _ _ _ _ uhi => ?_
            cbv
            (refine Good.chk' ‹_› rfl ?_; cbv)
            refine ffromInt_s h (n := 1) ⟨by decide, by decide⟩ fun _ _ uone => ?_
            cbv
            skip
            refine fcmp_s h (l := 100) (ulo.r.le (by omega)) (a1.le (by omega)) (by decide) fun c7 hc7 => ?_
            rw [← hc7] at f7
            cbv
            (refine Good.no ‹_› rfl ?_ ?_; (· (simp only [inR, cmpP, loOk, hiOk, Int.ofNat_eq_natCast, Int.negSucc_eq, IntKind.bits, Int.toNat_natCast, ge_iff_le, gt_iff_lt, ne_eq, wl_len, hl_len, natCast_fold, not_true_eq_false, not_false_eq_true] at * <;> omega)); cbv)
            refine fcmp_s h (l := 100) (uhi.r.le (by omega)) (a1.le (by omega)) (by decide) fun c8 hc8 => ?_
            rw [← hc8] at f8
            cbv
            (refine Good.no ‹_› rfl ?_ ?_; (· (simp only [inR, cmpP, loOk, hiOk, Int.ofNat_eq_natCast, Int.negSucc_eq, IntKind.bits, Int.toNat_natCast, ge_iff_le, gt_iff_lt, ne_eq, wl_len, hl_len, natCast_fold, not_true_eq_false, not_false_eq_true] at * <;> omega)); cbv)
            (refine fadd_s h (l := 100) (ulo.r.le (by omega)) (uone.r.le (by omega)) (by decide) fun _ _ _ _ u5 => ?_
             cbv
             skip
            )
            refine fcmp_s h (l := 100) (u5.r.le (by omega)) (a1.le (by omega)) (by decide) fun c9 hc9 => ?_
            rw [← hc9] at f9
            cbv
            (refine Good.no ‹_› rfl ?_ ?_; (· (simp only [inR, cmpP, loOk, hiOk, Int.ofNat_eq_natCast, Int.negSucc_eq, IntKind.bits, Int.toNat_natCast, ge_iff_le, gt_iff_lt, ne_eq, wl_len, hl_len, natCast_fold, not_true_eq_false, not_false_eq_true] at * <;> omega)); cbv)
            (refine fsub_s h (l := 100) (uhi.r.le (by omega)) (uone.r.le (by omega)) (by decide) fun _ _ _ _ u6 => ?_
             cbv
             skip
            )
            refine fcmp_s h (l := 100) (u6.r.le (by omega)) (a1.le (by omega)) (by decide) fun c10 hc10 => ?_
            rw [← hc10] at f10
            cbv
            (refine Good.no ‹_› rfl ?_ ?_; (· (simp only [inR, cmpP, loOk, hiOk, Int.ofNat_eq_natCast, Int.negSucc_eq, IntKind.bits, Int.toNat_natCast, ge_iff_le, gt_iff_lt, ne_eq, wl_len, hl_len, natCast_fold, not_true_eq_false, not_false_eq_true] at * <;> omega)); cbv; refine Good.chk' ‹_› rfl ?_; cbv)
            (refine fmin_s h (l := 100) (a1.le (by omega)) (a2.le (by omega)) (by decide) fun _ _ _ _ u7 => ?_
             cbv
             skip
            )
            (refine fmax_s h (l := 100) (a1.le (by omega)) (a2.le (by omega)) (by decide) fun _ _ _ _ u8 => ?_
             cbv
             skip
            )
            (refine fadd_s h (l := 100) (u7.r.le (by omega)) (u8.r.le (by omega)) (by decide) fun _ _ _ _ u9 => ?_
             cbv
             skip
            )
            (refine fadd_s h (l := 100) (a1.le (by omega)) (a2.le (by omega)) (by decide) fun _ _ _ _ u10 => ?_
             cbv
             skip
            )
            (refine fequal_s h (l := 100) (u9.r.le (by omega)) (u10.r.le (by omega)) (by decide) fun c hc => ?_
             have hc : c = true := by rw [hc, decide_eq_true_eq]; exact f11
             subst hc
             cbv
             skip
            )
            (refine fmin_s h (l := 100) (a1.le (by omega)) (a2.le (by omega)) (by decide) fun _ _ _ _ u11 => ?_
             cbv
             skip
            )
            (refine fmax_s h (l := 100) (a1.le (by omega)) (a2.le (by omega)) (by decide) fun _ _ _ _ u12 => ?_
             cbv
             skip
            )
            refine fcmp_s h (l := 100) (u11.r.le (by omega)) (u12.r.le (by omega)) (by decide) fun c12 hc12 => ?_
            rw [← hc12] at f12
            cbv
            (refine Good.yes ‹_› ?_ ?_; (· (simp only [inR, cmpP, loOk, hiOk, Int.ofNat_eq_natCast, Int.negSucc_eq, IntKind.bits, Int.toNat_natCast, ge_iff_le, gt_iff_lt, ne_eq, wl_len, hl_len, natCast_fold, not_true_eq_false, not_false_eq_true] at * <;> omega)); cbv)
            refine h.call' _ qalive_c ?_
            cbv
            (refine Good.chk' ‹_› rfl ?_; cbv)
            exact hQ
           )
       · cbv
         (refine Good.yes ‹_› ?_ ?_; (· (simp only [inR, cmpP, loOk, hiOk, Int.ofNat_eq_natCast, Int.negSucc_eq, IntKind.bits, Int.toNat_natCast, ge_iff_le, gt_iff_lt, ne_eq, wl_len, hl_len, natCast_fold, not_true_eq_false, not_false_eq_true] at * <;> omega)); cbv; refine Good.no ‹_› rfl ?_ ?_; (· (simp only [inR, cmpP, loOk, hiOk, Int.ofNat_eq_natCast, Int.negSucc_eq, IntKind.bits, Int.toNat_natCast, ge_iff_le, gt_iff_lt, ne_eq, wl_len, hl_len, natCast_fold, not_true_eq_false, not_false_eq_true] at * <;> omega)); cbv)
         ((refine fadd_s h (l := 100) (a1.le (by omega)) (a3.le (by omega)) (by decide) fun _ _ _ _ u1 => ?_
           cbv
           skip
          )
          (refine fadd_s h (l := 100) (a2.le (by omega)) (a3.le (by omega)) (by decide) fun _ _ _ _ u2 => ?_
           cbv
           skip
          )
          refine fcmp_s h (l := 100) (u1.r.le (by omega)) (u2.r.le (by omega)) (by decide) fun c4 hc4 => ?_
          rw [f1, ← hx] at hc4
          subst hc4
          cbv
          (refine Good.no ‹_› rfl ?_ ?_; (· (simp only [inR, cmpP, loOk, hiOk, Int.ofNat_eq_natCast, Int.negSucc_eq, IntKind.bits, Int.toNat_natCast, ge_iff_le, gt_iff_lt, ne_eq, wl_len, hl_len, natCast_fold, not_true_eq_false, not_false_eq_true] at * <;> omega)); cbv)
          (refine fmul_s h (l := 100) (a1.le (by omega)) (a3.le (by omega)) (by decide) fun _ _ _ _ u3 => ?_
           cbv
           skip
          )
          (refine fmul_s h (l := 100) (a2.le (by omega)) (a3.le (by omega)) (by decide) fun _ _ _ _ u4 => ?_
           cbv
           skip
          )
          refine fcmp_s h (l := 100) (u3.r.le (by omega)) (u4.r.le (by omega)) (by decide) fun c5 hc5 => ?_
          rw [f2, ← hx] at hc5
          cbv
          skip
          refine fsign_s h (l := 100) (a3.le (by omega)) (by decide) fun c6 hc6 => ?_
          rw [← hc6] at hc5
          have f5' := f5
          rw [← hc6] at f5'
          cbv
          refine h.mul' (by (simp only [inR, cmpP, loOk, hiOk, Int.ofNat_eq_natCast, Int.negSucc_eq, IntKind.bits, Int.toNat_natCast, ge_iff_le, gt_iff_lt, ne_eq, wl_len, hl_len, natCast_fold, not_true_eq_false, not_false_eq_true] at * <;> omega)) fun m hm => ?_
          have hm : m = c5 := by rw [hm, hc5]
          subst hm
          cbv
          refine h.no rfl (fun hh => hh rfl) ?_
          cbv
          (refine Good.chk' ‹_› rfl ?_; cbv)
          refine ffloor_s h (l := 100) (a1.le (by omega)) (by decide) fun _ _ z1 => ?_
          cbv
          skip
          refine ffromZ_s h (l := 100) (z1.r.le (by omega)) (by decide) fun _ _ _ _ ulo => ?_
          cbv
          skip
          refine fceil_s h (l := 100) (a1.le (by omega)) (by decide) fun _ _ z2 => ?_
          cbv
          skip
          refine ffromZ_s h (l := 100) (z2.r.le (by omega)) (by decide) fun _ _ _ _ uhi => ?_
          cbv
          (refine Good.chk' ‹_› rfl ?_; cbv)
          refine ffromInt_s h (n := 1) ⟨by decide, by decide⟩ fun _ _ uone => ?_
          cbv
          skip
          refine fcmp_s h (l := 100) (ulo.r.le (by omega)) (a1.le (by omega)) (by decide) fun c7 hc7 => ?_
          rw [← hc7] at f7
          cbv
          (refine Good.no ‹_› rfl ?_ ?_; (· (simp only [inR, cmpP, loOk, hiOk, Int.ofNat_eq_natCast, Int.negSucc_eq, IntKind.bits, Int.toNat_natCast, ge_iff_le, gt_iff_lt, ne_eq, wl_len, hl_len, natCast_fold, not_true_eq_false, not_false_eq_true] at * <;> omega)); cbv)
          refine fcmp_s h (l := 100) (uhi.r.le (by omega)) (a1.le (by omega)) (by decide) fun c8 hc8 => ?_
          rw [← hc8] at f8
          cbv
          (refine Good.no ‹_› rfl ?_ ?_; (· (simp only [inR, cmpP, loOk, hiOk, Int.ofNat_eq_natCast, Int.negSucc_eq, IntKind.bits, Int.toNat_natCast, ge_iff_le, gt_iff_lt, ne_eq, wl_len, hl_len, natCast_fold, not_true_eq_false, not_false_eq_true] at * <;> omega)); cbv)
          (refine fadd_s h (l := 100) (ulo.r.le (by omega)) (uone.r.le (by omega)) (by decide) fun _ _ _ _ u5 => ?_
           cbv
           skip
          )
          refine fcmp_s h (l := 100) (u5.r.le (by omega)) (a1.le (by omega)) (by decide) fun c9 hc9 => ?_
          rw [← hc9] at f9
          cbv
          (refine Good.no ‹_› rfl ?_ ?_; (· (simp only [inR, cmpP, loOk, hiOk, Int.ofNat_eq_natCast, Int.negSucc_eq, IntKind.bits, Int.toNat_natCast, ge_iff_le, gt_iff_lt, ne_eq, wl_len, hl_len, natCast_fold, not_true_eq_false, not_false_eq_true] at * <;> omega)); cbv)
          (refine fsub_s h (l := 100) (uhi.r.le (by omega)) (uone.r.le (by omega)) (by decide) fun _ _ _ _ u6 => ?_
           cbv
           skip
          )
          refine fcmp_s h (l := 100) (u6.r.le (by omega)) (a1.le (by omega)) (by decide) fun c10 hc10 => ?_
          rw [← hc10] at f10
          cbv
          (refine Good.no ‹_› rfl ?_ ?_; (· (simp only [inR, cmpP, loOk, hiOk, Int.ofNat_eq_natCast, Int.negSucc_eq, IntKind.bits, Int.toNat_natCast, ge_iff_le, gt_iff_lt, ne_eq, wl_len, hl_len, natCast_fold, not_true_eq_false, not_false_eq_true] at * <;> omega)); cbv; refine Good.chk' ‹_› rfl ?_; cbv)
          (refine fmin_s h (l := 100) (a1.le (by omega)) (a2.le (by omega)) (by decide) fun _ _ _ _ u7 => ?_
           cbv
           skip
          )
          (refine fmax_s h (l := 100) (a1.le (by omega)) (a2.le (by omega)) (by decide) fun _ _ _ _ u8 => ?_
           cbv
           skip
          )
          (refine fadd_s h (l := 100) (u7.r.le (by omega)) (u8.r.le (by omega)) (by decide) fun _ _ _ _ u9 => ?_
           cbv
           skip
          )
          (refine fadd_s h (l := 100) (a1.le (by omega)) (a2.le (by omega)) (by decide) fun _ _ _ _ u10 => ?_
           cbv
           skip
          )
          (refine fequal_s h (l := 100) (u9.r.le (by omega)) (u10.r.le (by omega)) (by decide) fun c hc => ?_
           have hc : c = true := by rw [hc, decide_eq_true_eq]; exact f11
           subst hc
           cbv
           skip
          )
          (refine fmin_s h (l := 100) (a1.le (by omega)) (a2.le (by omega)) (by decide) fun _ _ _ _ u11 => ?_
           cbv
           skip
          )
          (refine fmax_s h (l := 100) (a1.le (by omega)) (a2.le (by omega)) (by decide) fun _ _ _ _ u12 => ?_
           cbv
           skip
          )
          refine fcmp_s h (l := 100) (u11.r.le (by omega)) (u12.r.le (by omega)) (by decide) fun c12 hc12 => ?_
          rw [← hc12] at f12
          cbv
          (refine Good.yes ‹_› ?_ ?_; (· (simp only [inR, cmpP, loOk, hiOk, Int.ofNat_eq_natCast, Int.negSucc_eq, IntKind.bits, Int.toNat_natCast, ge_iff_le, gt_iff_lt, ne_eq, wl_len, hl_len, natCast_fold, not_true_eq_false, not_false_eq_true] at * <;> omega)); cbv)
          refine h.call' _ qalive_c ?_
          cbv
          (refine Good.chk' ‹_› rfl ?_; cbv)
          exact hQ
         )
      )
    · cbv
      (refine Good.no ‹_› rfl ?_ ?_; (· (simp only [inR, cmpP, loOk, hiOk, Int.ofNat_eq_natCast, Int.negSucc_eq, IntKind.bits, Int.toNat_natCast, ge_iff_le, gt_iff_lt, ne_eq, wl_len, hl_len, natCast_fold, not_true_eq_false, not_false_eq_true] at * <;> omega)); cbv)
      refine fequal_s h (l := 100) (a1.le (by omega)) (a2.le (by omega)) (by decide) fun c hc => ?_
      have hc : c = false := by rw [hc]; exact decide_eq_false fun hh => hx0 (f13.2 hh)
      subst hc
      cbv
      refine h.beq' fun c hc => ?_
      have hc : c = false := by rw [hc]; rfl
      subst hc
      (by_cases hx1 : x ≤ 0
       · by_cases hy1 : y ≤ 0
         · cbv
           (refine Good.yes ‹_› ?_ ?_; (· (simp only [inR, cmpP, loOk, hiOk, Int.ofNat_eq_natCast, Int.negSucc_eq, IntKind.bits, Int.toNat_natCast, ge_iff_le, gt_iff_lt, ne_eq, wl_len, hl_len, natCast_fold, not_true_eq_false, not_false_eq_true] at * <;> omega)); cbv; refine Good.yes ‹_› ?_ ?_; (· (simp only [inR, cmpP, loOk, hiOk, Int.ofNat_eq_natCast, Int.negSucc_eq, IntKind.bits, Int.toNat_natCast, ge_iff_le, gt_iff_lt, ne_eq, wl_len, hl_len, natCast_fold, not_true_eq_false, not_false_eq_true] at * <;> omega)); cbv)
           refine fcmp_s h (l := 100) (a1.le (by omega)) (a3.le (by omega)) (by decide) fun c3 hc3 => ?_
           rw [sgnQ_min (by rw [← hx]; exact hx1) (by rw [← hy]; exact hy1), ← hx, ← hy, if_neg (by omega)] at hc3
           subst hc3
           cbv
           (refine Good.no ‹_› rfl ?_ ?_; (· (simp only [inR, cmpP, loOk, hiOk, Int.ofNat_eq_natCast, Int.negSucc_eq, IntKind.bits, Int.toNat_natCast, ge_iff_le, gt_iff_lt, ne_eq, wl_len, hl_len, natCast_fold, not_true_eq_false, not_false_eq_true] at * <;> omega)); cbv; refine Good.no ‹_› rfl ?_ ?_; (· (simp only [inR, cmpP, loOk, hiOk, Int.ofNat_eq_natCast, Int.negSucc_eq, IntKind.bits, Int.toNat_natCast, ge_iff_le, gt_iff_lt, ne_eq, wl_len, hl_len, natCast_fold, not_true_eq_false, not_false_eq_true] at * <;> omega)); cbv)
           ((refine fadd_s h (l := 100) (a1.le (by omega)) (a3.le (by omega)) (by decide) fun _ _ _ _ u1 => ?_
             cbv
             skip
            )
            (refine fadd_s h (l := 100) (a2.le (by omega)) (a3.le (by omega)) (by decide) fun _ _ _ _ u2 => ?_
             cbv
             skip
            )
            refine fcmp_s h (l := 100) (u1.r.le (by omega)) (u2.r.le (by omega)) (by decide) fun c4 hc4 => ?_
            rw [f1, ← hx] at hc4
            subst hc4
            cbv
            (refine Good.no ‹_› rfl ?_ ?_; (· (simp only [inR, cmpP, loOk, hiOk, Int.ofNat_eq_natCast, Int.negSucc_eq, IntKind.bits, Int.toNat_natCast, ge_iff_le, gt_iff_lt, ne_eq, wl_len, hl_len, natCast_fold, not_true_eq_false, not_false_eq_true] at * <;> omega)); cbv)
            (refine fmul_s h (l := 100) (a1.le (by omega)) (a3.le (by omega)) (by decide) fun _ _ _ _ u3 => ?_
             cbv
             skip
            )
            (refine fmul_s h (l := 100) (a2.le (by omega)) (a3.le (by omega)) (by decide) fun _ _ _ _ u4 => ?_
             cbv
             skip
            )
            refine fcmp_s h (l := 100) (u3.r.le (by omega)) (u4.r.le (by omega)) (by decide) fun c5 hc5 => ?_
            rw [f2, ← hx] at hc5
            cbv
            skip
            refine fsign_s h (l := 100) (a3.le (by omega)) (by decide) fun c6 hc6 => ?_
            rw [← hc6] at hc5
            have f5' := f5
            rw [← hc6] at f5'
            cbv
            refine h.mul' (by (simp only [inR, cmpP, loOk, hiOk, Int.ofNat_eq_natCast, Int.negSucc_eq, IntKind.bits, Int.toNat_natCast, ge_iff_le, gt_iff_lt, ne_eq, wl_len, hl_len, natCast_fold, not_true_eq_false, not_false_eq_true] at * <;> omega)) fun m hm => ?_
            have hm : m = c5 := by rw [hm, hc5]
            subst hm
            cbv
            refine h.no rfl (fun hh => hh rfl) ?_
            cbv
            (refine Good.chk' ‹_› rfl ?_; cbv)
            refine ffloor_s h (l := 100) (a1.le (by omega)) (by decide) fun _ _ z1 => ?_
            cbv
            skip
            refine ffromZ_s h (l := 100) (z1.r.le (by omega)) (by decide) fun _ _ _ _ ulo => ?_
            cbv
            skip
            refine fceil_s h (l := 100) (a1.le (by omega)) (by decide) fun _ _ z2 => ?_
            cbv
            skip
            refine ffromZ_s h (l := 100) (z2.r.le (by omega)) (by decide) fun _ _ _ _ uhi => ?_
            cbv
            (refine Good.chk' ‹_› rfl ?_; cbv)
            refine ffromInt_s h (n := 1) ⟨by decide, by decide⟩ fun _ _ uone => ?_
            cbv
            skip
            refine fcmp_s h (l := 100) (ulo.r.le (by omega)) (a1.le (by omega)) (by decide) fun c7 hc7 => ?_
            rw [← hc7] at f7
            cbv
            (refine Good.no ‹_› rfl ?_ ?_; (· (simp only [inR, cmpP, loOk, hiOk, Int.ofNat_eq_natCast, Int.negSucc_eq, IntKind.bits, Int.toNat_natCast, ge_iff_le, gt_iff_lt, ne_eq, wl_len, hl_len, natCast_fold, not_true_eq_false, not_false_eq_true] at * <;> omega)); cbv)
            refine fcmp_s h (l := 100) (uhi.r.le (by omega)) (a1.le (by omega)) (by decide) fun c8 hc8 => ?_
            rw [← hc8] at f8
            cbv
            (refine Good.no ‹_› rfl ?_ ?_; (· (simp only [inR, cmpP, loOk, hiOk, Int.ofNat_eq_natCast, Int.negSucc_eq, IntKind.bits, Int.toNat_natCast, ge_iff_le, gt_iff_lt, ne_eq, wl_len, hl_len, natCast_fold, not_true_eq_false, not_false_eq_true] at * <;> omega)); cbv)
            (refine fadd_s h (l := 100) (ulo.r.le (by omega)) (uone.r.le (by omega)) (by decide) fun _ _ _ _ u5 => ?_
             cbv
             skip
            )
            refine fcmp_s h (l := 100) (u5.r.le (by omega)) (a1.le (by omega)) (by decide) fun c9 hc9 => ?_
            rw [← hc9] at f9
            cbv
            (refine Good.no ‹_› rfl ?_ ?_; (· (simp only [inR, cmpP, loOk, hiOk, Int.ofNat_eq_natCast, Int.negSucc_eq, IntKind.bits, Int.toNat_natCast, ge_iff_le, gt_iff_lt, ne_eq, wl_len, hl_len, natCast_fold, not_true_eq_false, not_false_eq_true] at * <;> omega)); cbv)
            (refine fsub_s h (l := 100) (uhi.r.le (by omega)) (uone.r.le (by omega)) (by decide) fun _ _ _ _ u6 => ?_
             cbv
             skip
            )
            refine fcmp_s h (l := 100) (u6.r.le (by omega)) (a1.le (by omega)) (by decide) fun c10 hc10 => ?_
            rw [← hc10] at f10
            cbv
            (refine Good.no ‹_› rfl ?_ ?_; (· (simp only [inR, cmpP, loOk, hiOk, Int.ofNat_eq_natCast, Int.negSucc_eq, IntKind.bits, Int.toNat_natCast, ge_iff_le, gt_iff_lt, ne_eq, wl_len, hl_len, natCast_fold, not_true_eq_false, not_false_eq_true] at * <;> omega)); cbv; refine Good.chk' ‹_› rfl ?_; cbv)
            (refine fmin_s h (l := 100) (a1.le (by omega)) (a2.le (by omega)) (by decide) fun _ _ _ _ u7 => ?_
             cbv
             skip
            )
            (refine fmax_s h (l := 100) (a1.le (by omega)) (a2.le (by omega)) (by decide) fun _ _ _ _ u8 => ?_
             cbv
             skip
            )
            (refine fadd_s h (l := 100) (u7.r.le (by omega)) (u8.r.le (by omega)) (by decide) fun _ _ _ _ u9 => ?_
             cbv
             skip
            )
            (refine fadd_s h (l := 100) (a1.le (by omega)) (a2.le (by omega)) (by decide) fun _ _ _ _ u10 => ?_
             cbv
             skip
            )
            (refine fequal_s h (l := 100) (u9.r.le (by omega)) (u10.r.le (by omega)) (by decide) fun c hc => ?_
             have hc : c = true := by rw [hc, decide_eq_true_eq]; exact f11
             subst hc
             cbv
             skip
            )
            (refine fmin_s h (l := 100) (a1.le (by omega)) (a2.le (by omega)) (by decide) fun _ _ _ _ u11 => ?_
             cbv
             skip
            )
            (refine fmax_s h (l := 100) (a1.le (by omega)) (a2.le (by omega)) (by decide) fun _ _ _ _ u12 => ?_
             cbv
             skip
            )
            refine fcmp_s h (l := 100) (u11.r.le (by omega)) (u12.r.le (by omega)) (by decide) fun c12 hc12 => ?_
            rw [← hc12] at f12
            cbv
            (refine Good.yes ‹_› ?_ ?_; (· (simp only [inR, cmpP, loOk, hiOk, Int.ofNat_eq_natCast, Int.negSucc_eq, IntKind.bits, Int.toNat_natCast, ge_iff_le, gt_iff_lt, ne_eq, wl_len, hl_len, natCast_fold, not_true_eq_false, not_false_eq_true] at * <;> omega)); cbv)
            refine h.call' _ qalive_c ?_
            cbv
            (refine Good.chk' ‹_› rfl ?_; cbv)
            exact hQ
           )
         · cbv
           (refine Good.yes ‹_› ?_ ?_; (· (simp only [inR, cmpP, loOk, hiOk, Int.ofNat_eq_natCast, Int.negSucc_eq, IntKind.bits, Int.toNat_natCast, ge_iff_le, gt_iff_lt, ne_eq, wl_len, hl_len, natCast_fold, not_true_eq_false, not_false_eq_true] at * <;> omega)); cbv; refine Good.no ‹_› rfl ?_ ?_; (· (simp only [inR, cmpP, loOk, hiOk, Int.ofNat_eq_natCast, Int.negSucc_eq, IntKind.bits, Int.toNat_natCast, ge_iff_le, gt_iff_lt, ne_eq, wl_len, hl_len, natCast_fold, not_true_eq_false, not_false_eq_true] at * <;> omega)); cbv)
           ((refine fadd_s h (l := 100) (a1.le (by omega)) (a3.le (by omega)) (by decide) fun _ _ _ _ u1 => ?_
             cbv
             skip
            )
            (refine fadd_s h (l := 100) (a2.le (by omega)) (a3.le (by omega)) (by decide) fun _ _ _ _ u2 => ?_
             cbv
             skip
            )
            refine fcmp_s h (l := 100) (u1.r.le (by omega)) (u2.r.le (by omega)) (by decide) fun c4 hc4 => ?_
            rw [f1, ← hx] at hc4
            subst hc4
            cbv
            (refine Good.no ‹_› rfl ?_ ?_; (· (simp only [inR, cmpP, loOk, hiOk, Int.ofNat_eq_natCast, Int.negSucc_eq, IntKind.bits, Int.toNat_natCast, ge_iff_le, gt_iff_lt, ne_eq, wl_len, hl_len, natCast_fold, not_true_eq_false, not_false_eq_true] at * <;> omega)); cbv)
            (refine fmul_s h (l := 100) (a1.le (by omega)) (a3.le (by omega)) (by decide) fun _ _ _ _ u3 => ?_
             cbv
             skip
            )
            (refine fmul_s h (l := 100) (a2.le (by omega)) (a3.le (by omega)) (by decide) fun _ _ _ _ u4 => ?_
             cbv
             skip
            )
            refine fcmp_s h (l := 100) (u3.r.le (by omega)) (u4.r.le (by omega)) (by decide) fun c5 hc5 => ?_
            rw [f2, ← hx] at hc5
            cbv
            skip
            refine fsign_s h (l := 100) (a3.le (by omega)) (by decide) fun c6 hc6 => ?_
            rw [← hc6] at hc5
            have f5' := f5
            rw [← hc6] at f5'
            cbv
            refine h.mul' (by (simp only [inR, cmpP, loOk, hiOk, Int.ofNat_eq_natCast, Int.negSucc_eq, IntKind.bits, Int.toNat_natCast, ge_iff_le, gt_iff_lt, ne_eq, wl_len, hl_len, natCast_fold, not_true_eq_false, not_false_eq_true] at * <;> omega)) fun m hm => ?_
            have hm : m = c5 := by rw [hm, hc5]
            subst hm
            cbv
            refine h.no rfl (fun hh => hh rfl) ?_
            cbv
            (refine Good.chk' ‹_› rfl ?_; cbv)
            refine ffloor_s h (l := 100) (a1.le (by omega)) (by decide) fun _ _ z1 => ?_
            cbv
            skip
            refine ffromZ_s h (l := 100) (z1.r.le (by omega)) (by decide) fun _ _ _ _ ulo => ?_
            cbv
            skip
            refine fceil_s h (l := 100) (a1.le (by omega)) (by decide) fun _ _ z2 => ?_
            cbv
            skip
            refine ffromZ_s h (l := 100) (z2.r.le (by omega)) (by decide) fun _ _ _ _ uhi => ?_
            cbv
            (refine Good.chk' ‹_› rfl ?_; cbv)
            refine ffromInt_s h (n := 1) ⟨by decide, by decide⟩ fun _ _ uone => ?_
            cbv
            skip
            refine fcmp_s h (l := 100) (ulo.r.le (by omega)) (a1.le (by omega)) (by decide) fun c7 hc7 => ?_
            rw [← hc7] at f7
            cbv
            (refine Good.no ‹_› rfl ?_ ?_; (· (simp only [inR, cmpP, loOk, hiOk, Int.ofNat_eq_natCast, Int.negSucc_eq, IntKind.bits, Int.toNat_natCast, ge_iff_le, gt_iff_lt, ne_eq, wl_len, hl_len, natCast_fold, not_true_eq_false, not_false_eq_true] at * <;> omega)); cbv)
            refine fcmp_s h (l := 100) (uhi.r.le (by omega)) (a1.le (by omega)) (by decide) fun c8 hc8 => ?_
            rw [← hc8] at f8
            cbv
            (refine Good.no ‹_› rfl ?_ ?_; (· (simp only [inR, cmpP, loOk, hiOk, Int.ofNat_eq_natCast, Int.negSucc_eq, IntKind.bits, Int.toNat_natCast, ge_iff_le, gt_iff_lt, ne_eq, wl_len, hl_len, natCast_fold, not_true_eq_false, not_false_eq_true] at * <;> omega)); cbv)
            (refine fadd_s h (l := 100) (ulo.r.le (by omega)) (uone.r.le (by omega)) (by decide) fun _ _ _ _ u5 => ?_
             cbv
             skip
            )
            refine fcmp_s h (l := 100) (u5.r.le (by omega)) (a1.le (by omega)) (by decide) fun c9 hc9 => ?_
            rw [← hc9] at f9
            cbv
            (refine Good.no ‹_› rfl ?_ ?_; (· (simp only [inR, cmpP, loOk, hiOk, Int.ofNat_eq_natCast, Int.negSucc_eq, IntKind.bits, Int.toNat_natCast, ge_iff_le, gt_iff_lt, ne_eq, wl_len, hl_len, natCast_fold, not_true_eq_false, not_false_eq_true] at * <;> omega)); cbv)
            (refine fsub_s h (l := 100) (uhi.r.le (by omega)) (uone.r.le (by omega)) (by decide) fun _ _ _ _ u6 => ?_
             cbv
             skip
            )
            refine fcmp_s h (l := 100) (u6.r.le (by omega)) (a1.le (by omega)) (by decide) fun c10 hc10 => ?_
            rw [← hc10] at f10
            cbv
            (refine Good.no ‹_› rfl ?_ ?_; (· (simp only [inR, cmpP, loOk, hiOk, Int.ofNat_eq_natCast, Int.negSucc_eq, IntKind.bits, Int.toNat_natCast, ge_iff_le, gt_iff_lt, ne_eq, wl_len, hl_len, natCast_fold, not_true_eq_false, not_false_eq_true] at * <;> omega)); cbv; refine Good.chk' ‹_› rfl ?_; cbv)
            (refine fmin_s h (l := 100) (a1.le (by omega)) (a2.le (by omega)) (by decide) fun _ _ _ _ u7 => ?_
             cbv
             skip
            )
            (refine fmax_s h (l := 100) (a1.le (by omega)) (a2.le (by omega)) (by decide) fun _ _ _ _ u8 => ?_
             cbv
             skip
            )
            (refine fadd_s h (l := 100) (u7.r.le (by omega)) (u8.r.le (by omega)) (by decide) fun _ _ _ _ u9 => ?_
             cbv
             skip
            )
            (refine fadd_s h (l := 100) (a1.le (by omega)) (a2.le (by omega)) (by decide) fun _ _ _ _ u10 => ?_
             cbv
             skip
            )
            (refine fequal_s h (l := 100) (u9.r.le (by omega)) (u10.r.le (by omega)) (by decide) fun c hc => ?_
             have hc : c = true := by rw [hc, decide_eq_true_eq]; exact f11
             subst hc
             cbv
             skip
            )
            (refine fmin_s h (l := 100) (a1.le (by omega)) (a2.le (by omega)) (by decide) fun _ _ _ _ u11 => ?_
             cbv
             skip
            )
            (refine fmax_s h (l := 100) (a1.le (by omega)) (a2.le (by omega)) (by decide) fun _ _ _ _ u12 => ?_
             cbv
             skip
            )
            refine fcmp_s h (l := 100) (u11.r.le (by omega)) (u12.r.le (by omega)) (by decide) fun c12 hc12 => ?_
            rw [← hc12] at f12
            cbv
            (refine Good.yes ‹_› ?_ ?_; (· (simp only [inR, cmpP, loOk, hiOk, Int.ofNat_eq_natCast, Int.negSucc_eq, IntKind.bits, Int.toNat_natCast, ge_iff_le, gt_iff_lt, ne_eq, wl_len, hl_len, natCast_fold, not_true_eq_false, not_false_eq_true] at * <;> omega)); cbv)
            refine h.call' _ qalive_c ?_
            cbv
            (refine Good.chk' ‹_› rfl ?_; cbv)
            exact hQ
           )
       · cbv
         (refine Good.no ‹_› rfl ?_ ?_; (· (simp only [inR, cmpP, loOk, hiOk, Int.ofNat_eq_natCast, Int.negSucc_eq, IntKind.bits, Int.toNat_natCast, ge_iff_le, gt_iff_lt, ne_eq, wl_len, hl_len, natCast_fold, not_true_eq_false, not_false_eq_true] at * <;> omega)); cbv)
         ((refine fadd_s h (l := 100) (a1.le (by omega)) (a3.le (by omega)) (by decide) fun _ _ _ _ u1 => ?_
           cbv
           skip
          )
          (refine fadd_s h (l := 100) (a2.le (by omega)) (a3.le (by omega)) (by decide) fun _ _ _ _ u2 => ?_
           cbv
           skip
          )
          refine fcmp_s h (l := 100) (u1.r.le (by omega)) (u2.r.le (by omega)) (by decide) fun c4 hc4 => ?_
          rw [f1, ← hx] at hc4
          subst hc4
          cbv
          (refine Good.no ‹_› rfl ?_ ?_; (· (simp only [inR, cmpP, loOk, hiOk, Int.ofNat_eq_natCast, Int.negSucc_eq, IntKind.bits, Int.toNat_natCast, ge_iff_le, gt_iff_lt, ne_eq, wl_len, hl_len, natCast_fold, not_true_eq_false, not_false_eq_true] at * <;> omega)); cbv)
          (refine fmul_s h (l := 100) (a1.le (by omega)) (a3.le (by omega)) (by decide) fun _ _ _ _ u3 => ?_
           cbv
           skip
          )
          (refine fmul_s h (l := 100) (a2.le (by omega)) (a3.le (by omega)) (by decide) fun _ _ _ _ u4 => ?_
           cbv
           skip
          )
          refine fcmp_s h (l := 100) (u3.r.le (by omega)) (u4.r.le (by omega)) (by decide) fun c5 hc5 => ?_
          rw [f2, ← hx] at hc5
          cbv
          skip
          refine fsign_s h (l := 100) (a3.le (by omega)) (by decide) fun c6 hc6 => ?_
          rw [← hc6] at hc5
          have f5' := f5
          rw [← hc6] at f5'
          cbv
          refine h.mul' (by (simp only [inR, cmpP, loOk, hiOk, Int.ofNat_eq_natCast, Int.negSucc_eq, IntKind.bits, Int.toNat_natCast, ge_iff_le, gt_iff_lt, ne_eq, wl_len, hl_len, natCast_fold, not_true_eq_false, not_false_eq_true] at * <;> omega)) fun m hm => ?_
          have hm : m = c5 := by rw [hm, hc5]
          subst hm
          cbv
          refine h.no rfl (fun hh => hh rfl) ?_
          cbv
          (refine Good.chk' ‹_› rfl ?_; cbv)
          refine ffloor_s h (l := 100) (a1.le (by omega)) (by decide) fun _ _ z1 => ?_
          cbv
          skip
          refine ffromZ_s h (l := 100) (z1.r.le (by omega)) (by decide) fun _ _ _ _ ulo => ?_
          cbv
          skip
          refine fceil_s h (l := 100) (a1.le (by omega)) (by decide) fun _ _ z2 => ?_
          cbv
          skip
          refine ffromZ_s h (l := 100) (z2.r.le (by omega)) (by decide) fun _ _ _ _ uhi => ?_
          cbv
          (refine Good.chk' ‹_› rfl ?_; cbv)
          refine ffromInt_s h (n := 1) ⟨by decide, by decide⟩ fun _ _ uone => ?_
          cbv
          skip
          refine fcmp_s h (l := 100) (ulo.r.le (by omega)) (a1.le (by omega)) (by decide) fun c7 hc7 => ?_
          rw [← hc7] at f7
          cbv
          (refine Good.no ‹_› rfl ?_ ?_; (· (simp only [inR, cmpP, loOk, hiOk, Int.ofNat_eq_natCast, Int.negSucc_eq, IntKind.bits, Int.toNat_natCast, ge_iff_le, gt_iff_lt, ne_eq, wl_len, hl_len, natCast_fold, not_true_eq_false, not_false_eq_true] at * <;> omega)); cbv)
          refine fcmp_s h (l := 100) (uhi.r.le (by omega)) (a1.le (by omega)) (by decide) fun c8 hc8 => ?_
          rw [← hc8] at f8
          cbv
          (refine Good.no ‹_› rfl ?_ ?_; (· (simp only [inR, cmpP, loOk, hiOk, Int.ofNat_eq_natCast, Int.negSucc_eq, IntKind.bits, Int.toNat_natCast, ge_iff_le, gt_iff_lt, ne_eq, wl_len, hl_len, natCast_fold, not_true_eq_false, not_false_eq_true] at * <;> omega)); cbv)
          (refine fadd_s h (l := 100) (ulo.r.le (by omega)) (uone.r.le (by omega)) (by decide) fun _ _ _ _ u5 => ?_
           cbv
           skip
          )
          refine fcmp_s h (l := 100) (u5.r.le (by omega)) (a1.le (by omega)) (by decide) fun c9 hc9 => ?_
          rw [← hc9] at f9
          cbv
          (refine Good.no ‹_› rfl ?_ ?_; (· (simp only [inR, cmpP, loOk, hiOk, Int.ofNat_eq_natCast, Int.negSucc_eq, IntKind.bits, Int.toNat_natCast, ge_iff_le, gt_iff_lt, ne_eq, wl_len, hl_len, natCast_fold, not_true_eq_false, not_false_eq_true] at * <;> omega)); cbv)
          (refine fsub_s h (l := 100) (uhi.r.le (by omega)) (uone.r.le (by omega)) (by decide) fun _ _ _ _ u6 => ?_
           cbv
           skip
          )
          refine fcmp_s h (l := 100) (u6.r.le (by omega)) (a1.le (by omega)) (by decide) fun c10 hc10 => ?_
          rw [← hc10] at f10
          cbv
          (refine Good.no ‹_› rfl ?_ ?_; (· (simp only [inR, cmpP, loOk, hiOk, Int.ofNat_eq_natCast, Int.negSucc_eq, IntKind.bits, Int.toNat_natCast, ge_iff_le, gt_iff_lt, ne_eq, wl_len, hl_len, natCast_fold, not_true_eq_false, not_false_eq_true] at * <;> omega)); cbv; refine Good.chk' ‹_› rfl ?_; cbv)
          (refine fmin_s h (l := 100) (a1.le (by omega)) (a2.le (by omega)) (by decide) fun _ _ _ _ u7 => ?_
           cbv
           skip
          )
          (refine fmax_s h (l := 100) (a1.le (by omega)) (a2.le (by omega)) (by decide) fun _ _ _ _ u8 => ?_
           cbv
           skip
          )
          (refine fadd_s h (l := 100) (u7.r.le (by omega)) (u8.r.le (by omega)) (by decide) fun _ _ _ _ u9 => ?_
           cbv
           skip
          )
          (refine fadd_s h (l := 100) (a1.le (by omega)) (a2.le (by omega)) (by decide) fun _ _ _ _ u10 => ?_
           cbv
           skip
          )
          (refine fequal_s h (l := 100) (u9.r.le (by omega)) (u10.r.le (by omega)) (by decide) fun c hc => ?_
           have hc : c = true := by rw [hc, decide_eq_true_eq]; exact f11
           subst hc
           cbv
           skip
          )
          (refine fmin_s h (l := 100) (a1.le (by omega)) (a2.le (by omega)) (by decide) fun _ _ _ _ u11 => ?_
           cbv
           skip
          )
          (refine fmax_s h (l := 100) (a1.le (by omega)) (a2.le (by omega)) (by decide) fun _ _ _ _ u12 => ?_
           cbv
           skip
          )
          refine fcmp_s h (l := 100) (u11.r.le (by omega)) (u12.r.le (by omega)) (by decide) fun c12 hc12 => ?_
          rw [← hc12] at f12
          cbv
          (refine Good.yes ‹_› ?_ ?_; (· (simp only [inR, cmpP, loOk, hiOk, Int.ofNat_eq_natCast, Int.negSucc_eq, IntKind.bits, Int.toNat_natCast, ge_iff_le, gt_iff_lt, ne_eq, wl_len, hl_len, natCast_fold, not_true_eq_false, not_false_eq_true] at * <;> omega)); cbv)
          refine h.call' _ qalive_c ?_
          cbv
          (refine Good.chk' ‹_› rfl ?_; cbv)
          exact hQ
         )
      )
  · cbv
    skip
    refine h.call' _ qalive_c ?_
    cbv
    skip
    exact hQ
end Go.Proofs.Ytpmlocilhhjifaa.Eng
