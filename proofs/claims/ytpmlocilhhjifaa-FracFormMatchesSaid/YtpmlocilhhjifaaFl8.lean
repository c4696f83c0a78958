/- Chapter 2: FracFormMatches. -/
import Derived.Test.YtpmlocilhhjifaaFl6
set_option maxRecDepth 100000
set_option linter.unusedSimpArgs false
set_option linter.unusedVariables false
set_option pp.maxSteps 200
namespace Go.Proofs.Ytpmlocilhhjifaa.Eng
open Go.RowKit Go.Proofs
set_option maxHeartbeats 8000000 in
theorem fform_l {s1 s2 s3 : Bool} {t1 t2 t3 : Nat} {x1 x2 x3 : List (List D)} {w1 w2 w3 : List Nat} {n d : Int} (h1 : x1 = wl w1) (h2 : x2 = wl w2) (h3 : x3 = wl w3)
    (o1 : Ok BW w1) (o2 : Ok BW w2) (o3 : Ok BW w3) (hn : inR .i64 n) (hd : inR .i64 d) : TT 10 [qa s1 t1 x1 s2 t2 x2, .one (.sc (.int .i64 n)), .one (.sc (.int .i64 d)), za s3 t3 x3] [.one (.sc (.bool true))] := by
  refine con Try.func10 rfl (by kernel_rfl) (by kernel_rfl) fun π Q h hQ => ?_
  cbv
  skip
  refine qlong_s h [⟨s1, t1, x1, s2, t2, x2⟩] rfl (by simp) fun c hc => ?_
  cases c
  · have hl := qlong_f hc
    have b1 := hl ⟨s1, t1, x1, s2, t2, x2⟩ (by simp)
    simp only at b1
    have a1 := qr_raw (s := s1) (s' := s2) h1 h2 o1 o2 b1
    have v1 : w1.length ≤ 6 := by rw [← wl_len w1, ← h1]; exact b1.1
    have v2 : w2.length ≤ 6 := by rw [← wl_len w2, ← h2]; exact b1.2
    have v3 : x3.length = w3.length := by rw [h3, wl_len]
    have c1 : ∀ y ∈ x1, y.length = 1 := fun y hy => wl_one (h1 ▸ hy)
    have c2 : ∀ y ∈ x2, y.length = 1 := fun y hy => wl_one (h2 ▸ hy)
    cbv
    skip
    refine long_s h [(s3, t3, x3)] rfl (by simp) fun c hc => ?_
    cases c
    · have v4 : w3.length ≤ 12 := by
        simp only [List.any_cons, List.any_nil, Bool.or_false, Bool.false_eq, decide_eq_false_iff_not] at hc
        omega
      have hz : Zr s3 x3 (sg s3 (val BW w3)) 12 := ⟨w3, h3, o3, v4, rfl⟩
      obtain ⟨k, hk⟩ : ∃ k, k = sg s3 (val BW w3) := ⟨_, rfl⟩
      rw [← hk] at hz
      obtain ⟨i, hi⟩ : ∃ i, i = sg s1 (val BW w1) := ⟨_, rfl⟩
      obtain ⟨j, hj⟩ : ∃ j, j = sg s2 (val BW w2) := ⟨_, rfl⟩
      rw [← hi, ← hj] at a1
      obtain ⟨p, hp⟩ : ∃ p, p = qv i j := ⟨_, rfl⟩
      rw [← hp] at a1
      have l1 := a1.ql
      have l2 := ql_neg p
      have l3 := floor_len p
      have l4 := floor_len (-p)
      have l5 : (dg BW (-(-p).floor).natAbs).length = (dg BW (-p).floor.natAbs).length := by rw [Int.natAbs_neg]
      have l6 := num_len p
      have l7 := jq_len p
      have l8 : ∀ n : Int, (dg BW n.natAbs).length ≤ 100 → ql (n : Rat) ≤ 100 := fun n hn => by
        unfold ql
        rw [Rat.num_intCast, Rat.den_intCast]
        have : (dg BW 1).length ≤ 1 := dg_len BW2 (by rw [Nat.pow_one]; exact BW2)
        omega
      have l9 := small_len hn
      have l10 := hz.len
      have l11 : ql (Int.cast n : Rat) ≤ 100 := l8 n (by omega)
      have l12 : ql (Int.cast k : Rat) ≤ 100 := l8 k (by omega)
      have l14 := l8 n (by omega)
      have l15 := l8 k (by omega)
      have l13 : ql (qv n d) ≤ 2 := by
        obtain ⟨bn, zn, hzn⟩ := zcx n
        obtain ⟨bd, zd, hzd⟩ := zcx d
        have e1 := small_len hn
        have e2 := small_len hd
        exact Nat.le_trans (Qr.ql (l := 2) ⟨n, d, hzn.r.le e1, hzd.r.le e2, rfl⟩) (by decide)
      clear l8
      cbv
      skip
      refine qown_s h c1 c2 (by omega) (by omega) ?_
      cbv
      skip
      by_cases h0 : d = 0
      · subst h0
        refine fnew0_s h ?_
        cbv
        (refine Good.no ‹_› rfl ?_ ?_; (· (simp only [inR, cmpP, loOk, hiOk, Int.ofNat_eq_natCast, Int.negSucc_eq, IntKind.bits, Int.toNat_natCast, ge_iff_le, gt_iff_lt, ne_eq, wl_len, hl_len, natCast_fold, not_true_eq_false, not_false_eq_true] at * <;> omega)); cbv; refine Good.no ‹_› rfl ?_ ?_; (· (simp only [inR, cmpP, loOk, hiOk, Int.ofNat_eq_natCast, Int.negSucc_eq, IntKind.bits, Int.toNat_natCast, ge_iff_le, gt_iff_lt, ne_eq, wl_len, hl_len, natCast_fold, not_true_eq_false, not_false_eq_true] at * <;> omega)); cbv)
        refine h.beq' fun c hc => ?_
        have hc : c = false := by rw [hc]; rfl
        subst hc
        cbv
        (refine Good.yes ‹_› ?_ ?_; (· (simp only [inR, cmpP, loOk, hiOk, Int.ofNat_eq_natCast, Int.negSucc_eq, IntKind.bits, Int.toNat_natCast, ge_iff_le, gt_iff_lt, ne_eq, wl_len, hl_len, natCast_fold, not_true_eq_false, not_false_eq_true] at * <;> omega)); cbv; refine Good.no ‹_› rfl ?_ ?_; (· (simp only [inR, cmpP, loOk, hiOk, Int.ofNat_eq_natCast, Int.negSucc_eq, IntKind.bits, Int.toNat_natCast, ge_iff_le, gt_iff_lt, ne_eq, wl_len, hl_len, natCast_fold, not_true_eq_false, not_false_eq_true] at * <;> omega)); cbv)
        refine israw_s h (w1 := []) (w2 := []) (w3 := []) (w4 := []) rfl rfl rfl rfl (by decide) (by decide) (by decide) (by decide) fun c hc => ?_
        have hc : c = true := by rw [hc]; rfl
        subst hc
        cbv
        (refine Good.no ‹_› rfl ?_ ?_; (· (simp only [inR, cmpP, loOk, hiOk, Int.ofNat_eq_natCast, Int.negSucc_eq, IntKind.bits, Int.toNat_natCast, ge_iff_le, gt_iff_lt, ne_eq, wl_len, hl_len, natCast_fold, not_true_eq_false, not_false_eq_true] at * <;> omega)); cbv; refine Good.chk' ‹_› rfl ?_; cbv)
        (refine fcanon_s h (l := 100) (a1.le (by omega)) (by decide) fun _ _ _ _ u1 => ?_
         cbv
         skip
         refine rleast_s h (l := 100) (a1.le (by omega)) (by decide) fun _ _ _ _ u2 => ?_
         cbv
         skip
         (refine is_q h u1 u2 (by omega) (by omega) fun c hc => ?_
          have hc : c = true := by rw [hc]; exact decide_eq_true (Eq.refl p)
          subst hc
          cbv
          skip
         )
         refine h.call' _ (fiscan_c h1 h2 o1 o2 (by omega) (by omega) rfl rfl rfl) ?_
         rw [← hi, ← hj, ← hp]
         obtain ⟨c7, hc7⟩ : ∃ c7, c7 = decide ((s1 = decide (i < 0) ∧ w1 = dg BW i.natAbs) ∧ (s2 = decide (j < 0) ∧ w2 = dg BW j.natAbs) ∧ i = p.num ∧ j = jq p) := ⟨_, rfl⟩
         rw [← hc7]
         cbv
         skip
         refine rleast_s h (l := 100) (a1.le (by omega)) (by decide) fun b5 z5 b6 z6 u3 => ?_
         cbv
         skip
         refine israw_s h h1 h2 u3.1.2 u3.snd.2 (by omega) (by omega) (by omega) (by omega) fun c8 hc8 => ?_
         have hcc : c7 = c8 := by
           rw [hc7, hc8]
           congr 1
           rw [u3.1.1, u3.snd.1]
           refine propext ⟨fun hh => ?_, fun hh => ?_⟩
           · obtain ⟨⟨k1, k2⟩, ⟨k3, k4⟩, k5, k6⟩ := hh
             rw [← k5, ← k6]
             exact ⟨⟨k1, k2⟩, k3, k4⟩
           · obtain ⟨⟨k1, k2⟩, k3, k4⟩ := hh
             have e1 : i = p.num := by rw [hi]; exact sg_zc k1 k2
             have e2 : j = jq p := by rw [hj]; exact sg_zc k3 k4
             rw [e1, e2]
             exact ⟨⟨k1, k2⟩, ⟨k3, k4⟩, rfl, rfl⟩
         subst hcc
         clear hc8
         cbv
         skip
         refine h.beq' fun c hc => ?_
         have hc : c = false := by rw [hc]; cases c7 <;> rfl
         subst hc
         cbv
         skip
         refine ffromInt_s h hn fun _ _ u4 => ?_
         cbv
         skip
         refine rrint_s h hn fun _ _ u5 => ?_
         cbv
         skip
         (refine is_q h u4 u5 (by omega) (by omega) fun c hc => ?_
          have hc : c = true := by rw [hc]; exact decide_eq_true (Eq.refl _)
          subst hc
          cbv
          skip
         )
         refine ffromZ_s h (l := 100) (hz.le (by omega)) (by decide) fun _ _ _ _ u6 => ?_
         cbv
         skip
         refine least_s h (l := 100) (hz.le (by omega)) (by decide) fun _ _ u7 => ?_
         cbv
         skip
         refine is_q h u6 (int_qc u7) (Nat.le_trans l12 (by decide)) (Nat.le_trans l12 (by decide)) fun c hc => ?_
         have hc : c = true := by rw [hc]; exact decide_eq_true (Eq.refl _)
         subst hc
         cbv
         (refine Good.chk' ‹_› rfl ?_; cbv)
         refine ffloor_s h (l := 100) (a1.le (by omega)) (by decide) fun _ _ u8 => ?_
         cbv
         skip
         refine rrfloor_s h (l := 100) (a1.le (by omega)) (by decide) fun _ _ u9 => ?_
         cbv
         skip
         refine same_z h u8 u9 (by omega) (by omega) fun c hc => ?_
         have hc : c = true := by rw [hc]; exact decide_eq_true (Eq.refl _)
         subst hc
         cbv
         skip
         refine fceil_s h (l := 100) (a1.le (by omega)) (by decide) fun _ _ u8 => ?_
         cbv
         skip
         refine rrceil_s h (l := 100) (a1.le (by omega)) (by decide) fun _ _ u9 => ?_
         cbv
         skip
         refine same_z h u8 u9 (by omega) (by omega) fun c hc => ?_
         have hc : c = true := by rw [hc]; exact decide_eq_true (Eq.refl _)
         subst hc
         cbv
         skip
         refine israw_s h h1 h2 h1 h2 (by omega) (by omega) (by omega) (by omega) fun c hc => ?_
         have hc : c = true := by rw [hc]; exact decide_eq_true ⟨⟨rfl, rfl⟩, rfl, rfl⟩
         subst hc
         cbv
         skip
         refine h.call' _ qalive_c ?_
         cbv
         (refine Good.chk' ‹_› rfl ?_; cbv)
         exact hQ
        )
      · refine fnew_s h hn hd h0 fun _ _ _ _ u0 => ?_
        cbv
        (refine Good.yes ‹_› ?_ ?_; (· (simp only [inR, cmpP, loOk, hiOk, Int.ofNat_eq_natCast, Int.negSucc_eq, IntKind.bits, Int.toNat_natCast, ge_iff_le, gt_iff_lt, ne_eq, wl_len, hl_len, natCast_fold, not_true_eq_false, not_false_eq_true] at * <;> omega)); cbv; refine Good.yes ‹_› ?_ ?_; (· (simp only [inR, cmpP, loOk, hiOk, Int.ofNat_eq_natCast, Int.negSucc_eq, IntKind.bits, Int.toNat_natCast, ge_iff_le, gt_iff_lt, ne_eq, wl_len, hl_len, natCast_fold, not_true_eq_false, not_false_eq_true] at * <;> omega)); cbv)
        refine h.beq' fun c hc => ?_
        have hc : c = false := by rw [hc]; rfl
        subst hc
        cbv
        (refine Good.no ‹_› rfl ?_ ?_; (· (simp only [inR, cmpP, loOk, hiOk, Int.ofNat_eq_natCast, Int.negSucc_eq, IntKind.bits, Int.toNat_natCast, ge_iff_le, gt_iff_lt, ne_eq, wl_len, hl_len, natCast_fold, not_true_eq_false, not_false_eq_true] at * <;> omega)); cbv; refine Good.yes ‹_› ?_ ?_; (· (simp only [inR, cmpP, loOk, hiOk, Int.ofNat_eq_natCast, Int.negSucc_eq, IntKind.bits, Int.toNat_natCast, ge_iff_le, gt_iff_lt, ne_eq, wl_len, hl_len, natCast_fold, not_true_eq_false, not_false_eq_true] at * <;> omega)); cbv)
        refine rrof_s h hn hd fun _ _ _ _ u00 => ?_
        cbv
        skip
        (refine is_q h u0 u00 (by omega) (by omega) fun c hc => ?_
         have hc : c = true := by rw [hc]; exact decide_eq_true (Eq.refl _)
         subst hc
         cbv
         (refine Good.chk' ‹_› rfl ?_; cbv)
        )
        (refine fcanon_s h (l := 100) (a1.le (by omega)) (by decide) fun _ _ _ _ u1 => ?_
         cbv
         skip
         refine rleast_s h (l := 100) (a1.le (by omega)) (by decide) fun _ _ _ _ u2 => ?_
         cbv
         skip
         (refine is_q h u1 u2 (by omega) (by omega) fun c hc => ?_
          have hc : c = true := by rw [hc]; exact decide_eq_true (Eq.refl p)
          subst hc
          cbv
          skip
         )
         refine h.call' _ (fiscan_c h1 h2 o1 o2 (by omega) (by omega) rfl rfl rfl) ?_
         rw [← hi, ← hj, ← hp]
         obtain ⟨c7, hc7⟩ : ∃ c7, c7 = decide ((s1 = decide (i < 0) ∧ w1 = dg BW i.natAbs) ∧ (s2 = decide (j < 0) ∧ w2 = dg BW j.natAbs) ∧ i = p.num ∧ j = jq p) := ⟨_, rfl⟩
         rw [← hc7]
         cbv
         skip
         refine rleast_s h (l := 100) (a1.le (by omega)) (by decide) fun b5 z5 b6 z6 u3 => ?_
         cbv
         skip
         refine israw_s h h1 h2 u3.1.2 u3.snd.2 (by omega) (by omega) (by omega) (by omega) fun c8 hc8 => ?_
         have hcc : c7 = c8 := by
           rw [hc7, hc8]
           congr 1
           rw [u3.1.1, u3.snd.1]
           refine propext ⟨fun hh => ?_, fun hh => ?_⟩
           · obtain ⟨⟨k1, k2⟩, ⟨k3, k4⟩, k5, k6⟩ := hh
             rw [← k5, ← k6]
             exact ⟨⟨k1, k2⟩, k3, k4⟩
           · obtain ⟨⟨k1, k2⟩, k3, k4⟩ := hh
             have e1 : i = p.num := by rw [hi]; exact sg_zc k1 k2
             have e2 : j = jq p := by rw [hj]; exact sg_zc k3 k4
             rw [e1, e2]
             exact ⟨⟨k1, k2⟩, ⟨k3, k4⟩, rfl, rfl⟩
         subst hcc
         clear hc8
         cbv
         skip
         refine h.beq' fun c hc => ?_
         have hc : c = false := by rw [hc]; cases c7 <;> rfl
         subst hc
         cbv
         skip
         refine ffromInt_s h hn fun _ _ u4 => ?_
         cbv
         skip
         refine rrint_s h hn fun _ _ u5 => ?_
         cbv
         skip
         (refine is_q h u4 u5 (by omega) (by omega) fun c hc => ?_
          have hc : c = true := by rw [hc]; exact decide_eq_true (Eq.refl _)
          subst hc
          cbv
          skip
         )
         refine ffromZ_s h (l := 100) (hz.le (by omega)) (by decide) fun _ _ _ _ u6 => ?_
         cbv
         skip
         refine least_s h (l := 100) (hz.le (by omega)) (by decide) fun _ _ u7 => ?_
         cbv
         skip
         refine is_q h u6 (int_qc u7) (Nat.le_trans l12 (by decide)) (Nat.le_trans l12 (by decide)) fun c hc => ?_
         have hc : c = true := by rw [hc]; exact decide_eq_true (Eq.refl _)
         subst hc
         cbv
         (refine Good.chk' ‹_› rfl ?_; cbv)
         refine ffloor_s h (l := 100) (a1.le (by omega)) (by decide) fun _ _ u8 => ?_
         cbv
         skip
         refine rrfloor_s h (l := 100) (a1.le (by omega)) (by decide) fun _ _ u9 => ?_
         cbv
         skip
         refine same_z h u8 u9 (by omega) (by omega) fun c hc => ?_
         have hc : c = true := by rw [hc]; exact decide_eq_true (Eq.refl _)
         subst hc
         cbv
         skip
         refine fceil_s h (l := 100) (a1.le (by omega)) (by decide) fun _ _ u8 => ?_
         cbv
         skip
         refine rrceil_s h (l := 100) (a1.le (by omega)) (by decide) fun _ _ u9 => ?_
         cbv
         skip
         refine same_z h u8 u9 (by omega) (by omega) fun c hc => ?_
         have hc : c = true := by rw [hc]; exact decide_eq_true (Eq.refl _)
         subst hc
         cbv
         skip
         refine israw_s h h1 h2 h1 h2 (by omega) (by omega) (by omega) (by omega) fun c hc => ?_
         have hc : c = true := by rw [hc]; exact decide_eq_true ⟨⟨rfl, rfl⟩, rfl, rfl⟩
         subst hc
         cbv
         skip
         refine h.call' _ qalive_c ?_
         cbv
         (refine Good.chk' ‹_› rfl ?_; cbv)
         exact hQ
        )
    · cbv
      skip
      refine h.call' _ qalive_c ?_
      cbv
      skip
      exact hQ
  · cbv
    skip
    refine h.call' _ qalive_c ?_
    cbv
    skip
    exact hQ
end Go.Proofs.Ytpmlocilhhjifaa.Eng
