/- Chapter 1: the laws as contracts. -/
import Derived.Test.YtpmlocilhhjifaaLaw2
set_option maxRecDepth 100000
set_option linter.unusedSimpArgs false
set_option linter.unusedVariables false
set_option pp.maxSteps 200
namespace Go.Proofs.Ytpmlocilhhjifaa.Eng
open Go.RowKit
theorem examples_l : TT 5 [] [.one (.sc (.bool true))] := by
  refine con Try.func5 rfl (by kernel_rfl) (by kernel_rfl) fun π Q h hQ => ?_
  cbv
  refine alive_s h ?_
  cbv
  exact hQ
theorem remV_le (i j : Int) : (remV i j).natAbs ≤ j.natAbs := by
  unfold remV
  split
  · simp
  · rename_i h
    have h1 := Int.emod_nonneg i h
    have h2 := Int.emod_lt i h
    omega
theorem div_le (i j : Int) : (i / j).natAbs ≤ i.natAbs := Int.natAbs_ediv_le_natAbs i j
theorem gcd_le (i j : Int) : ((Int.gcd i j : Int)).natAbs ≤ i.natAbs + j.natAbs := by
  rw [Int.natAbs_natCast, Int.gcd]
  rcases Nat.eq_zero_or_pos i.natAbs with h | h
  · rw [h, Nat.gcd_zero_left]; omega
  · have := Nat.gcd_le_left j.natAbs h; omega
theorem divMatches_l {s s' : Bool} {t t' : Nat} {xs xs' : List (List D)} {ws ws' : List Nat} (hx : xs = wl ws) (hx' : xs' = wl ws') (ho : Ok BW ws) (ho' : Ok BW ws') : TT 3 [za s t xs, za s' t' xs'] [.one (.sc (.bool true))] := by
  refine con Try.func3 rfl (by kernel_rfl) (by kernel_rfl) fun π Q h hQ => ?_
  have hlx : xs.length = ws.length := by rw [hx, wl_len]
  have hlx' : xs'.length = ws'.length := by rw [hx', wl_len]
  cbv
  skip
  refine long_s h [(s, t, xs), (s', t', xs')] rfl (by simp) fun c hc => ?_
  cases c
  · simp only [List.any_cons, List.any_nil, Bool.or_false, Bool.false_eq, Bool.or_eq_false_iff, decide_eq_false_iff_not] at hc
    have w1 : ws.length ≤ 12 := by omega
    have w2 : ws'.length ≤ 12 := by omega
    have hz : Zr s xs (sg s (val BW ws)) 12 := ⟨ws, hx, ho, w1, rfl⟩
    have hz' : Zr s' xs' (sg s' (val BW ws')) 12 := ⟨ws', hx', ho', w2, rfl⟩
    obtain ⟨i, hi⟩ : ∃ i, i = sg s (val BW ws) := ⟨_, rfl⟩
    obtain ⟨j, hj⟩ : ∃ j, j = sg s' (val BW ws') := ⟨_, rfl⟩
    rw [← hi] at hz
    rw [← hj] at hz'
    cbv
    skip
    have li := hz.len
    have lj := hz'.len
    have ld := dg_len_mono BW2 (div_le i j)
    have lr := dg_len_mono BW2 (remV_le i j)
    have lg := dg_len_mono BW2 (gcd_le i j)
    have lga := dg_len_add BW2 i.natAbs j.natAbs
    refine own_s h (fun y hy => wl_one (hx ▸ hy)) (by omega) ?_
    cbv
    refine own_s h (fun y hy => wl_one (hx' ▸ hy)) (by omega) ?_
    cbv
    (refine Good.chk' ‹_› rfl ?_; cbv)
    refine divMod_s h hz hz' (by decide) (by decide) fun bq yq br yr e q1 r1 e1 => ?_
    cbv
    skip
    refine rdivMod_s h hz hz' (by decide) (by decide) fun bq2 yq2 br2 yr2 e' q2 r2 e2 => ?_
    have hee : e = e' := by rw [e1, e2]
    cbv
    skip
    refine same_z h q1 q2 (by omega) (by omega) fun c hc => ?_
    have hc : c = true := by rw [hc]; simp
    subst hc
    cbv
    skip
    refine same_z h r1 r2 (by omega) (by omega) fun c hc => ?_
    have hc : c = true := by rw [hc]; simp
    subst hc
    cbv
    (refine Good.yes ‹_› ?_ ?_; (· (simp only [inR, cmpP, loOk, hiOk, Int.ofNat_eq_natCast, Int.negSucc_eq, IntKind.bits, Int.toNat_natCast, ge_iff_le, gt_iff_lt, ne_eq, wl_len, hl_len, natCast_fold] at * <;> omega)); cbv)
    refine gcd_s h hz hz' (by decide) (by decide) fun bg yg g1 => ?_
    cbv
    skip
    refine rgcd_s h hz hz' (by decide) (by decide) fun bg2 yg2 g2 => ?_
    cbv
    skip
    refine same_z h g1 g2 (by omega) (by omega) fun c hc => ?_
    have hc : c = true := by rw [hc]; simp
    subst hc
    cbv
    skip
    refine same_s h hx hx (by omega) (by omega) fun c hc => ?_
    have hc : c = true := by rw [hc]; simp
    subst hc
    cbv
    skip
    refine same_s h hx' hx' (by omega) (by omega) fun c hc => ?_
    have hc : c = true := by rw [hc]; simp
    subst hc
    cbv
    skip
    refine alive_s h ?_
    cbv
    (refine Good.chk' ‹_› rfl ?_; cbv)
    exact hQ
  · cbv
    skip
    refine alive_s h ?_
    cbv
    skip
    exact hQ
end Go.Proofs.Ytpmlocilhhjifaa.Eng
