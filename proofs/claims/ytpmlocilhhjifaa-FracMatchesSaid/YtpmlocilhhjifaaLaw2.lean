/- Chapter 1: alive, divides. -/
import Derived.Test.YtpmlocilhhjifaaLaw1
set_option maxRecDepth 100000
set_option linter.unusedSimpArgs false
set_option linter.unusedVariables false
set_option pp.maxSteps 200
namespace Go.Proofs.Ytpmlocilhhjifaa.Eng
open Go.RowKit
theorem len2 {n : Int} (h1 : -9223372036854775808 ≤ n) (h2 : n ≤ 9223372036854775807) : (dg BW n.natAbs).length ≤ 2 := small_len ⟨h1, h2⟩
set_option maxHeartbeats 4000000 in
theorem alive_c : TT 22 [] [.one (.sc (.bool true))] := by
  refine con Try.func22 rfl (by kernel_rfl) (by kernel_rfl) fun π Q h hQ => ?_
  have k2 : ∀ {n : Int}, -9223372036854775808 ≤ n → n ≤ 9223372036854775807 → (dg BW n.natAbs).length ≤ 100000 := fun h1 h2 => Nat.le_trans (len2 h1 h2) (by decide)
  cbv
  refine n_s h ⟨by decide, by decide⟩ fun b1 y1 z1 => ?_
  cbv
  refine n_s h ⟨by decide, by decide⟩ fun b2 y2 z2 => ?_
  cbv
  refine divMod_s h z1.r z2.r (k2 (by decide) (by decide)) (k2 (by decide) (by decide)) fun ba ya bb yb e ha hb he => ?_
  have he : e = 0 := by rw [he]; rfl
  cbv
  skip
  refine n_s h ⟨by decide, by decide⟩ fun b3 y3 z3 => ?_
  cbv
  refine n_s h ⟨by decide, by decide⟩ fun b4 y4 z4 => ?_
  cbv
  refine divMod_s h z3.r z4.r (k2 (by decide) (by decide)) (k2 (by decide) (by decide)) fun bc yc bd yd e' hcc hd he' => ?_
  have he' : e' = 0 := by rw [he']; rfl
  cbv
  skip
  refine n_s h ⟨by decide, by decide⟩ fun b5 y5 z5 => ?_
  cbv
  refine n_s h ⟨by decide, by decide⟩ fun b6 y6 z6 => ?_
  cbv
  refine divMod_s h z5.r z6.r (k2 (by decide) (by decide)) (k2 (by decide) (by decide)) fun bg yg bh yh e'' hg hh he'' => ?_
  have he'' : e'' = 0 := by rw [he'']; rfl
  cbv
  skip
  refine parse_s h (l0 := [45, 48]) rfl (by decide) fun bp yp ep hp hep => ?_
  have hep : ep = 3 := by rw [hep]; rfl
  cbv
  (refine Good.no ‹_› rfl ?_ ?_; (· (simp only [inR, cmpP, loOk, hiOk, Int.ofNat_eq_natCast, Int.negSucc_eq, IntKind.bits, Int.toNat_natCast, ge_iff_le, gt_iff_lt, ne_eq, wl_len, hl_len, natCast_fold, not_true_eq_false, not_false_eq_true] at * <;> omega)); cbv; refine Good.no ‹_› rfl ?_ ?_; (· (simp only [inR, cmpP, loOk, hiOk, Int.ofNat_eq_natCast, Int.negSucc_eq, IntKind.bits, Int.toNat_natCast, ge_iff_le, gt_iff_lt, ne_eq, wl_len, hl_len, natCast_fold, not_true_eq_false, not_false_eq_true] at * <;> omega)); cbv; refine Good.no ‹_› rfl ?_ ?_; (· (simp only [inR, cmpP, loOk, hiOk, Int.ofNat_eq_natCast, Int.negSucc_eq, IntKind.bits, Int.toNat_natCast, ge_iff_le, gt_iff_lt, ne_eq, wl_len, hl_len, natCast_fold, not_true_eq_false, not_false_eq_true] at * <;> omega)); cbv; refine Good.no ‹_› rfl ?_ ?_; (· (simp only [inR, cmpP, loOk, hiOk, Int.ofNat_eq_natCast, Int.negSucc_eq, IntKind.bits, Int.toNat_natCast, ge_iff_le, gt_iff_lt, ne_eq, wl_len, hl_len, natCast_fold, not_true_eq_false, not_false_eq_true] at * <;> omega)); cbv)
  (refine is_s h ha (Nat.le_trans (len2 (by decide) (by decide)) (by decide)) ⟨by decide, by decide⟩ fun c hc => ?_
   have hc : c = true := by rw [hc]; decide
   subst hc
   cbv
   skip
  )
  (refine is_s h hb (Nat.le_trans (len2 (by decide) (by decide)) (by decide)) ⟨by decide, by decide⟩ fun c hc => ?_
   have hc : c = true := by rw [hc]; decide
   subst hc
   cbv
   skip
  )
  (refine is_s h hcc (Nat.le_trans (len2 (by decide) (by decide)) (by decide)) ⟨by decide, by decide⟩ fun c hc => ?_
   have hc : c = true := by rw [hc]; decide
   subst hc
   cbv
   skip
  )
  (refine is_s h hd (Nat.le_trans (len2 (by decide) (by decide)) (by decide)) ⟨by decide, by decide⟩ fun c hc => ?_
   have hc : c = true := by rw [hc]; decide
   subst hc
   cbv
   skip
  )
  (refine is_s h hg (Nat.le_trans (len2 (by decide) (by decide)) (by decide)) ⟨by decide, by decide⟩ fun c hc => ?_
   have hc : c = true := by rw [hc]; decide
   subst hc
   cbv
   skip
  )
  (refine is_s h hh (Nat.le_trans (len2 (by decide) (by decide)) (by decide)) ⟨by decide, by decide⟩ fun c hc => ?_
   have hc : c = true := by rw [hc]; decide
   subst hc
   cbv
   skip
  )
  refine n_s h ⟨by decide, by decide⟩ fun b7 y7 z7 => ?_
  cbv
  refine n_s h ⟨by decide, by decide⟩ fun b8 y8 z8 => ?_
  cbv
  refine gcd_s h z7.r z8.r (k2 (by decide) (by decide)) (k2 (by decide) (by decide)) fun bx yx hx => ?_
  cbv
  (refine is_s h hx (Nat.le_trans (len2 (by decide) (by decide)) (by decide)) ⟨by decide, by decide⟩ fun c hc => ?_
   have hc : c = true := by rw [hc]; decide
   subst hc
   cbv
   skip
  )
  refine n_s h ⟨by decide, by decide⟩ fun b9 y9 z9 => ?_
  cbv
  refine n_s h ⟨by decide, by decide⟩ fun b10 y10 z10 => ?_
  cbv
  refine gcd_s h z9.r z10.r (k2 (by decide) (by decide)) (k2 (by decide) (by decide)) fun bx yx hx => ?_
  cbv
  (refine is_s h hx (Nat.le_trans (len2 (by decide) (by decide)) (by decide)) ⟨by decide, by decide⟩ fun c hc => ?_
   have hc : c = true := by rw [hc]; decide
   subst hc
   cbv
   skip
  )
  refine n_s h ⟨by decide, by decide⟩ fun b11 y11 z11 => ?_
  cbv
  refine format_s h z11.r (k2 (by decide) (by decide)) fun s hs => ?_
  cbv
  refine scmp_s h hs (l' := [45, 57, 50, 50, 51, 51, 55, 50, 48, 51, 54, 56, 53, 52, 55, 55, 53, 56, 48, 56]) rfl fun c hc => ?_
  have hc : c = true := by rw [hc]; decide
  subst hc
  cbv
  skip
  exact hQ
theorem alive_s {π : Pi} (h : Good TT π) {K : List DV → Prop} (hk : K [.one (.sc (.bool true))]) : π.call 22 [] K := h.call' _ alive_c hk
end Go.Proofs.Ytpmlocilhhjifaa.Eng
