/- Package whole: trim, made, mul, small. -/
import Derived.Test.YtpmlocilhhjifaaGreatTac
set_option maxRecDepth 100000
set_option linter.unusedSimpArgs false
set_option linter.unusedVariables false
namespace Go.Proofs.YtpmlocilhhjifaaGreat.Eng
open Go.RowKit
theorem trim_c {t : Nat} {ws : List Nat} {xs ys : List (List D)} (ho : Ok BW ws) (hl : ws.length ≤ 1000000) (hx : xs = wl ws) (hy : ys = wl (dg BW (val BW ws))) : TT 64 [.one (.sl t 1 xs)] [.one (.sl t 1 ys)] := by
  refine con Tryz.func64 rfl (by kernel_rfl) (by kernel_rfl) fun π Q h hQ => ?_
  cbv
  refine h.loop' (List (List D) × List Nat) (fun p => p.1 = wl p.2 ∧ Ok BW p.2 ∧ val BW p.2 = val BW ws ∧ p.2.length ≤ 1000000) (fun p => ⟨[(0, vs t p.1)], []⟩) (fun p => p.2.length) (xs, ws) ⟨hx, ho, rfl, hl⟩ (by (refine Wk.of [] rfl ?_ ?_; (· (repeat (first | exact trivial | (refine And.intro ?_ ?_; (· first | exact trivial | exact Or.inl ⟨_, rfl, rfl⟩ | exact ⟨_, rfl, rfl⟩ | exact Or.inr ⟨rfl, rfl, by decide⟩))))); (· (repeat (first | exact trivial | (refine And.intro ?_ ?_; (· first | exact trivial | exact Or.inl rfl | rfl | exact Or.inr ⟨_, _, _, _, rfl, rfl, rfl, renNo rfl⟩ | exact ⟨ne_no rfl, Or.inl ⟨_, rfl, rfl⟩⟩ | exact ⟨ne_no rfl, Or.inr ⟨rfl, _, rfl⟩⟩ | exact ⟨_, rfl, rfl, ne_no rfl⟩))))))) ?_
  rintro ⟨xs', ws'⟩ R ⟨hxs, ho', hv, hl'⟩ hR
  simp only at hxs hv ho' hl'
  have hlen : xs'.length = ws'.length := by rw [hxs, wl_len]
  cbv
  (refine Good.len' ‹_› ?_; intro _ _; cbv)
  have fin : Can ws' → ys = xs' := fun hc => by rw [hy, hxs, ← hv, dg_of BW2 ho' hc]
  refine h.dec rfl (fun hp => ?_) (fun hp => ?_)
  · obtain ⟨k, hk⟩ : ∃ k, ws'.length = k + 1 := ⟨ws'.length - 1, by (simp only [inR, cmpP, loOk, hiOk, Int.ofNat_eq_natCast, Int.negSucc_eq, IntKind.bits, Int.toNat_natCast, ge_iff_le, gt_iff_lt, ne_eq, wl_len, hl_len, natCast_fold, not_true_eq_false, not_false_eq_true] at * <;> omega)⟩
    obtain ⟨x, hgx⟩ := lt_get (by omega : k < ws'.length)
    cbv
    (refine Good.len' ‹_› ?_; intro _ _; cbv; refine Good.sub' ‹_› ?_ ?_; (· (simp only [inR, cmpP, loOk, hiOk, Int.ofNat_eq_natCast, Int.negSucc_eq, IntKind.bits, Int.toNat_natCast, ge_iff_le, gt_iff_lt, ne_eq, wl_len, hl_len, natCast_fold, not_true_eq_false, not_false_eq_true] at * <;> omega)); intro _ _; cbv)
    refine h.get' k _ (by (simp only [inR, cmpP, loOk, hiOk, Int.ofNat_eq_natCast, Int.negSucc_eq, IntKind.bits, Int.toNat_natCast, ge_iff_le, gt_iff_lt, ne_eq, wl_len, hl_len, natCast_fold, not_true_eq_false, not_false_eq_true] at * <;> omega)) (by rw [hxs]; exact wl_get hgx) ?_
    cbv
    refine h.dec rfl (fun hp2 => ?_) (fun hp2 => ?_)
    · cbv
      (refine Good.len' ‹_› ?_; intro _ _; cbv; refine Good.sub' ‹_› ?_ ?_; (· (simp only [inR, cmpP, loOk, hiOk, Int.ofNat_eq_natCast, Int.negSucc_eq, IntKind.bits, Int.toNat_natCast, ge_iff_le, gt_iff_lt, ne_eq, wl_len, hl_len, natCast_fold, not_true_eq_false, not_false_eq_true] at * <;> omega)); intro _ _; cbv)
      refine h.sli' 0 k rfl (by (simp only [inR, cmpP, loOk, hiOk, Int.ofNat_eq_natCast, Int.negSucc_eq, IntKind.bits, Int.toNat_natCast, ge_iff_le, gt_iff_lt, ne_eq, wl_len, hl_len, natCast_fold, not_true_eq_false, not_false_eq_true] at * <;> omega)) (by omega) (by omega) fun zs hz => ?_
      cbv
      have hw : ws' = ws'.take k ++ [0] := by
        have h0 : x = 0 := by (simp only [inR, cmpP, loOk, hiOk, Int.ofNat_eq_natCast, Int.negSucc_eq, IntKind.bits, Int.toNat_natCast, ge_iff_le, gt_iff_lt, ne_eq, wl_len, hl_len, natCast_fold, not_true_eq_false, not_false_eq_true] at * <;> omega)
        subst h0
        exact take_snoc hk hgx
      refine hR _ (zs, ws'.take k) ⟨by rw [hz, hxs, wl_take]; rfl, ho'.take _, ?_, ?_⟩ ?_ (by (refine Wk.of [] rfl ?_ ?_; (· (repeat (first | exact trivial | (refine And.intro ?_ ?_; (· first | exact trivial | exact Or.inl ⟨_, rfl, rfl⟩ | exact ⟨_, rfl, rfl⟩ | exact Or.inr ⟨rfl, rfl, by decide⟩))))); (· (repeat (first | exact trivial | (refine And.intro ?_ ?_; (· first | exact trivial | exact Or.inl rfl | rfl | exact Or.inr ⟨_, _, _, _, rfl, rfl, rfl, renNo rfl⟩ | exact ⟨ne_no rfl, Or.inl ⟨_, rfl, rfl⟩⟩ | exact ⟨ne_no rfl, Or.inr ⟨rfl, _, rfl⟩⟩ | exact ⟨_, rfl, rfl, ne_no rfl⟩)))))))
      · rw [← hv]; conv => rhs; rw [hw]
        rw [val_snoc]; simp
      · simp; omega
      · simp; omega
    · cbv
      rw [← fin]
      · exact hQ
      · intro hc
        rw [take_snoc hk hgx] at hc
        simp at hc
        (simp only [inR, cmpP, loOk, hiOk, Int.ofNat_eq_natCast, Int.negSucc_eq, IntKind.bits, Int.toNat_natCast, ge_iff_le, gt_iff_lt, ne_eq, wl_len, hl_len, natCast_fold, not_true_eq_false, not_false_eq_true] at * <;> omega)
  · cbv
    rw [← fin]
    · exact hQ
    · have : ws' = [] := List.eq_nil_of_length_eq_zero (by (simp only [inR, cmpP, loOk, hiOk, Int.ofNat_eq_natCast, Int.negSucc_eq, IntKind.bits, Int.toNat_natCast, ge_iff_le, gt_iff_lt, ne_eq, wl_len, hl_len, natCast_fold, not_true_eq_false, not_false_eq_true] at * <;> omega))
      rw [this]
      simp [Can]
theorem trim_s {π : Pi} (h : Good TT π) {t : Nat} {ws : List Nat} {xs : List (List D)} {K : List DV → Prop} (hx : xs = wl ws) (ho : Ok BW ws) (hl : ws.length ≤ 1000000) (hk : ∀ ys, ys = wl (dg BW (val BW ws)) → K [.one (.sl t 1 ys)]) : π.call 64 [.one (.sl t 1 xs)] K :=
  h.call' _ (trim_c ho hl hx rfl) (hk _ rfl)

def sg (s : Bool) (n : Nat) : Int := match s with | true => -(n : Int) | false => n
/-- A canonical integer. -/
def Zc (s : Bool) (xs : List (List D)) (i : Int) : Prop := s = decide (i < 0) ∧ xs = wl (dg BW i.natAbs)
/-- An integer in any form. -/
def Zr (s : Bool) (xs : List (List D)) (i : Int) (l : Nat) : Prop := ∃ ws, xs = wl ws ∧ Ok BW ws ∧ ws.length ≤ l ∧ i = sg s (val BW ws)
theorem sg_natAbs (s : Bool) (n : Nat) : (sg s n).natAbs = n := by cases s <;> simp [sg]
theorem Zc.r {s : Bool} {xs : List (List D)} {i : Int} (h : Zc s xs i) : Zr s xs i (dg BW i.natAbs).length := by
  refine ⟨_, h.2, dg_ok BW2 _, Nat.le_refl _, ?_⟩
  rw [dg_val BW2, h.1]
  by_cases hi : i < 0
  · simp [hi, sg]; omega
  · simp [hi, sg]; omega
theorem Zr.mono {s : Bool} {xs : List (List D)} {i : Int} {l m : Nat} (h : Zr s xs i l) (hm : l ≤ m) : Zr s xs i m := by
  obtain ⟨ws, a, b, c, d⟩ := h
  exact ⟨ws, a, b, by omega, d⟩
theorem made_c {t : Nat} {s : Bool} {ws : List Nat} {xs ys : List (List D)} {b : Bool} (ho : Ok BW ws) (hl : ws.length ≤ 1000000) (hx : xs = wl ws) (hz : Zc b ys (sg s (val BW ws))) : TT 63 [.one (.sc (.bool s)), .one (.sl t 1 xs)] [.ag [.sc (.bool b), .sl t 1 ys]] := by
  refine con Tryz.func63 rfl (by kernel_rfl) (by kernel_rfl) fun π Q h hQ => ?_
  obtain ⟨hz1, hz2⟩ := hz
  rw [sg_natAbs] at hz2
  cbv
  refine trim_s h hx ho hl fun zs hzs => ?_
  rw [hzs, ← hz2]
  clear hzs
  have hlen : ys.length = (dg BW (val BW ws)).length := by rw [hz2, wl_len]
  cases s
  · cbv
    have : b = false := by rw [hz1, decide_eq_false_iff_not]; show ¬ ((val BW ws : Int) < 0); omega
    subst this
    exact hQ
  · cbv
    (refine Good.len' ‹_› ?_; intro _ _; cbv)
    refine h.dec rfl (fun hp => ?_) (fun hp => ?_)
    · cbv
      have h0 : val BW ws ≠ 0 := fun h0 => by rw [h0, dg_zero, List.length_nil] at hlen; (simp only [inR, cmpP, loOk, hiOk, Int.ofNat_eq_natCast, Int.negSucc_eq, IntKind.bits, Int.toNat_natCast, ge_iff_le, gt_iff_lt, ne_eq, wl_len, hl_len, natCast_fold, not_true_eq_false, not_false_eq_true] at * <;> omega)
      have : b = true := by rw [hz1, decide_eq_true_eq]; show (-(val BW ws : Int) < 0); omega
      subst this
      exact hQ
    · cbv
      have h0 : val BW ws = 0 := by
        refine (dg_nil BW2).1 (List.eq_nil_of_length_eq_zero ?_)
        (simp only [inR, cmpP, loOk, hiOk, Int.ofNat_eq_natCast, Int.negSucc_eq, IntKind.bits, Int.toNat_natCast, ge_iff_le, gt_iff_lt, ne_eq, wl_len, hl_len, natCast_fold, not_true_eq_false, not_false_eq_true] at * <;> omega)
      have : b = false := by rw [hz1, h0]; rfl
      subst this
      exact hQ
theorem made_s {π : Pi} (h : Good TT π) {t : Nat} {s : Bool} {ws : List Nat} {xs : List (List D)} {K : List DV → Prop} (hx : xs = wl ws) (ho : Ok BW ws) (hl : ws.length ≤ 1000000) (hk : ∀ b ys, Zc b ys (sg s (val BW ws)) → K [.ag [.sc (.bool b), .sl t 1 ys]]) : π.call 63 [.one (.sc (.bool s)), .one (.sl t 1 xs)] K :=
  h.call' _ (made_c ho hl hx ⟨rfl, rfl⟩) (hk _ _ ⟨rfl, rfl⟩)
end Go.Proofs.YtpmlocilhhjifaaGreat.Eng
