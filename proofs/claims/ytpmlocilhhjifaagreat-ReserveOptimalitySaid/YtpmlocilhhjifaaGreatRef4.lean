/- The reference of chapter 1: mul, div. -/
import Derived.Test.YtpmlocilhhjifaaGreatRef3
set_option maxRecDepth 100000
set_option linter.unusedSimpArgs false
set_option linter.unusedVariables false
set_option pp.maxSteps 200
namespace Go.Proofs.YtpmlocilhhjifaaGreat.Eng
open Go.RowKit
theorem mul_lt_pow {B : Nat} {a b : List Nat} (ha : Ok B a) (hb : Ok B b) : val B a * val B b < B ^ (a.length + b.length) := by
  rw [Nat.pow_add]
  exact Nat.mul_lt_mul'' (val_lt ha) (val_lt hb)
theorem rmul_c {t t' : Nat} {a b : List Nat} {xs ys zs : List (List D)} (ha : Ok BH a) (hb : Ok BH b) (hla : a.length ≤ 400000) (hlb : b.length ≤ 400000) (hx : xs = hl a) (hy : ys = hl b) (hz : zs = hl (dg BH (val BH a * val BH b))) : TT 110 [.one (.sl t 1 xs), .one (.sl t' 1 ys)] [.one (.sl 1 1 zs)] := by
  refine con' Tryz.func110 rfl (by kernel_rfl) (by kernel_rfl) fun π Q h hQ => ?_
  have hlx : xs.length = a.length := by rw [hx, hl_len]
  have hly : ys.length = b.length := by rw [hy, hl_len]
  cbv
  (refine Good.len' ‹_› ?_; intro _ _; cbv; refine Good.len' ‹_› ?_; intro _ _; cbv; refine Good.add' ‹_› ?_ ?_; (· (simp only [inR, cmpP, loOk, hiOk, Int.ofNat_eq_natCast, Int.negSucc_eq, IntKind.bits, Int.toNat_natCast, ge_iff_le, gt_iff_lt, ne_eq, wl_len, hl_len, natCast_fold, not_true_eq_false, not_false_eq_true] at * <;> omega)); intro _ _; cbv)
  refine h.dec rfl (fun hp => ?_) (fun hp => ?_)
  · have hl3 : a.length + b.length ≤ 3 := by (simp only [inR, cmpP, loOk, hiOk, Int.ofNat_eq_natCast, Int.negSucc_eq, IntKind.bits, Int.toNat_natCast, ge_iff_le, gt_iff_lt, ne_eq, wl_len, hl_len, natCast_fold, not_true_eq_false, not_false_eq_true] at * <;> omega)
    have hlt : val BH a * val BH b < 281474976710656 := by
      have h1 := mul_lt_pow ha hb
      have h2 : BH ^ (a.length + b.length) ≤ BH ^ 3 := Nat.pow_le_pow_right BH0 hl3
      have h3 : BH ^ 3 = 281474976710656 := by decide
      omega
    cbv
    refine rsmall_s h hx ha (by omega) fun c1 hc1 => ?_
    cbv
    refine rsmall_s h hy hb (by omega) fun c2 hc2 => ?_
    have hm : c1 * c2 = ((val BH a * val BH b : Nat) : Int) := by rw [hc1, hc2, Int.natCast_mul]
    cbv
    refine h.mul' (by (simp only [inR, cmpP, loOk, hiOk, Int.ofNat_eq_natCast, Int.negSucc_eq, IntKind.bits, Int.toNat_natCast, ge_iff_le, gt_iff_lt, ne_eq, wl_len, hl_len, natCast_fold, not_true_eq_false, not_false_eq_true] at * <;> omega)) fun c3 hc3 => ?_
    rw [hm] at hc3
    cbv
    refine back_s h _ hc3 hlt fun us hu => ?_
    rw [← hz] at hu
    rw [hu]
    cbv
    exact hQ _ (SubVs.refl _)
  · cbv
    (refine Good.len' ‹_› ?_; intro _ _; cbv; refine Good.sub' ‹_› ?_ ?_; (· (simp only [inR, cmpP, loOk, hiOk, Int.ofNat_eq_natCast, Int.negSucc_eq, IntKind.bits, Int.toNat_natCast, ge_iff_le, gt_iff_lt, ne_eq, wl_len, hl_len, natCast_fold, not_true_eq_false, not_false_eq_true] at * <;> omega)); intro _ _; cbv)
    rename_i i0 hi0
    refine h.loop' (Int × Nat × List (List D) × List Nat × Nat) (fun p => p.1 = (p.2.2.2.2 : Int) - 1 ∧ p.2.2.1 = hl p.2.2.2.1 ∧ Ok BH p.2.2.2.1 ∧ val BH p.2.2.2.1 = val BH (a.drop p.2.2.2.2) * val BH b ∧ p.2.2.2.1.length ≤ a.length - p.2.2.2.2 + b.length ∧ p.2.2.2.2 ≤ a.length ∧ (p.2.2.2.2 < a.length → p.2.1 = 1))
      (fun p => ⟨[(0, vs t xs), (1, vs t' ys), (5, vs p.2.1 p.2.2.1), (6, vi .i64 p.1)], []⟩) (fun p => p.2.2.2.2) (i0, 3, [], [], a.length) ⟨by (simp only [inR, cmpP, loOk, hiOk, Int.ofNat_eq_natCast, Int.negSucc_eq, IntKind.bits, Int.toNat_natCast, ge_iff_le, gt_iff_lt, ne_eq, wl_len, hl_len, natCast_fold, not_true_eq_false, not_false_eq_true] at * <;> omega), rfl, Ok.nil, by rw [List.drop_length]; simp [val], Nat.zero_le _, Nat.le_refl _, fun h => absurd h (Nat.lt_irrefl _)⟩ (by (refine Wk.of [] rfl ?_ ?_; (· (repeat (first | exact trivial | (refine And.intro ?_ ?_; (· first | exact trivial | exact Or.inl ⟨_, rfl, rfl⟩ | exact ⟨_, rfl, rfl⟩ | exact Or.inr ⟨rfl, rfl, by decide⟩))))); (· (repeat (first | exact trivial | (refine And.intro ?_ ?_; (· first | exact trivial | exact Or.inl rfl | rfl | exact Or.inr ⟨_, _, _, _, rfl, rfl, rfl, renNo rfl⟩ | exact ⟨ne_no rfl, Or.inl ⟨_, rfl, rfl⟩⟩ | exact ⟨ne_no rfl, Or.inr ⟨rfl, _, rfl⟩⟩ | exact ⟨_, rfl, rfl, ne_no rfl⟩))))))) ?_
    rintro ⟨iz, tr, os, o, i⟩ R ⟨hiz, hos, hoo, hov, hol, hi, htr⟩ hR
    simp only at hiz hos hoo hov hol hi htr
    have hosl : os.length = o.length := by rw [hos, hl_len]
    cbv
    refine h.dec rfl (fun hp => ?_) (fun hp => ?_)
    · obtain ⟨j, rfl⟩ : ∃ j, i = j + 1 := ⟨i - 1, by (simp only [inR, cmpP, loOk, hiOk, Int.ofNat_eq_natCast, Int.negSucc_eq, IntKind.bits, Int.toNat_natCast, ge_iff_le, gt_iff_lt, ne_eq, wl_len, hl_len, natCast_fold, not_true_eq_false, not_false_eq_true] at * <;> omega)⟩
      have hij : iz = (j : Int) := by (simp only [inR, cmpP, loOk, hiOk, Int.ofNat_eq_natCast, Int.negSucc_eq, IntKind.bits, Int.toNat_natCast, ge_iff_le, gt_iff_lt, ne_eq, wl_len, hl_len, natCast_fold, not_true_eq_false, not_false_eq_true] at * <;> omega)
      obtain ⟨x, hgx⟩ := lt_get (ws := a) (i := j) (by omega)
      have hx1 := ha.get hgx
      rw [BH_eq] at hx1
      cbv
      refine h.app' (by decide) (fun y hy => hl_one (hos ▸ hy)) (by simp [maxLen]; omega) (by simp; omega) fun zs2 hzs2 => ?_
      have hzs2 : zs2 = hl (0 :: o) := by rw [hzs2, hos]; rfl
      cbv
      refine h.loop' (Int × List (List D) × List Nat × Nat) (fun p => p.1 = (p.2.2.2 : Int) ∧ p.2.1 = hl p.2.2.1 ∧ Ok BH p.2.2.1 ∧ val BH p.2.2.1 = BH * (val BH (a.drop (j + 1)) * val BH b) + min p.2.2.2 x * val BH b ∧ p.2.2.1.length ≤ a.length - j + b.length ∧ p.2.2.2 ≤ x + 1024)
        (fun p => ⟨[(0, vs t xs), (1, vs t' ys), (5, vs 1 p.2.1), (6, vi .i64 iz), (7, vi .i64 p.1)], []⟩) (fun p => x + 1024 - p.2.2.2) (0, zs2, 0 :: o, 0) ⟨rfl, hzs2, Ok.of BH0 hoo, by simp [val, hov], by simp only [List.length_cons]; omega, Nat.zero_le _⟩ (by (refine Wk.of [] rfl ?_ ?_; (· (repeat (first | exact trivial | (refine And.intro ?_ ?_; (· first | exact trivial | exact Or.inl ⟨_, rfl, rfl⟩ | exact ⟨_, rfl, rfl⟩ | exact Or.inr ⟨rfl, rfl, by decide⟩))))); (· (repeat (first | exact trivial | (refine And.intro ?_ ?_; (· first | exact trivial | exact Or.inl rfl | rfl | exact Or.inr ⟨_, _, _, _, rfl, rfl, rfl, renNo rfl⟩ | exact ⟨ne_no rfl, Or.inl ⟨_, rfl, rfl⟩⟩ | exact ⟨ne_no rfl, Or.inr ⟨rfl, _, rfl⟩⟩ | exact ⟨_, rfl, rfl, ne_no rfl⟩))))))) ?_
      clear hzs2 hos hoo hov hosl hol
      rintro ⟨kz, os, o, k⟩ R2 ⟨hkz, hos, hoo, hov, hol, hk⟩ hR2
      simp only at hkz hos hoo hov hol hk
      have hosl : os.length = o.length := by rw [hos, hl_len]
      cbv
      refine h.get' j _ hij (by rw [hx]; exact hl_get hgx) ?_
      cbv
      refine h.dec rfl (fun hp => ?_) (fun hp => ?_)
      · have hkx : k < x := by (simp only [inR, cmpP, loOk, hiOk, Int.ofNat_eq_natCast, Int.negSucc_eq, IntKind.bits, Int.toNat_natCast, ge_iff_le, gt_iff_lt, ne_eq, wl_len, hl_len, natCast_fold, not_true_eq_false, not_false_eq_true] at * <;> omega)
        cbv
        refine h.get' j _ hij (by rw [hx]; exact hl_get hgx) ?_
        cbv
        (refine Good.sub' ‹_› ?_ ?_; (· (simp only [inR, cmpP, loOk, hiOk, Int.ofNat_eq_natCast, Int.negSucc_eq, IntKind.bits, Int.toNat_natCast, ge_iff_le, gt_iff_lt, ne_eq, wl_len, hl_len, natCast_fold, not_true_eq_false, not_false_eq_true] at * <;> omega)); intro _ _; cbv)
        rename_i d0 hd0
        refine h.dec rfl (fun hp => ?_) (fun hp => ?_)
        · have hd1 : x - k < 1024 := by (simp only [inR, cmpP, loOk, hiOk, Int.ofNat_eq_natCast, Int.negSucc_eq, IntKind.bits, Int.toNat_natCast, ge_iff_le, gt_iff_lt, ne_eq, wl_len, hl_len, natCast_fold, not_true_eq_false, not_false_eq_true] at * <;> omega)
          (cbv
           refine times_s h (x - k) hy hb (by omega) (by (simp only [inR, cmpP, loOk, hiOk, Int.ofNat_eq_natCast, Int.negSucc_eq, IntKind.bits, Int.toNat_natCast, ge_iff_le, gt_iff_lt, ne_eq, wl_len, hl_len, natCast_fold, not_true_eq_false, not_false_eq_true] at * <;> omega)) (by omega) fun z1 hz1 => ?_
           have hn1 : (x - k) ≤ 1024 := by omega
           have l1 : (dg BH (val BH b * (x - k))).length ≤ b.length + 1 := by
             refine dg_len BH2 ?_
             rw [Nat.pow_succ]
             exact Nat.mul_lt_mul'' (val_lt hb) (by rw [BH_eq]; omega)
           cbv
           refine radd_s h hos hz1 hoo (dg_ok BH2 _) (by omega) (by omega) fun z2 hz2 => ?_
           rw [dg_val BH2] at hz2
           have hval : val BH o + val BH b * (x - k) = BH * (val BH (a.drop (j + 1)) * val BH b) + min (k + 1024) x * val BH b := by
             rw [hov, Nat.mul_comm (val BH b), Nat.add_assoc, ← Nat.add_mul]
             congr 2
             omega
           have hle : val BH o + val BH b * (x - k) ≤ val BH (a.drop j) * val BH b := by
             rw [hval, val_drop BH hgx, ← Nat.mul_assoc, ← Nat.add_mul, Nat.add_comm x]
             refine Nat.mul_le_mul_right _ ?_
             omega
           have l2 : (dg BH (val BH o + val BH b * (x - k))).length ≤ a.length - j + b.length := by
             refine dg_len BH2 (Nat.lt_of_le_of_lt hle ?_)
             have := mul_lt_pow (ha.drop j) hb
             rwa [List.length_drop] at this
           cbv
           (refine Good.add' ‹_› ?_ ?_; (· (simp only [inR, cmpP, loOk, hiOk, Int.ofNat_eq_natCast, Int.negSucc_eq, IntKind.bits, Int.toNat_natCast, ge_iff_le, gt_iff_lt, ne_eq, wl_len, hl_len, natCast_fold, not_true_eq_false, not_false_eq_true] at * <;> omega)); intro _ _; cbv)
           rename_i k1 hk1
           refine hR2 _ (k1, z2, dg BH (val BH o + val BH b * (x - k)), k + 1024) ⟨by simp only; (simp only [inR, cmpP, loOk, hiOk, Int.ofNat_eq_natCast, Int.negSucc_eq, IntKind.bits, Int.toNat_natCast, ge_iff_le, gt_iff_lt, ne_eq, wl_len, hl_len, natCast_fold, not_true_eq_false, not_false_eq_true] at * <;> omega), hz2, dg_ok BH2 _, by rw [dg_val BH2]; exact hval, l2, by simp only; omega⟩ (by simp only; omega) (by (refine Wk.of [] rfl ?_ ?_; (· (repeat (first | exact trivial | (refine And.intro ?_ ?_; (· first | exact trivial | exact Or.inl ⟨_, rfl, rfl⟩ | exact ⟨_, rfl, rfl⟩ | exact Or.inr ⟨rfl, rfl, by decide⟩))))); (· (repeat (first | exact trivial | (refine And.intro ?_ ?_; (· first | exact trivial | exact Or.inl rfl | rfl | exact Or.inr ⟨_, _, _, _, rfl, rfl, rfl, renNo rfl⟩ | exact ⟨ne_no rfl, Or.inl ⟨_, rfl, rfl⟩⟩ | exact ⟨ne_no rfl, Or.inr ⟨rfl, _, rfl⟩⟩ | exact ⟨_, rfl, rfl, ne_no rfl⟩)))))))
          )
        · have hd1 : 1024 ≤ x - k := by (simp only [inR, cmpP, loOk, hiOk, Int.ofNat_eq_natCast, Int.negSucc_eq, IntKind.bits, Int.toNat_natCast, ge_iff_le, gt_iff_lt, ne_eq, wl_len, hl_len, natCast_fold, not_true_eq_false, not_false_eq_true] at * <;> omega)
          (cbv
           refine times_s h 1024 hy hb (by omega) (by omega) (by omega) fun z1 hz1 => ?_
           have hn1 : 1024 ≤ 1024 := by omega
           have l1 : (dg BH (val BH b * 1024)).length ≤ b.length + 1 := by
             refine dg_len BH2 ?_
             rw [Nat.pow_succ]
             exact Nat.mul_lt_mul'' (val_lt hb) (by rw [BH_eq]; omega)
           cbv
           refine radd_s h hos hz1 hoo (dg_ok BH2 _) (by omega) (by omega) fun z2 hz2 => ?_
           rw [dg_val BH2] at hz2
           have hval : val BH o + val BH b * 1024 = BH * (val BH (a.drop (j + 1)) * val BH b) + min (k + 1024) x * val BH b := by
             rw [hov, Nat.mul_comm (val BH b), Nat.add_assoc, ← Nat.add_mul]
             congr 2
             omega
           have hle : val BH o + val BH b * 1024 ≤ val BH (a.drop j) * val BH b := by
             rw [hval, val_drop BH hgx, ← Nat.mul_assoc, ← Nat.add_mul, Nat.add_comm x]
             refine Nat.mul_le_mul_right _ ?_
             omega
           have l2 : (dg BH (val BH o + val BH b * 1024)).length ≤ a.length - j + b.length := by
             refine dg_len BH2 (Nat.lt_of_le_of_lt hle ?_)
             have := mul_lt_pow (ha.drop j) hb
             rwa [List.length_drop] at this
           cbv
           (refine Good.add' ‹_› ?_ ?_; (· (simp only [inR, cmpP, loOk, hiOk, Int.ofNat_eq_natCast, Int.negSucc_eq, IntKind.bits, Int.toNat_natCast, ge_iff_le, gt_iff_lt, ne_eq, wl_len, hl_len, natCast_fold, not_true_eq_false, not_false_eq_true] at * <;> omega)); intro _ _; cbv)
           rename_i k1 hk1
           refine hR2 _ (k1, z2, dg BH (val BH o + val BH b * 1024), k + 1024) ⟨by simp only; (simp only [inR, cmpP, loOk, hiOk, Int.ofNat_eq_natCast, Int.negSucc_eq, IntKind.bits, Int.toNat_natCast, ge_iff_le, gt_iff_lt, ne_eq, wl_len, hl_len, natCast_fold, not_true_eq_false, not_false_eq_true] at * <;> omega), hz2, dg_ok BH2 _, by rw [dg_val BH2]; exact hval, l2, by simp only; omega⟩ (by simp only; omega) (by (refine Wk.of [] rfl ?_ ?_; (· (repeat (first | exact trivial | (refine And.intro ?_ ?_; (· first | exact trivial | exact Or.inl ⟨_, rfl, rfl⟩ | exact ⟨_, rfl, rfl⟩ | exact Or.inr ⟨rfl, rfl, by decide⟩))))); (· (repeat (first | exact trivial | (refine And.intro ?_ ?_; (· first | exact trivial | exact Or.inl rfl | rfl | exact Or.inr ⟨_, _, _, _, rfl, rfl, rfl, renNo rfl⟩ | exact ⟨ne_no rfl, Or.inl ⟨_, rfl, rfl⟩⟩ | exact ⟨ne_no rfl, Or.inr ⟨rfl, _, rfl⟩⟩ | exact ⟨_, rfl, rfl, ne_no rfl⟩)))))))
          )
      · have hkx : x ≤ k := by (simp only [inR, cmpP, loOk, hiOk, Int.ofNat_eq_natCast, Int.negSucc_eq, IntKind.bits, Int.toNat_natCast, ge_iff_le, gt_iff_lt, ne_eq, wl_len, hl_len, natCast_fold, not_true_eq_false, not_false_eq_true] at * <;> omega)
        rw [Nat.min_eq_right hkx] at hov
        cbv
        (refine Good.sub' ‹_› ?_ ?_; (· (simp only [inR, cmpP, loOk, hiOk, Int.ofNat_eq_natCast, Int.negSucc_eq, IntKind.bits, Int.toNat_natCast, ge_iff_le, gt_iff_lt, ne_eq, wl_len, hl_len, natCast_fold, not_true_eq_false, not_false_eq_true] at * <;> omega)); intro _ _; cbv)
        rename_i i1 hi1
        refine hR _ (i1, 1, os, o, j) ⟨by simp only; omega, hos, hoo, ?_, hol, by simp only; omega, fun _ => rfl⟩ (by simp only; omega) (by (refine Wk.of [] rfl ?_ ?_; (· (repeat (first | exact trivial | (refine And.intro ?_ ?_; (· first | exact trivial | exact Or.inl ⟨_, rfl, rfl⟩ | exact ⟨_, rfl, rfl⟩ | exact Or.inr ⟨rfl, rfl, by decide⟩))))); (· (repeat (first | exact trivial | (refine And.intro ?_ ?_; (· first | exact trivial | exact Or.inl rfl | rfl | exact Or.inr ⟨_, _, _, _, rfl, rfl, rfl, renNo rfl⟩ | exact ⟨ne_no rfl, Or.inl ⟨_, rfl, rfl⟩⟩ | exact ⟨ne_no rfl, Or.inr ⟨rfl, _, rfl⟩⟩ | exact ⟨_, rfl, rfl, ne_no rfl⟩)))))))
        show val BH o = val BH (a.drop j) * val BH b
        rw [hov, val_drop BH hgx, Nat.add_mul, Nat.mul_assoc, Nat.add_comm]
    · have hi0 : i = 0 := by (simp only [inR, cmpP, loOk, hiOk, Int.ofNat_eq_natCast, Int.negSucc_eq, IntKind.bits, Int.toNat_natCast, ge_iff_le, gt_iff_lt, ne_eq, wl_len, hl_len, natCast_fold, not_true_eq_false, not_false_eq_true] at * <;> omega)
      rw [hi0, List.drop_zero] at hov
      cbv
      refine rtrim_s h hos hoo (by omega) fun us hu => ?_
      rw [hov, ← hz] at hu
      rw [hu]
      cbv
      refine hQ _ ⟨SubD.one ?_, trivial⟩
      rcases Nat.eq_zero_or_pos a.length with h0 | h0
      · left
        have ha0 : a = [] := List.eq_nil_of_length_eq_zero h0
        rw [hz, ha0]
        simp [val, hl, dg_zero]
      · exact .inr (htr (by omega))
theorem rmul_s {π : Pi} (h : Good TT π) {K : List DV → Prop} {t t' : Nat} {a b : List Nat} {xs ys : List (List D)} (hx : xs = hl a) (hy : ys = hl b) (ha : Ok BH a) (hb : Ok BH b) (hla : a.length ≤ 400000) (hlb : b.length ≤ 400000) (hk : ∀ zs, zs = hl (dg BH (val BH a * val BH b)) → K [.one (.sl 1 1 zs)]) : π.call 110 [.one (.sl t 1 xs), .one (.sl t' 1 ys)] K :=
  h.call' _ (rmul_c ha hb hla hlb hx hy rfl) (hk _ rfl)
end Go.Proofs.YtpmlocilhhjifaaGreat.Eng
