/- The reference of chapter 1: of, cmp, add, sub, times, small, back. -/
import Derived.Test.YtpmlocilhhjifaaGreatRef1
set_option maxRecDepth 100000
set_option linter.unusedSimpArgs false
set_option linter.unusedVariables false
set_option pp.maxSteps 200
namespace Go.Proofs.YtpmlocilhhjifaaGreat.Eng
open Go.RowKit
theorem val_split (B : Nat) (a : List Nat) (k : Nat) : val B a = val B (a.take k) + B ^ k * val B (a.drop k) := by
  by_cases h : k ≤ a.length
  · have := val_take_drop B a k
    rwa [len_take h] at this
  · rw [List.take_of_length_le (by omega), List.drop_eq_nil_of_le (by omega)]
    simp [val]
theorem val_drop_gd (B : Nat) (a : List Nat) (k : Nat) : val B (a.drop k) = gd a k + B * val B (a.drop (k + 1)) := by
  cases hx : a[k]? with
  | none =>
    have := List.getElem?_eq_none_iff.1 hx
    rw [gd_out this, List.drop_eq_nil_of_le this, List.drop_eq_nil_of_le (by omega)]
    simp [val]
  | some x => rw [gd_get hx, val_drop B hx]
theorem val_take_lt {B : Nat} (hB : 0 < B) {a : List Nat} (ha : Ok B a) (k : Nat) : val B (a.take k) < B ^ k :=
  Nat.lt_of_lt_of_le (val_lt (ha.take k)) (Nat.pow_le_pow_right hB (by simp; omega))
theorem of_c {t : Nat} {s b : Bool} {hs : List Nat} {xs ys : List (List D)} (ho : Ok BH hs) (hl' : hs.length ≤ 1000000) (hx : xs = hl hs) (hz : Zc b ys (sg s (val BH hs))) : TT 109 [.one (.sc (.bool s)), .one (.sl t 1 xs)] [za b 1 ys] := by
  refine con Tryz.func109 rfl (by kernel_rfl) (by kernel_rfl) fun π Q h hQ => ?_
  obtain ⟨n, hn⟩ : ∃ n, n = val BH hs := ⟨_, rfl⟩
  have hlh : (dg BH n).length ≤ hs.length := by rw [hn]; exact dg_len_val BH2 ho
  rw [← hn] at hz
  cbv
  refine rtrim_s h hx ho (by omega) fun us hu => ?_
  rw [← hn] at hu
  have hul : us.length = (dg BH n).length := by rw [hu, hl_len]
  clear hx hn
  obtain ⟨hs, hhs⟩ : ∃ hs, hs = dg BH n := ⟨_, rfl⟩
  rw [← hhs] at hu hul hlh
  have hho : Ok BH hs := by rw [hhs]; exact dg_ok BH2 _
  have hhv : val BH hs = n := by rw [hhs, dg_val BH2]
  have hhc : Can hs := by rw [hhs]; exact dg_can BH2 _
  cbv
  skip
  refine h.loop' (Int × List (List D) × List Nat × Nat) (fun p => p.1 = ((2 * p.2.2.2 : Nat) : Int) ∧ p.2.1 = wl p.2.2.1 ∧ Ok BW p.2.2.1 ∧ p.2.2.1.length = p.2.2.2 ∧ val BW p.2.2.1 = val BH (hs.take (2 * p.2.2.2)) ∧ (p.2.2.2 = 0 ∨ 2 * (p.2.2.2 - 1) < hs.length))
    (fun p => ⟨[(0, .v (.one (.sc (.bool s)))), (1, vs t us), (4, .p 4 0 0 0), (5, .ow 1000), (6, vi .i64 p.1)], [(4, .bx [.sc (.bool false), .sl 1 1 []]), (1000, .ar 56 1 p.2.1)]⟩) (fun p => hs.length - 2 * p.2.2.2) (0, [], [], 0) ⟨rfl, rfl, Ok.nil, rfl, rfl, .inl rfl⟩ (by (refine Wk.of [(4, some 4), (1000, none)] rfl ?_ ?_; (· (repeat (first | exact trivial | (refine And.intro ?_ ?_; (· first | exact trivial | exact Or.inl ⟨_, rfl, rfl⟩ | exact ⟨_, rfl, rfl⟩ | exact Or.inr ⟨rfl, rfl, by decide⟩))))); (· (repeat (first | exact trivial | (refine And.intro ?_ ?_; (· first | exact trivial | exact Or.inl rfl | rfl | exact Or.inr ⟨_, _, _, _, rfl, rfl, rfl, renNo rfl⟩ | exact ⟨ne_no rfl, Or.inl ⟨_, rfl, rfl⟩⟩ | exact ⟨ne_no rfl, Or.inr ⟨rfl, _, rfl⟩⟩ | exact ⟨_, rfl, rfl, ne_no rfl⟩))))))) ?_
  rintro ⟨iz, os, o, j⟩ R ⟨hiz, hos, hoo, hol, hov, hj⟩ hR
  simp only at hiz hos hoo hol hov hj
  have hosl : os.length = j := by rw [hos, wl_len, hol]
  cbv
  (refine Good.len' ‹_› ?_; intro _ _; cbv)
  refine h.dec rfl (fun hp => ?_) (fun hp => ?_)
  · have hj2 : 2 * j < hs.length := by (simp only [inR, cmpP, loOk, hiOk, Int.ofNat_eq_natCast, Int.negSucc_eq, IntKind.bits, Int.toNat_natCast, ge_iff_le, gt_iff_lt, ne_eq, wl_len, hl_len, natCast_fold, not_true_eq_false, not_false_eq_true] at * <;> omega)
    have g1 := gd_lt BH0 hho (2 * j)
    have g2 := gd_lt BH0 hho (2 * j + 1)
    have e1 := val_take_gd BH hs (2 * j)
    have e2 := val_take_gd BH hs (2 * j + 1)
    rw [BH_eq] at g1 g2
    cbv
    refine at_s h (2 * j) hu hiz fun c1 hc1 => ?_
    cbv
    (refine Good.convi ‹_› ?_ ?_; (· (simp only [inR, cmpP, loOk, hiOk, Int.ofNat_eq_natCast, Int.negSucc_eq, IntKind.bits, Int.toNat_natCast, ge_iff_le, gt_iff_lt, ne_eq, wl_len, hl_len, natCast_fold, not_true_eq_false, not_false_eq_true] at * <;> omega)); cbv; refine Good.add' ‹_› ?_ ?_; (· (simp only [inR, cmpP, loOk, hiOk, Int.ofNat_eq_natCast, Int.negSucc_eq, IntKind.bits, Int.toNat_natCast, ge_iff_le, gt_iff_lt, ne_eq, wl_len, hl_len, natCast_fold, not_true_eq_false, not_false_eq_true] at * <;> omega)); intro _ _; cbv)
    rename_i i1 hi1
    refine at_s h (2 * j + 1) hu (by (simp only [inR, cmpP, loOk, hiOk, Int.ofNat_eq_natCast, Int.negSucc_eq, IntKind.bits, Int.toNat_natCast, ge_iff_le, gt_iff_lt, ne_eq, wl_len, hl_len, natCast_fold, not_true_eq_false, not_false_eq_true] at * <;> omega)) fun c2 hc2 => ?_
    cbv
    (refine Good.convi ‹_› ?_ ?_; (· (simp only [inR, cmpP, loOk, hiOk, Int.ofNat_eq_natCast, Int.negSucc_eq, IntKind.bits, Int.toNat_natCast, ge_iff_le, gt_iff_lt, ne_eq, wl_len, hl_len, natCast_fold, not_true_eq_false, not_false_eq_true] at * <;> omega)); cbv; refine Good.mul' ‹_› ?_ ?_; (· (simp only [inR, cmpP, loOk, hiOk, Int.ofNat_eq_natCast, Int.negSucc_eq, IntKind.bits, Int.toNat_natCast, ge_iff_le, gt_iff_lt, ne_eq, wl_len, hl_len, natCast_fold, not_true_eq_false, not_false_eq_true] at * <;> omega)); intro _ _; cbv; refine Good.add' ‹_› ?_ ?_; (· (simp only [inR, cmpP, loOk, hiOk, Int.ofNat_eq_natCast, Int.negSucc_eq, IntKind.bits, Int.toNat_natCast, ge_iff_le, gt_iff_lt, ne_eq, wl_len, hl_len, natCast_fold, not_true_eq_false, not_false_eq_true] at * <;> omega)); intro _ _; cbv)
    rename_i c3 hc3 c4 hc4
    have hc4 : c4 = ((gd hs (2 * j) + gd hs (2 * j + 1) * 65536 : Nat) : Int) := by (simp only [inR, cmpP, loOk, hiOk, Int.ofNat_eq_natCast, Int.negSucc_eq, IntKind.bits, Int.toNat_natCast, ge_iff_le, gt_iff_lt, ne_eq, wl_len, hl_len, natCast_fold, not_true_eq_false, not_false_eq_true] at * <;> omega)
    refine h.app' (by decide) (fun y hy => by simp at hy; rw [hy]; rfl) (by simp [maxLen]; omega) (by simp; omega) fun zs hzs => ?_
    cbv
    (refine Good.add' ‹_› ?_ ?_; (· (simp only [inR, cmpP, loOk, hiOk, Int.ofNat_eq_natCast, Int.negSucc_eq, IntKind.bits, Int.toNat_natCast, ge_iff_le, gt_iff_lt, ne_eq, wl_len, hl_len, natCast_fold, not_true_eq_false, not_false_eq_true] at * <;> omega)); intro _ _; cbv)
    rename_i i2 hi2
    refine hR _ (i2, zs, o ++ [gd hs (2 * j) + gd hs (2 * j + 1) * 65536], j + 1) ⟨by simp only; (simp only [inR, cmpP, loOk, hiOk, Int.ofNat_eq_natCast, Int.negSucc_eq, IntKind.bits, Int.toNat_natCast, ge_iff_le, gt_iff_lt, ne_eq, wl_len, hl_len, natCast_fold, not_true_eq_false, not_false_eq_true] at * <;> omega), ?_, hoo.app (Ok.of (by rw [BW_eq]; omega) Ok.nil), by simp [hol], ?_, .inr (by simp only; omega)⟩ (by simp only; omega) (by (refine Wk.of [(4, some 4), (1000, some 28)] rfl ?_ ?_; (· (repeat (first | exact trivial | (refine And.intro ?_ ?_; (· first | exact trivial | exact Or.inl ⟨_, rfl, rfl⟩ | exact ⟨_, rfl, rfl⟩ | exact Or.inr ⟨rfl, rfl, by decide⟩))))); (· (repeat (first | exact trivial | (refine And.intro ?_ ?_; (· first | exact trivial | exact Or.inl rfl | rfl | exact Or.inr ⟨_, _, _, _, rfl, rfl, rfl, renNo rfl⟩ | exact ⟨ne_no rfl, Or.inl ⟨_, rfl, rfl⟩⟩ | exact ⟨ne_no rfl, Or.inr ⟨rfl, _, rfl⟩⟩ | exact ⟨_, rfl, rfl, ne_no rfl⟩)))))))
    · show zs = _
      rw [hzs, hos, ← wl_app, hc4]; rfl
    · show val BW (o ++ _) = val BH (hs.take (2 * (j + 1)))
      rw [show 2 * (j + 1) = 2 * j + 1 + 1 by omega, e2, e1, val_snoc, hov, hol, BW_pow, Nat.pow_succ]
      generalize BH ^ (2 * j) = P
      generalize gd hs (2 * j) = x
      generalize gd hs (2 * j + 1) = y
      rw [Nat.mul_add, Nat.mul_comm y, ← Nat.mul_assoc, ← BH_eq, Nat.add_assoc]
  · have hj2 : hs.length ≤ 2 * j := by (simp only [inR, cmpP, loOk, hiOk, Int.ofNat_eq_natCast, Int.negSucc_eq, IntKind.bits, Int.toNat_natCast, ge_iff_le, gt_iff_lt, ne_eq, wl_len, hl_len, natCast_fold, not_true_eq_false, not_false_eq_true] at * <;> omega)
    rw [List.take_of_length_le hj2, hhv] at hov
    have hoc : Can o := by
      refine can_of_ge hoo ?_
      rcases hj with h0 | h0
      · exact .inl (List.eq_nil_of_length_eq_zero (by omega))
      · refine .inr ?_
        rw [hol, BW_pow, hov, ← hhv]
        have := val_ge_of_can BH0 hhc (by rintro e; rw [e] at h0; simp at h0)
        exact Nat.le_trans (Nat.pow_le_pow_right BH0 (by omega)) this
    have hys : ys = os := by rw [hz.2, sg_natAbs, hos, ← hov, dg_of BW2 hoo hoc]
    have hlen : o.length = 0 ↔ n = 0 := by
      rw [← hov, List.length_eq_zero_iff]
      exact ⟨fun h => by rw [h]; rfl, fun h => can_pos BW0 hoc h⟩
    have hz1 := hz.1
    cases s
    · cbv
      skip
      have : b = false := by rw [hz1, decide_eq_false_iff_not]; show ¬ ((n : Int) < 0); omega
      rw [this, hys] at hQ
      exact hQ
    · cbv
      (refine Good.len' ‹_› ?_; intro _ _; cbv)
      refine h.dec rfl (fun hp => ?_) (fun hp => ?_)
      · have hn0 : n ≠ 0 := fun h => by have := hlen.2 h; (simp only [inR, cmpP, loOk, hiOk, Int.ofNat_eq_natCast, Int.negSucc_eq, IntKind.bits, Int.toNat_natCast, ge_iff_le, gt_iff_lt, ne_eq, wl_len, hl_len, natCast_fold, not_true_eq_false, not_false_eq_true] at * <;> omega)
        have : b = true := by rw [hz1, decide_eq_true_eq]; show (-(n : Int) < 0); omega
        rw [this, hys] at hQ
        cbv
        skip
        exact hQ
      · have hn0 : n = 0 := hlen.1 (by (simp only [inR, cmpP, loOk, hiOk, Int.ofNat_eq_natCast, Int.negSucc_eq, IntKind.bits, Int.toNat_natCast, ge_iff_le, gt_iff_lt, ne_eq, wl_len, hl_len, natCast_fold, not_true_eq_false, not_false_eq_true] at * <;> omega))
        have : b = false := by rw [hz1, hn0]; rfl
        rw [this, hys] at hQ
        cbv
        skip
        exact hQ
theorem of_s {π : Pi} (h : Good TT π) {K : List DV → Prop} {t : Nat} {s : Bool} {hs : List Nat} {xs : List (List D)} (hx : xs = hl hs) (ho : Ok BH hs) (hl' : hs.length ≤ 1000000) (hk : ∀ b ys, Zc b ys (sg s (val BH hs)) → K [za b 1 ys]) : π.call 109 [.one (.sc (.bool s)), .one (.sl t 1 xs)] K :=
  h.call' _ (of_c ho hl' hx ⟨rfl, rfl⟩) (hk _ _ ⟨rfl, rfl⟩)
def cmpV (m n : Nat) : Int := if m < n then -1 else if n < m then 1 else 0
theorem cmp_lem {B : Nat} (hB : 0 < B) {a b : List Nat} (ha : Ok B a) (hb : Ok B b) {k : Nat} (he : val B (a.drop (k + 1)) = val B (b.drop (k + 1))) (hlt : gd a k < gd b k) : val B a < val B b := by
  rw [val_split B a k, val_split B b k, val_drop_gd B a k, val_drop_gd B b k, he]
  have h1 := val_take_lt hB ha k
  have h2 : B ^ k * (gd a k + B * val B (b.drop (k + 1)) + 1) ≤ B ^ k * (gd b k + B * val B (b.drop (k + 1))) := Nat.mul_le_mul_left _ (by omega)
  rw [Nat.mul_add _ _ 1] at h2
  omega
theorem rcmp_c {t t' : Nat} {a b : List Nat} {xs ys : List (List D)} {c : Int} (ha : Ok BH a) (hb : Ok BH b) (hla : a.length ≤ 1000000) (hlb : b.length ≤ 1000000) (hx : xs = hl a) (hy : ys = hl b) (hc : c = cmpV (val BH a) (val BH b)) : TT 113 [.one (.sl t 1 xs), .one (.sl t' 1 ys)] [.one (.sc (.int .i64 c))] := by
  refine con Tryz.func113 rfl (by kernel_rfl) (by kernel_rfl) fun π Q h hQ => ?_
  have hlx : xs.length = a.length := by rw [hx, hl_len]
  have hly : ys.length = b.length := by rw [hy, hl_len]
  cbv
  (refine Good.len' ‹_› ?_; intro _ _; cbv; refine Good.len' ‹_› ?_; intro _ _; cbv)
  refine h.dec rfl (fun hp => ?_) (fun hp => ?_)
  · (cbv
     refine h.sub' (by (simp only [inR, cmpP, loOk, hiOk, Int.ofNat_eq_natCast, Int.negSucc_eq, IntKind.bits, Int.toNat_natCast, ge_iff_le, gt_iff_lt, ne_eq, wl_len, hl_len, natCast_fold, not_true_eq_false, not_false_eq_true] at * <;> omega)) fun iz0 hiz0 => ?_
     cbv
     refine h.loop' (Int × Nat) (fun p => p.1 = (p.2 : Int) - 1 ∧ p.2 ≤ 1000000 ∧ val BH (a.drop p.2) = val BH (b.drop p.2)) (fun p => ⟨[(0, vs t xs), (1, vs t' ys), (5, vi .i64 p.1)], []⟩) (fun p => p.2) (iz0, max a.length b.length) ⟨by (simp only [inR, cmpP, loOk, hiOk, Int.ofNat_eq_natCast, Int.negSucc_eq, IntKind.bits, Int.toNat_natCast, ge_iff_le, gt_iff_lt, ne_eq, wl_len, hl_len, natCast_fold, not_true_eq_false, not_false_eq_true] at * <;> omega), by omega, by rw [List.drop_eq_nil_of_le (by simp only; omega), List.drop_eq_nil_of_le (by simp only; omega)]⟩ (by (refine Wk.of [] rfl ?_ ?_; (· (repeat (first | exact trivial | (refine And.intro ?_ ?_; (· first | exact trivial | exact Or.inl ⟨_, rfl, rfl⟩ | exact ⟨_, rfl, rfl⟩ | exact Or.inr ⟨rfl, rfl, by decide⟩))))); (· (repeat (first | exact trivial | (refine And.intro ?_ ?_; (· first | exact trivial | exact Or.inl rfl | rfl | exact Or.inr ⟨_, _, _, _, rfl, rfl, rfl, renNo rfl⟩ | exact ⟨ne_no rfl, Or.inl ⟨_, rfl, rfl⟩⟩ | exact ⟨ne_no rfl, Or.inr ⟨rfl, _, rfl⟩⟩ | exact ⟨_, rfl, rfl, ne_no rfl⟩))))))) ?_
     rintro ⟨iz, k⟩ R ⟨hiz, hk, hv⟩ hR
     simp only at hiz hk hv
     cbv
     refine h.dec rfl (fun hp => ?_) (fun hp => ?_)
     · obtain ⟨j, rfl⟩ : ∃ j, k = j + 1 := ⟨k - 1, by (simp only [inR, cmpP, loOk, hiOk, Int.ofNat_eq_natCast, Int.negSucc_eq, IntKind.bits, Int.toNat_natCast, ge_iff_le, gt_iff_lt, ne_eq, wl_len, hl_len, natCast_fold, not_true_eq_false, not_false_eq_true] at * <;> omega)⟩
       have hij : iz = (j : Int) := by (simp only [inR, cmpP, loOk, hiOk, Int.ofNat_eq_natCast, Int.negSucc_eq, IntKind.bits, Int.toNat_natCast, ge_iff_le, gt_iff_lt, ne_eq, wl_len, hl_len, natCast_fold, not_true_eq_false, not_false_eq_true] at * <;> omega)
       cbv
       refine at_s h j hx hij fun c1 hc1 => ?_
       cbv
       refine at_s h j hy hij fun c2 hc2 => ?_
       cbv
       refine h.dec rfl (fun hp1 => ?_) (fun hp1 => ?_)
       · have := cmp_lem BH0 ha hb hv (show gd a j < gd b j by (simp only [inR, cmpP, loOk, hiOk, Int.ofNat_eq_natCast, Int.negSucc_eq, IntKind.bits, Int.toNat_natCast, ge_iff_le, gt_iff_lt, ne_eq, wl_len, hl_len, natCast_fold, not_true_eq_false, not_false_eq_true] at * <;> omega))
         rw [hc, cmpV, if_pos this] at hQ
         cbv
         exact hQ
       · cbv
         refine at_s h j hx hij fun c1 hc1 => ?_
         cbv
         refine at_s h j hy hij fun c2 hc2 => ?_
         cbv
         refine h.dec rfl (fun hp2 => ?_) (fun hp2 => ?_)
         · have := cmp_lem BH0 hb ha hv.symm (show gd b j < gd a j by (simp only [inR, cmpP, loOk, hiOk, Int.ofNat_eq_natCast, Int.negSucc_eq, IntKind.bits, Int.toNat_natCast, ge_iff_le, gt_iff_lt, ne_eq, wl_len, hl_len, natCast_fold, not_true_eq_false, not_false_eq_true] at * <;> omega))
           rw [hc, cmpV, if_neg (by omega), if_pos this] at hQ
           cbv
           exact hQ
         · have e : gd a j = gd b j := by (simp only [inR, cmpP, loOk, hiOk, Int.ofNat_eq_natCast, Int.negSucc_eq, IntKind.bits, Int.toNat_natCast, ge_iff_le, gt_iff_lt, ne_eq, wl_len, hl_len, natCast_fold, not_true_eq_false, not_false_eq_true] at * <;> omega)
           cbv
           (refine Good.sub' ‹_› ?_ ?_; (· (simp only [inR, cmpP, loOk, hiOk, Int.ofNat_eq_natCast, Int.negSucc_eq, IntKind.bits, Int.toNat_natCast, ge_iff_le, gt_iff_lt, ne_eq, wl_len, hl_len, natCast_fold, not_true_eq_false, not_false_eq_true] at * <;> omega)); intro _ _; cbv)
           rename_i i1 hi1
           refine hR _ (i1, j) ⟨by simp only; omega, by simp only; omega, ?_⟩ (by simp only; omega) (by (refine Wk.of [] rfl ?_ ?_; (· (repeat (first | exact trivial | (refine And.intro ?_ ?_; (· first | exact trivial | exact Or.inl ⟨_, rfl, rfl⟩ | exact ⟨_, rfl, rfl⟩ | exact Or.inr ⟨rfl, rfl, by decide⟩))))); (· (repeat (first | exact trivial | (refine And.intro ?_ ?_; (· first | exact trivial | exact Or.inl rfl | rfl | exact Or.inr ⟨_, _, _, _, rfl, rfl, rfl, renNo rfl⟩ | exact ⟨ne_no rfl, Or.inl ⟨_, rfl, rfl⟩⟩ | exact ⟨ne_no rfl, Or.inr ⟨rfl, _, rfl⟩⟩ | exact ⟨_, rfl, rfl, ne_no rfl⟩)))))))
           show val BH (a.drop j) = val BH (b.drop j)
           rw [val_drop_gd, val_drop_gd BH b, e, hv]
     · have hk0 : k = 0 := by (simp only [inR, cmpP, loOk, hiOk, Int.ofNat_eq_natCast, Int.negSucc_eq, IntKind.bits, Int.toNat_natCast, ge_iff_le, gt_iff_lt, ne_eq, wl_len, hl_len, natCast_fold, not_true_eq_false, not_false_eq_true] at * <;> omega)
       rw [hk0, List.drop_zero, List.drop_zero] at hv
       rw [hc, cmpV, hv, if_neg (Nat.lt_irrefl _), if_neg (Nat.lt_irrefl _)] at hQ
       cbv
       exact hQ
    )
  · (cbv
     refine h.sub' (by (simp only [inR, cmpP, loOk, hiOk, Int.ofNat_eq_natCast, Int.negSucc_eq, IntKind.bits, Int.toNat_natCast, ge_iff_le, gt_iff_lt, ne_eq, wl_len, hl_len, natCast_fold, not_true_eq_false, not_false_eq_true] at * <;> omega)) fun iz0 hiz0 => ?_
     cbv
     refine h.loop' (Int × Nat) (fun p => p.1 = (p.2 : Int) - 1 ∧ p.2 ≤ 1000000 ∧ val BH (a.drop p.2) = val BH (b.drop p.2)) (fun p => ⟨[(0, vs t xs), (1, vs t' ys), (5, vi .i64 p.1)], []⟩) (fun p => p.2) (iz0, max a.length b.length) ⟨by (simp only [inR, cmpP, loOk, hiOk, Int.ofNat_eq_natCast, Int.negSucc_eq, IntKind.bits, Int.toNat_natCast, ge_iff_le, gt_iff_lt, ne_eq, wl_len, hl_len, natCast_fold, not_true_eq_false, not_false_eq_true] at * <;> omega), by omega, by rw [List.drop_eq_nil_of_le (by simp only; omega), List.drop_eq_nil_of_le (by simp only; omega)]⟩ (by (refine Wk.of [] rfl ?_ ?_; (· (repeat (first | exact trivial | (refine And.intro ?_ ?_; (· first | exact trivial | exact Or.inl ⟨_, rfl, rfl⟩ | exact ⟨_, rfl, rfl⟩ | exact Or.inr ⟨rfl, rfl, by decide⟩))))); (· (repeat (first | exact trivial | (refine And.intro ?_ ?_; (· first | exact trivial | exact Or.inl rfl | rfl | exact Or.inr ⟨_, _, _, _, rfl, rfl, rfl, renNo rfl⟩ | exact ⟨ne_no rfl, Or.inl ⟨_, rfl, rfl⟩⟩ | exact ⟨ne_no rfl, Or.inr ⟨rfl, _, rfl⟩⟩ | exact ⟨_, rfl, rfl, ne_no rfl⟩))))))) ?_
     rintro ⟨iz, k⟩ R ⟨hiz, hk, hv⟩ hR
     simp only at hiz hk hv
     cbv
     refine h.dec rfl (fun hp => ?_) (fun hp => ?_)
     · obtain ⟨j, rfl⟩ : ∃ j, k = j + 1 := ⟨k - 1, by (simp only [inR, cmpP, loOk, hiOk, Int.ofNat_eq_natCast, Int.negSucc_eq, IntKind.bits, Int.toNat_natCast, ge_iff_le, gt_iff_lt, ne_eq, wl_len, hl_len, natCast_fold, not_true_eq_false, not_false_eq_true] at * <;> omega)⟩
       have hij : iz = (j : Int) := by (simp only [inR, cmpP, loOk, hiOk, Int.ofNat_eq_natCast, Int.negSucc_eq, IntKind.bits, Int.toNat_natCast, ge_iff_le, gt_iff_lt, ne_eq, wl_len, hl_len, natCast_fold, not_true_eq_false, not_false_eq_true] at * <;> omega)
       cbv
       refine at_s h j hx hij fun c1 hc1 => ?_
       cbv
       refine at_s h j hy hij fun c2 hc2 => ?_
       cbv
       refine h.dec rfl (fun hp1 => ?_) (fun hp1 => ?_)
       · have := cmp_lem BH0 ha hb hv (show gd a j < gd b j by (simp only [inR, cmpP, loOk, hiOk, Int.ofNat_eq_natCast, Int.negSucc_eq, IntKind.bits, Int.toNat_natCast, ge_iff_le, gt_iff_lt, ne_eq, wl_len, hl_len, natCast_fold, not_true_eq_false, not_false_eq_true] at * <;> omega))
         rw [hc, cmpV, if_pos this] at hQ
         cbv
         exact hQ
       · cbv
         refine at_s h j hx hij fun c1 hc1 => ?_
         cbv
         refine at_s h j hy hij fun c2 hc2 => ?_
         cbv
         refine h.dec rfl (fun hp2 => ?_) (fun hp2 => ?_)
         · have := cmp_lem BH0 hb ha hv.symm (show gd b j < gd a j by (simp only [inR, cmpP, loOk, hiOk, Int.ofNat_eq_natCast, Int.negSucc_eq, IntKind.bits, Int.toNat_natCast, ge_iff_le, gt_iff_lt, ne_eq, wl_len, hl_len, natCast_fold, not_true_eq_false, not_false_eq_true] at * <;> omega))
           rw [hc, cmpV, if_neg (by omega), if_pos this] at hQ
           cbv
           exact hQ
         · have e : gd a j = gd b j := by (simp only [inR, cmpP, loOk, hiOk, Int.ofNat_eq_natCast, Int.negSucc_eq, IntKind.bits, Int.toNat_natCast, ge_iff_le, gt_iff_lt, ne_eq, wl_len, hl_len, natCast_fold, not_true_eq_false, not_false_eq_true] at * <;> omega)
           cbv
           (refine Good.sub' ‹_› ?_ ?_; (· (simp only [inR, cmpP, loOk, hiOk, Int.ofNat_eq_natCast, Int.negSucc_eq, IntKind.bits, Int.toNat_natCast, ge_iff_le, gt_iff_lt, ne_eq, wl_len, hl_len, natCast_fold, not_true_eq_false, not_false_eq_true] at * <;> omega)); intro _ _; cbv)
           rename_i i1 hi1
           refine hR _ (i1, j) ⟨by simp only; omega, by simp only; omega, ?_⟩ (by simp only; omega) (by (refine Wk.of [] rfl ?_ ?_; (· (repeat (first | exact trivial | (refine And.intro ?_ ?_; (· first | exact trivial | exact Or.inl ⟨_, rfl, rfl⟩ | exact ⟨_, rfl, rfl⟩ | exact Or.inr ⟨rfl, rfl, by decide⟩))))); (· (repeat (first | exact trivial | (refine And.intro ?_ ?_; (· first | exact trivial | exact Or.inl rfl | rfl | exact Or.inr ⟨_, _, _, _, rfl, rfl, rfl, renNo rfl⟩ | exact ⟨ne_no rfl, Or.inl ⟨_, rfl, rfl⟩⟩ | exact ⟨ne_no rfl, Or.inr ⟨rfl, _, rfl⟩⟩ | exact ⟨_, rfl, rfl, ne_no rfl⟩)))))))
           show val BH (a.drop j) = val BH (b.drop j)
           rw [val_drop_gd, val_drop_gd BH b, e, hv]
     · have hk0 : k = 0 := by (simp only [inR, cmpP, loOk, hiOk, Int.ofNat_eq_natCast, Int.negSucc_eq, IntKind.bits, Int.toNat_natCast, ge_iff_le, gt_iff_lt, ne_eq, wl_len, hl_len, natCast_fold, not_true_eq_false, not_false_eq_true] at * <;> omega)
       rw [hk0, List.drop_zero, List.drop_zero] at hv
       rw [hc, cmpV, hv, if_neg (Nat.lt_irrefl _), if_neg (Nat.lt_irrefl _)] at hQ
       cbv
       exact hQ
    )
theorem rcmp_s {π : Pi} (h : Good TT π) {K : List DV → Prop} {t t' : Nat} {a b : List Nat} {xs ys : List (List D)} (hx : xs = hl a) (hy : ys = hl b) (ha : Ok BH a) (hb : Ok BH b) (hla : a.length ≤ 1000000) (hlb : b.length ≤ 1000000) (hk : ∀ c, c = cmpV (val BH a) (val BH b) → K [.one (.sc (.int .i64 c))]) : π.call 113 [.one (.sl t 1 xs), .one (.sl t' 1 ys)] K :=
  h.call' _ (rcmp_c ha hb hla hlb hx hy rfl) (hk _ rfl)
theorem put_digit {o : List Nat} {i v X : Nat} (hol : o.length = i) (h : val BH o + BH ^ i * v = X) : val BH (o ++ [v % 65536]) + BH ^ (i + 1) * (v / 65536) = X := by
  rw [val_snoc, hol, Nat.pow_succ, Nat.mul_assoc, ← h, Nat.add_assoc, ← Nat.mul_add]
  congr 2
  rw [BH_eq]
  omega
theorem radd_c {t t' : Nat} {a b : List Nat} {xs ys zs : List (List D)} (ha : Ok BH a) (hb : Ok BH b) (hla : a.length ≤ 1000000) (hlb : b.length ≤ 1000000) (hx : xs = hl a) (hy : ys = hl b) (hz : zs = hl (dg BH (val BH a + val BH b))) : TT 112 [.one (.sl t 1 xs), .one (.sl t' 1 ys)] [.one (.sl 1 1 zs)] := by
  refine con Tryz.func112 rfl (by kernel_rfl) (by kernel_rfl) fun π Q h hQ => ?_
  have hlx : xs.length = a.length := by rw [hx, hl_len]
  have hly : ys.length = b.length := by rw [hy, hl_len]
  cbv
  refine h.loop' (Int × Int × List (List D) × List Nat × Nat × Nat) (fun p => p.1 = (p.2.2.2.2.1 : Int) ∧ p.2.1 = (p.2.2.2.2.2 : Int) ∧ p.2.2.1 = hl p.2.2.2.1 ∧ Ok BH p.2.2.2.1 ∧ p.2.2.2.1.length = p.2.2.2.2.1 ∧ p.2.2.2.2.2 ≤ 1 ∧ val BH p.2.2.2.1 + BH ^ p.2.2.2.2.1 * p.2.2.2.2.2 = val BH (a.take p.2.2.2.2.1) + val BH (b.take p.2.2.2.2.1) ∧ p.2.2.2.2.1 ≤ max a.length b.length + 1 ∧ (p.2.2.2.2.1 = max a.length b.length + 1 → p.2.2.2.2.2 = 0))
    (fun p => ⟨[(0, vs t xs), (1, vs t' ys), (5, .ow 1000), (6, vi .i64 p.2.1), (7, vi .i64 p.1)], [(1000, .ar 3 1 p.2.2.1)]⟩) (fun p => 2 * (max a.length b.length - p.2.2.2.2.1) + p.2.2.2.2.2) (0, 0, [], [], 0, 0) ⟨rfl, rfl, rfl, Ok.nil, rfl, Nat.zero_le _, rfl, Nat.zero_le _, fun _ => rfl⟩ (by (refine Wk.of [(1000, none)] rfl ?_ ?_; (· (repeat (first | exact trivial | (refine And.intro ?_ ?_; (· first | exact trivial | exact Or.inl ⟨_, rfl, rfl⟩ | exact ⟨_, rfl, rfl⟩ | exact Or.inr ⟨rfl, rfl, by decide⟩))))); (· (repeat (first | exact trivial | (refine And.intro ?_ ?_; (· first | exact trivial | exact Or.inl rfl | rfl | exact Or.inr ⟨_, _, _, _, rfl, rfl, rfl, renNo rfl⟩ | exact ⟨ne_no rfl, Or.inl ⟨_, rfl, rfl⟩⟩ | exact ⟨ne_no rfl, Or.inr ⟨rfl, _, rfl⟩⟩ | exact ⟨_, rfl, rfl, ne_no rfl⟩))))))) ?_
  rintro ⟨iz, cz, os, o, i, c⟩ R ⟨hiz, hcz, hos, hoo, hol, hc, hv, hi, hi1⟩ hR
  simp only at hiz hcz hos hoo hol hc hv hi hi1
  have hosl : os.length = i := by rw [hos, hl_len, hol]
  have g1 := gd_lt BH0 ha i
  have g2 := gd_lt BH0 hb i
  have e1 := val_take_gd BH a i
  have e2 := val_take_gd BH b i
  rw [BH_eq] at g1 g2
  cbv
  (refine Good.len' ‹_› ?_; intro _ _; cbv)
  refine h.dec rfl (fun hp => ?_) (fun hp => ?_)
  · have hgo : i < max a.length b.length ∨ 0 < c := by (simp only [inR, cmpP, loOk, hiOk, Int.ofNat_eq_natCast, Int.negSucc_eq, IntKind.bits, Int.toNat_natCast, ge_iff_le, gt_iff_lt, ne_eq, wl_len, hl_len, natCast_fold, not_true_eq_false, not_false_eq_true] at * <;> omega)
    (cbv
     skip
     refine at_s h i hx hiz fun c1 hc1 => ?_
     cbv
     refine at_s h i hy hiz fun c2 hc2 => ?_
     cbv
     (refine Good.add' ‹_› ?_ ?_; (· (simp only [inR, cmpP, loOk, hiOk, Int.ofNat_eq_natCast, Int.negSucc_eq, IntKind.bits, Int.toNat_natCast, ge_iff_le, gt_iff_lt, ne_eq, wl_len, hl_len, natCast_fold, not_true_eq_false, not_false_eq_true] at * <;> omega)); intro _ _; cbv; refine Good.add' ‹_› ?_ ?_; (· (simp only [inR, cmpP, loOk, hiOk, Int.ofNat_eq_natCast, Int.negSucc_eq, IntKind.bits, Int.toNat_natCast, ge_iff_le, gt_iff_lt, ne_eq, wl_len, hl_len, natCast_fold, not_true_eq_false, not_false_eq_true] at * <;> omega)); intro _ _; cbv)
     rename_i v0 hv0 v1 hv1
     obtain ⟨vv, hvv⟩ : ∃ vv, vv = gd a i + gd b i + c := ⟨_, rfl⟩
     have hd0 : max a.length b.length ≤ i → vv = c := fun hh => by
       have ha0 : gd a i = 0 := gd_out (by omega)
       have hb0 : gd b i = 0 := gd_out (by omega)
       omega
     have hv1 : v1 = (vv : Int) := by (simp only [inR, cmpP, loOk, hiOk, Int.ofNat_eq_natCast, Int.negSucc_eq, IntKind.bits, Int.toNat_natCast, ge_iff_le, gt_iff_lt, ne_eq, wl_len, hl_len, natCast_fold, not_true_eq_false, not_false_eq_true] at * <;> omega)
     refine h.rem' (by omega) (by omega) fun m hm => ?_
     have hm : m = ((vv % 65536 : Nat) : Int) := by omega
     cbv
     refine h.app' (by decide) (fun y hy => by simp at hy; rw [hy]; rfl) (by simp [maxLen]; omega) (by simp; omega) fun zs hzs => ?_
     cbv
     refine h.quo' (by (simp only [inR, cmpP, loOk, hiOk, Int.ofNat_eq_natCast, Int.negSucc_eq, IntKind.bits, Int.toNat_natCast, ge_iff_le, gt_iff_lt, ne_eq, wl_len, hl_len, natCast_fold, not_true_eq_false, not_false_eq_true] at * <;> omega)) (by omega) (by (simp only [inR, cmpP, loOk, hiOk, Int.ofNat_eq_natCast, Int.negSucc_eq, IntKind.bits, Int.toNat_natCast, ge_iff_le, gt_iff_lt, ne_eq, wl_len, hl_len, natCast_fold, not_true_eq_false, not_false_eq_true] at * <;> omega)) fun q hq => ?_
     have hq : q = ((vv / 65536 : Nat) : Int) := by (simp only [inR, cmpP, loOk, hiOk, Int.ofNat_eq_natCast, Int.negSucc_eq, IntKind.bits, Int.toNat_natCast, ge_iff_le, gt_iff_lt, ne_eq, wl_len, hl_len, natCast_fold, not_true_eq_false, not_false_eq_true] at * <;> omega)
     cbv
     (refine Good.add' ‹_› ?_ ?_; (· (simp only [inR, cmpP, loOk, hiOk, Int.ofNat_eq_natCast, Int.negSucc_eq, IntKind.bits, Int.toNat_natCast, ge_iff_le, gt_iff_lt, ne_eq, wl_len, hl_len, natCast_fold, not_true_eq_false, not_false_eq_true] at * <;> omega)); intro _ _; cbv)
     rename_i i1 hi1
     refine hR _ (i1, q, zs, o ++ [vv % 65536], i + 1, vv / 65536) ⟨by simp only; (simp only [inR, cmpP, loOk, hiOk, Int.ofNat_eq_natCast, Int.negSucc_eq, IntKind.bits, Int.toNat_natCast, ge_iff_le, gt_iff_lt, ne_eq, wl_len, hl_len, natCast_fold, not_true_eq_false, not_false_eq_true] at * <;> omega), hq, ?_, hoo.app (Ok.of (by rw [BH_eq]; omega) Ok.nil), by simp [hol], by simp only; omega, ?_, by simp only; omega, ?_⟩ (by simp only; omega) (by (refine Wk.of [(1000, some 38)] rfl ?_ ?_; (· (repeat (first | exact trivial | (refine And.intro ?_ ?_; (· first | exact trivial | exact Or.inl ⟨_, rfl, rfl⟩ | exact ⟨_, rfl, rfl⟩ | exact Or.inr ⟨rfl, rfl, by decide⟩))))); (· (repeat (first | exact trivial | (refine And.intro ?_ ?_; (· first | exact trivial | exact Or.inl rfl | rfl | exact Or.inr ⟨_, _, _, _, rfl, rfl, rfl, renNo rfl⟩ | exact ⟨ne_no rfl, Or.inl ⟨_, rfl, rfl⟩⟩ | exact ⟨ne_no rfl, Or.inr ⟨rfl, _, rfl⟩⟩ | exact ⟨_, rfl, rfl, ne_no rfl⟩)))))))
     · show zs = _
       rw [hzs, hos, ← hl_app, hm]; rfl
     · refine put_digit hol ?_
       show _ = val BH (a.take (i + 1)) + val BH (b.take (i + 1))
       rw [e1, e2, hvv, Nat.mul_add, Nat.mul_add]
       omega
     · intro hh
       simp only at hh ⊢
       have ha0 : gd a i = 0 := gd_out (by omega)
       have hb0 : gd b i = 0 := gd_out (by omega)
       omega
    )
  · cbv
    (refine Good.len' ‹_› ?_; intro _ _; cbv)
    refine h.dec rfl (fun hp => ?_) (fun hp => ?_)
    · have hgo : i < max a.length b.length ∨ 0 < c := by (simp only [inR, cmpP, loOk, hiOk, Int.ofNat_eq_natCast, Int.negSucc_eq, IntKind.bits, Int.toNat_natCast, ge_iff_le, gt_iff_lt, ne_eq, wl_len, hl_len, natCast_fold, not_true_eq_false, not_false_eq_true] at * <;> omega)
      (cbv
       skip
       refine at_s h i hx hiz fun c1 hc1 => ?_
       cbv
       refine at_s h i hy hiz fun c2 hc2 => ?_
       cbv
       (refine Good.add' ‹_› ?_ ?_; (· (simp only [inR, cmpP, loOk, hiOk, Int.ofNat_eq_natCast, Int.negSucc_eq, IntKind.bits, Int.toNat_natCast, ge_iff_le, gt_iff_lt, ne_eq, wl_len, hl_len, natCast_fold, not_true_eq_false, not_false_eq_true] at * <;> omega)); intro _ _; cbv; refine Good.add' ‹_› ?_ ?_; (· (simp only [inR, cmpP, loOk, hiOk, Int.ofNat_eq_natCast, Int.negSucc_eq, IntKind.bits, Int.toNat_natCast, ge_iff_le, gt_iff_lt, ne_eq, wl_len, hl_len, natCast_fold, not_true_eq_false, not_false_eq_true] at * <;> omega)); intro _ _; cbv)
       rename_i v0 hv0 v1 hv1
       obtain ⟨vv, hvv⟩ : ∃ vv, vv = gd a i + gd b i + c := ⟨_, rfl⟩
       have hd0 : max a.length b.length ≤ i → vv = c := fun hh => by
         have ha0 : gd a i = 0 := gd_out (by omega)
         have hb0 : gd b i = 0 := gd_out (by omega)
         omega
       have hv1 : v1 = (vv : Int) := by (simp only [inR, cmpP, loOk, hiOk, Int.ofNat_eq_natCast, Int.negSucc_eq, IntKind.bits, Int.toNat_natCast, ge_iff_le, gt_iff_lt, ne_eq, wl_len, hl_len, natCast_fold, not_true_eq_false, not_false_eq_true] at * <;> omega)
       refine h.rem' (by omega) (by omega) fun m hm => ?_
       have hm : m = ((vv % 65536 : Nat) : Int) := by omega
       cbv
       refine h.app' (by decide) (fun y hy => by simp at hy; rw [hy]; rfl) (by simp [maxLen]; omega) (by simp; omega) fun zs hzs => ?_
       cbv
       refine h.quo' (by (simp only [inR, cmpP, loOk, hiOk, Int.ofNat_eq_natCast, Int.negSucc_eq, IntKind.bits, Int.toNat_natCast, ge_iff_le, gt_iff_lt, ne_eq, wl_len, hl_len, natCast_fold, not_true_eq_false, not_false_eq_true] at * <;> omega)) (by omega) (by (simp only [inR, cmpP, loOk, hiOk, Int.ofNat_eq_natCast, Int.negSucc_eq, IntKind.bits, Int.toNat_natCast, ge_iff_le, gt_iff_lt, ne_eq, wl_len, hl_len, natCast_fold, not_true_eq_false, not_false_eq_true] at * <;> omega)) fun q hq => ?_
       have hq : q = ((vv / 65536 : Nat) : Int) := by (simp only [inR, cmpP, loOk, hiOk, Int.ofNat_eq_natCast, Int.negSucc_eq, IntKind.bits, Int.toNat_natCast, ge_iff_le, gt_iff_lt, ne_eq, wl_len, hl_len, natCast_fold, not_true_eq_false, not_false_eq_true] at * <;> omega)
       cbv
       (refine Good.add' ‹_› ?_ ?_; (· (simp only [inR, cmpP, loOk, hiOk, Int.ofNat_eq_natCast, Int.negSucc_eq, IntKind.bits, Int.toNat_natCast, ge_iff_le, gt_iff_lt, ne_eq, wl_len, hl_len, natCast_fold, not_true_eq_false, not_false_eq_true] at * <;> omega)); intro _ _; cbv)
       rename_i i1 hi1
       refine hR _ (i1, q, zs, o ++ [vv % 65536], i + 1, vv / 65536) ⟨by simp only; (simp only [inR, cmpP, loOk, hiOk, Int.ofNat_eq_natCast, Int.negSucc_eq, IntKind.bits, Int.toNat_natCast, ge_iff_le, gt_iff_lt, ne_eq, wl_len, hl_len, natCast_fold, not_true_eq_false, not_false_eq_true] at * <;> omega), hq, ?_, hoo.app (Ok.of (by rw [BH_eq]; omega) Ok.nil), by simp [hol], by simp only; omega, ?_, by simp only; omega, ?_⟩ (by simp only; omega) (by (refine Wk.of [(1000, some 38)] rfl ?_ ?_; (· (repeat (first | exact trivial | (refine And.intro ?_ ?_; (· first | exact trivial | exact Or.inl ⟨_, rfl, rfl⟩ | exact ⟨_, rfl, rfl⟩ | exact Or.inr ⟨rfl, rfl, by decide⟩))))); (· (repeat (first | exact trivial | (refine And.intro ?_ ?_; (· first | exact trivial | exact Or.inl rfl | rfl | exact Or.inr ⟨_, _, _, _, rfl, rfl, rfl, renNo rfl⟩ | exact ⟨ne_no rfl, Or.inl ⟨_, rfl, rfl⟩⟩ | exact ⟨ne_no rfl, Or.inr ⟨rfl, _, rfl⟩⟩ | exact ⟨_, rfl, rfl, ne_no rfl⟩)))))))
       · show zs = _
         rw [hzs, hos, ← hl_app, hm]; rfl
       · refine put_digit hol ?_
         show _ = val BH (a.take (i + 1)) + val BH (b.take (i + 1))
         rw [e1, e2, hvv, Nat.mul_add, Nat.mul_add]
         omega
       · intro hh
         simp only at hh ⊢
         have ha0 : gd a i = 0 := gd_out (by omega)
         have hb0 : gd b i = 0 := gd_out (by omega)
         omega
      )
    · cbv
      refine h.dec rfl (fun hp => ?_) (fun hp => ?_)
      · have hgo : i < max a.length b.length ∨ 0 < c := by (simp only [inR, cmpP, loOk, hiOk, Int.ofNat_eq_natCast, Int.negSucc_eq, IntKind.bits, Int.toNat_natCast, ge_iff_le, gt_iff_lt, ne_eq, wl_len, hl_len, natCast_fold, not_true_eq_false, not_false_eq_true] at * <;> omega)
        (cbv
         skip
         refine at_s h i hx hiz fun c1 hc1 => ?_
         cbv
         refine at_s h i hy hiz fun c2 hc2 => ?_
         cbv
         (refine Good.add' ‹_› ?_ ?_; (· (simp only [inR, cmpP, loOk, hiOk, Int.ofNat_eq_natCast, Int.negSucc_eq, IntKind.bits, Int.toNat_natCast, ge_iff_le, gt_iff_lt, ne_eq, wl_len, hl_len, natCast_fold, not_true_eq_false, not_false_eq_true] at * <;> omega)); intro _ _; cbv; refine Good.add' ‹_› ?_ ?_; (· (simp only [inR, cmpP, loOk, hiOk, Int.ofNat_eq_natCast, Int.negSucc_eq, IntKind.bits, Int.toNat_natCast, ge_iff_le, gt_iff_lt, ne_eq, wl_len, hl_len, natCast_fold, not_true_eq_false, not_false_eq_true] at * <;> omega)); intro _ _; cbv)
         rename_i v0 hv0 v1 hv1
         obtain ⟨vv, hvv⟩ : ∃ vv, vv = gd a i + gd b i + c := ⟨_, rfl⟩
         have hd0 : max a.length b.length ≤ i → vv = c := fun hh => by
           have ha0 : gd a i = 0 := gd_out (by omega)
           have hb0 : gd b i = 0 := gd_out (by omega)
           omega
         have hv1 : v1 = (vv : Int) := by (simp only [inR, cmpP, loOk, hiOk, Int.ofNat_eq_natCast, Int.negSucc_eq, IntKind.bits, Int.toNat_natCast, ge_iff_le, gt_iff_lt, ne_eq, wl_len, hl_len, natCast_fold, not_true_eq_false, not_false_eq_true] at * <;> omega)
         refine h.rem' (by omega) (by omega) fun m hm => ?_
         have hm : m = ((vv % 65536 : Nat) : Int) := by omega
         cbv
         refine h.app' (by decide) (fun y hy => by simp at hy; rw [hy]; rfl) (by simp [maxLen]; omega) (by simp; omega) fun zs hzs => ?_
         cbv
         refine h.quo' (by (simp only [inR, cmpP, loOk, hiOk, Int.ofNat_eq_natCast, Int.negSucc_eq, IntKind.bits, Int.toNat_natCast, ge_iff_le, gt_iff_lt, ne_eq, wl_len, hl_len, natCast_fold, not_true_eq_false, not_false_eq_true] at * <;> omega)) (by omega) (by (simp only [inR, cmpP, loOk, hiOk, Int.ofNat_eq_natCast, Int.negSucc_eq, IntKind.bits, Int.toNat_natCast, ge_iff_le, gt_iff_lt, ne_eq, wl_len, hl_len, natCast_fold, not_true_eq_false, not_false_eq_true] at * <;> omega)) fun q hq => ?_
         have hq : q = ((vv / 65536 : Nat) : Int) := by (simp only [inR, cmpP, loOk, hiOk, Int.ofNat_eq_natCast, Int.negSucc_eq, IntKind.bits, Int.toNat_natCast, ge_iff_le, gt_iff_lt, ne_eq, wl_len, hl_len, natCast_fold, not_true_eq_false, not_false_eq_true] at * <;> omega)
         cbv
         (refine Good.add' ‹_› ?_ ?_; (· (simp only [inR, cmpP, loOk, hiOk, Int.ofNat_eq_natCast, Int.negSucc_eq, IntKind.bits, Int.toNat_natCast, ge_iff_le, gt_iff_lt, ne_eq, wl_len, hl_len, natCast_fold, not_true_eq_false, not_false_eq_true] at * <;> omega)); intro _ _; cbv)
         rename_i i1 hi1
         refine hR _ (i1, q, zs, o ++ [vv % 65536], i + 1, vv / 65536) ⟨by simp only; (simp only [inR, cmpP, loOk, hiOk, Int.ofNat_eq_natCast, Int.negSucc_eq, IntKind.bits, Int.toNat_natCast, ge_iff_le, gt_iff_lt, ne_eq, wl_len, hl_len, natCast_fold, not_true_eq_false, not_false_eq_true] at * <;> omega), hq, ?_, hoo.app (Ok.of (by rw [BH_eq]; omega) Ok.nil), by simp [hol], by simp only; omega, ?_, by simp only; omega, ?_⟩ (by simp only; omega) (by (refine Wk.of [(1000, some 38)] rfl ?_ ?_; (· (repeat (first | exact trivial | (refine And.intro ?_ ?_; (· first | exact trivial | exact Or.inl ⟨_, rfl, rfl⟩ | exact ⟨_, rfl, rfl⟩ | exact Or.inr ⟨rfl, rfl, by decide⟩))))); (· (repeat (first | exact trivial | (refine And.intro ?_ ?_; (· first | exact trivial | exact Or.inl rfl | rfl | exact Or.inr ⟨_, _, _, _, rfl, rfl, rfl, renNo rfl⟩ | exact ⟨ne_no rfl, Or.inl ⟨_, rfl, rfl⟩⟩ | exact ⟨ne_no rfl, Or.inr ⟨rfl, _, rfl⟩⟩ | exact ⟨_, rfl, rfl, ne_no rfl⟩)))))))
         · show zs = _
           rw [hzs, hos, ← hl_app, hm]; rfl
         · refine put_digit hol ?_
           show _ = val BH (a.take (i + 1)) + val BH (b.take (i + 1))
           rw [e1, e2, hvv, Nat.mul_add, Nat.mul_add]
           omega
         · intro hh
           simp only at hh ⊢
           have ha0 : gd a i = 0 := gd_out (by omega)
           have hb0 : gd b i = 0 := gd_out (by omega)
           omega
        )
      · have hc0 : c = 0 := by (simp only [inR, cmpP, loOk, hiOk, Int.ofNat_eq_natCast, Int.negSucc_eq, IntKind.bits, Int.toNat_natCast, ge_iff_le, gt_iff_lt, ne_eq, wl_len, hl_len, natCast_fold, not_true_eq_false, not_false_eq_true] at * <;> omega)
        have hia : a.length ≤ i := by (simp only [inR, cmpP, loOk, hiOk, Int.ofNat_eq_natCast, Int.negSucc_eq, IntKind.bits, Int.toNat_natCast, ge_iff_le, gt_iff_lt, ne_eq, wl_len, hl_len, natCast_fold, not_true_eq_false, not_false_eq_true] at * <;> omega)
        have hib : b.length ≤ i := by (simp only [inR, cmpP, loOk, hiOk, Int.ofNat_eq_natCast, Int.negSucc_eq, IntKind.bits, Int.toNat_natCast, ge_iff_le, gt_iff_lt, ne_eq, wl_len, hl_len, natCast_fold, not_true_eq_false, not_false_eq_true] at * <;> omega)
        rw [hc0, List.take_of_length_le hia, List.take_of_length_le hib, Nat.mul_zero, Nat.add_zero] at hv
        cbv
        refine rtrim_s h hos hoo (by omega) fun us hu => ?_
        rw [hv, ← hz] at hu
        rw [hu]
        cbv
        exact hQ
theorem radd_s {π : Pi} (h : Good TT π) {K : List DV → Prop} {t t' : Nat} {a b : List Nat} {xs ys : List (List D)} (hx : xs = hl a) (hy : ys = hl b) (ha : Ok BH a) (hb : Ok BH b) (hla : a.length ≤ 1000000) (hlb : b.length ≤ 1000000) (hk : ∀ zs, zs = hl (dg BH (val BH a + val BH b)) → K [.one (.sl 1 1 zs)]) : π.call 112 [.one (.sl t 1 xs), .one (.sl t' 1 ys)] K :=
  h.call' _ (radd_c ha hb hla hlb hx hy rfl) (hk _ rfl)
end Go.Proofs.YtpmlocilhhjifaaGreat.Eng
