/- The reference of chapter 1: sub, times, small, back. -/
import Derived.Test.YtpmlocilhhjifaaGreatRef2
set_option maxRecDepth 100000
set_option linter.unusedSimpArgs false
set_option linter.unusedVariables false
set_option pp.maxSteps 200
namespace Go.Proofs.YtpmlocilhhjifaaGreat.Eng
open Go.RowKit
theorem rsub_c {t t' : Nat} {a b : List Nat} {xs ys zs : List (List D)} (ha : Ok BH a) (hb : Ok BH b) (hla : a.length ≤ 1000000) (hlb : b.length ≤ 1000000) (hx : xs = hl a) (hy : ys = hl b) (hle : val BH b ≤ val BH a) (hz : zs = hl (dg BH (val BH a - val BH b))) : TT 114 [.one (.sl t 1 xs), .one (.sl t' 1 ys)] [.one (.sl 1 1 zs)] := by
  refine con Tryz.func114 rfl (by kernel_rfl) (by kernel_rfl) fun π Q h hQ => ?_
  have hlx : xs.length = a.length := by rw [hx, hl_len]
  cbv
  refine h.loop' (Int × Int × List (List D) × List Nat × Nat × Nat) (fun p => p.1 = (p.2.2.2.2.1 : Int) ∧ p.2.1 = (p.2.2.2.2.2 : Int) ∧ p.2.2.1 = hl p.2.2.2.1 ∧ Ok BH p.2.2.2.1 ∧ p.2.2.2.1.length = p.2.2.2.2.1 ∧ p.2.2.2.2.2 ≤ 1 ∧ val BH p.2.2.2.1 + val BH (b.take p.2.2.2.2.1) = val BH (a.take p.2.2.2.2.1) + BH ^ p.2.2.2.2.1 * p.2.2.2.2.2 ∧ p.2.2.2.2.1 ≤ a.length)
    (fun p => ⟨[(0, vs t xs), (1, vs t' ys), (5, .ow 1000), (6, vi .i64 p.2.1), (7, vi .i64 p.1)], [(1000, .ar 3 1 p.2.2.1)]⟩) (fun p => a.length - p.2.2.2.2.1) (0, 0, [], [], 0, 0) ⟨rfl, rfl, rfl, Ok.nil, rfl, Nat.zero_le _, rfl, Nat.zero_le _⟩ (by (refine Wk.of [(1000, none)] rfl ?_ ?_; (· (repeat (first | exact trivial | (refine And.intro ?_ ?_; (· first | exact trivial | exact Or.inl ⟨_, rfl, rfl⟩ | exact ⟨_, rfl, rfl⟩ | exact Or.inr ⟨rfl, rfl, by decide⟩))))); (· (repeat (first | exact trivial | (refine And.intro ?_ ?_; (· first | exact trivial | exact Or.inl rfl | rfl | exact Or.inr ⟨_, _, _, _, rfl, rfl, rfl, renNo rfl⟩ | exact ⟨ne_no rfl, Or.inl ⟨_, rfl, rfl⟩⟩ | exact ⟨ne_no rfl, Or.inr ⟨rfl, _, rfl⟩⟩ | exact ⟨_, rfl, rfl, ne_no rfl⟩))))))) ?_
  rintro ⟨iz, cz, os, o, i, c⟩ R ⟨hiz, hcz, hos, hoo, hol, hc, hv, hi⟩ hR
  simp only at hiz hcz hos hoo hol hc hv hi
  have hosl : os.length = i := by rw [hos, hl_len, hol]
  have g1 := gd_lt BH0 ha i
  have g2 := gd_lt BH0 hb i
  have e1 := val_take_gd BH a i
  have e2 := val_take_gd BH b i
  rw [BH_eq] at g1 g2
  cbv
  (refine Good.len' ‹_› ?_; intro _ _; cbv)
  refine h.dec rfl (fun hp => ?_) (fun hp => ?_)
  · have hia : i < a.length := by (simp only [inR, cmpP, loOk, hiOk, Int.ofNat_eq_natCast, Int.negSucc_eq, IntKind.bits, Int.toNat_natCast, ge_iff_le, gt_iff_lt, ne_eq, wl_len, hl_len, natCast_fold, not_true_eq_false, not_false_eq_true] at * <;> omega)
    cbv
    refine at_s h i hx hiz fun c1 hc1 => ?_
    cbv
    refine at_s h i hy hiz fun c2 hc2 => ?_
    cbv
    (refine Good.sub' ‹_› ?_ ?_; (· (simp only [inR, cmpP, loOk, hiOk, Int.ofNat_eq_natCast, Int.negSucc_eq, IntKind.bits, Int.toNat_natCast, ge_iff_le, gt_iff_lt, ne_eq, wl_len, hl_len, natCast_fold, not_true_eq_false, not_false_eq_true] at * <;> omega)); intro _ _; cbv; refine Good.sub' ‹_› ?_ ?_; (· (simp only [inR, cmpP, loOk, hiOk, Int.ofNat_eq_natCast, Int.negSucc_eq, IntKind.bits, Int.toNat_natCast, ge_iff_le, gt_iff_lt, ne_eq, wl_len, hl_len, natCast_fold, not_true_eq_false, not_false_eq_true] at * <;> omega)); intro _ _; cbv)
    rename_i v0 hv0 v1 hv1
    refine h.dec rfl (fun hp => ?_) (fun hp => ?_)
    · have hneg : gd a i < gd b i + c := by (simp only [inR, cmpP, loOk, hiOk, Int.ofNat_eq_natCast, Int.negSucc_eq, IntKind.bits, Int.toNat_natCast, ge_iff_le, gt_iff_lt, ne_eq, wl_len, hl_len, natCast_fold, not_true_eq_false, not_false_eq_true] at * <;> omega)
      cbv
      (refine Good.add' ‹_› ?_ ?_; (· (simp only [inR, cmpP, loOk, hiOk, Int.ofNat_eq_natCast, Int.negSucc_eq, IntKind.bits, Int.toNat_natCast, ge_iff_le, gt_iff_lt, ne_eq, wl_len, hl_len, natCast_fold, not_true_eq_false, not_false_eq_true] at * <;> omega)); intro _ _; cbv)
      rename_i v2 hv2
      (cbv
       refine h.app' (by decide) (fun y hy => by simp at hy; rw [hy]; rfl) (by simp [maxLen]; omega) (by simp; omega) fun zs hzs => ?_
       cbv
       (refine Good.add' ‹_› ?_ ?_; (· (simp only [inR, cmpP, loOk, hiOk, Int.ofNat_eq_natCast, Int.negSucc_eq, IntKind.bits, Int.toNat_natCast, ge_iff_le, gt_iff_lt, ne_eq, wl_len, hl_len, natCast_fold, not_true_eq_false, not_false_eq_true] at * <;> omega)); intro _ _; cbv)
       rename_i i1 hi1
       have hdd : (gd a i + 65536 - gd b i - c) < 65536 := by omega
       refine hR _ (i1, 1, zs, o ++ [(gd a i + 65536 - gd b i - c)], i + 1, 1) ⟨by simp only; (simp only [inR, cmpP, loOk, hiOk, Int.ofNat_eq_natCast, Int.negSucc_eq, IntKind.bits, Int.toNat_natCast, ge_iff_le, gt_iff_lt, ne_eq, wl_len, hl_len, natCast_fold, not_true_eq_false, not_false_eq_true] at * <;> omega), rfl, ?_, hoo.app (Ok.of (by rw [BH_eq]; exact hdd) Ok.nil), by simp [hol], (by show 1 ≤ 1; decide), ?_, by simp only; omega⟩ (by simp only; omega) (by (refine Wk.of [(1000, some 31)] rfl ?_ ?_; (· (repeat (first | exact trivial | (refine And.intro ?_ ?_; (· first | exact trivial | exact Or.inl ⟨_, rfl, rfl⟩ | exact ⟨_, rfl, rfl⟩ | exact Or.inr ⟨rfl, rfl, by decide⟩))))); (· (repeat (first | exact trivial | (refine And.intro ?_ ?_; (· first | exact trivial | exact Or.inl rfl | rfl | exact Or.inr ⟨_, _, _, _, rfl, rfl, rfl, renNo rfl⟩ | exact ⟨ne_no rfl, Or.inl ⟨_, rfl, rfl⟩⟩ | exact ⟨ne_no rfl, Or.inr ⟨rfl, _, rfl⟩⟩ | exact ⟨_, rfl, rfl, ne_no rfl⟩)))))))
       · show zs = _
         rw [hzs, hos, ← hl_app]
         have : v2 = (((gd a i + 65536 - gd b i - c) : Nat) : Int) := by (simp only [inR, cmpP, loOk, hiOk, Int.ofNat_eq_natCast, Int.negSucc_eq, IntKind.bits, Int.toNat_natCast, ge_iff_le, gt_iff_lt, ne_eq, wl_len, hl_len, natCast_fold, not_true_eq_false, not_false_eq_true] at * <;> omega)
         rw [this]; rfl
       · show val BH (o ++ [(gd a i + 65536 - gd b i - c)]) + val BH (b.take (i + 1)) = val BH (a.take (i + 1)) + BH ^ (i + 1) * 1
         rw [e1, e2, val_snoc, hol]
         have hk : gd b i + c + (gd a i + 65536 - gd b i - c) = gd a i + BH * 1 := by rw [BH_eq]; omega
         have hk2 := congrArg (BH ^ i * ·) hk
         simp only [Nat.mul_add] at hk2
         rw [Nat.pow_succ, Nat.mul_assoc]
         omega
      )
    · have hpos : gd b i + c ≤ gd a i := by (simp only [inR, cmpP, loOk, hiOk, Int.ofNat_eq_natCast, Int.negSucc_eq, IntKind.bits, Int.toNat_natCast, ge_iff_le, gt_iff_lt, ne_eq, wl_len, hl_len, natCast_fold, not_true_eq_false, not_false_eq_true] at * <;> omega)
      obtain ⟨v2, hv2⟩ : ∃ v2, v2 = v1 := ⟨_, rfl⟩
      rw [← hv2]
      (cbv
       refine h.app' (by decide) (fun y hy => by simp at hy; rw [hy]; rfl) (by simp [maxLen]; omega) (by simp; omega) fun zs hzs => ?_
       cbv
       (refine Good.add' ‹_› ?_ ?_; (· (simp only [inR, cmpP, loOk, hiOk, Int.ofNat_eq_natCast, Int.negSucc_eq, IntKind.bits, Int.toNat_natCast, ge_iff_le, gt_iff_lt, ne_eq, wl_len, hl_len, natCast_fold, not_true_eq_false, not_false_eq_true] at * <;> omega)); intro _ _; cbv)
       rename_i i1 hi1
       have hdd : (gd a i - gd b i - c) < 65536 := by omega
       refine hR _ (i1, 0, zs, o ++ [(gd a i - gd b i - c)], i + 1, 0) ⟨by simp only; (simp only [inR, cmpP, loOk, hiOk, Int.ofNat_eq_natCast, Int.negSucc_eq, IntKind.bits, Int.toNat_natCast, ge_iff_le, gt_iff_lt, ne_eq, wl_len, hl_len, natCast_fold, not_true_eq_false, not_false_eq_true] at * <;> omega), rfl, ?_, hoo.app (Ok.of (by rw [BH_eq]; exact hdd) Ok.nil), by simp [hol], (by show 0 ≤ 1; decide), ?_, by simp only; omega⟩ (by simp only; omega) (by (refine Wk.of [(1000, some 31)] rfl ?_ ?_; (· (repeat (first | exact trivial | (refine And.intro ?_ ?_; (· first | exact trivial | exact Or.inl ⟨_, rfl, rfl⟩ | exact ⟨_, rfl, rfl⟩ | exact Or.inr ⟨rfl, rfl, by decide⟩))))); (· (repeat (first | exact trivial | (refine And.intro ?_ ?_; (· first | exact trivial | exact Or.inl rfl | rfl | exact Or.inr ⟨_, _, _, _, rfl, rfl, rfl, renNo rfl⟩ | exact ⟨ne_no rfl, Or.inl ⟨_, rfl, rfl⟩⟩ | exact ⟨ne_no rfl, Or.inr ⟨rfl, _, rfl⟩⟩ | exact ⟨_, rfl, rfl, ne_no rfl⟩)))))))
       · show zs = _
         rw [hzs, hos, ← hl_app]
         have : v2 = (((gd a i - gd b i - c) : Nat) : Int) := by (simp only [inR, cmpP, loOk, hiOk, Int.ofNat_eq_natCast, Int.negSucc_eq, IntKind.bits, Int.toNat_natCast, ge_iff_le, gt_iff_lt, ne_eq, wl_len, hl_len, natCast_fold, not_true_eq_false, not_false_eq_true] at * <;> omega)
         rw [this]; rfl
       · show val BH (o ++ [(gd a i - gd b i - c)]) + val BH (b.take (i + 1)) = val BH (a.take (i + 1)) + BH ^ (i + 1) * 0
         rw [e1, e2, val_snoc, hol]
         have hk : gd b i + c + (gd a i - gd b i - c) = gd a i + BH * 0 := by rw [BH_eq]; omega
         have hk2 := congrArg (BH ^ i * ·) hk
         simp only [Nat.mul_add] at hk2
         rw [Nat.pow_succ, Nat.mul_assoc]
         omega
      )
  · have hia : i = a.length := by (simp only [inR, cmpP, loOk, hiOk, Int.ofNat_eq_natCast, Int.negSucc_eq, IntKind.bits, Int.toNat_natCast, ge_iff_le, gt_iff_lt, ne_eq, wl_len, hl_len, natCast_fold, not_true_eq_false, not_false_eq_true] at * <;> omega)
    rw [hia, List.take_length] at hv
    have hbs := val_split BH b a.length
    have halt := val_lt ha
    have hb0 : val BH (b.drop a.length) = 0 := by
      rcases Nat.eq_zero_or_pos (val BH (b.drop a.length)) with h | h
      · exact h
      · have := Nat.le_mul_of_pos_right (BH ^ a.length) h
        omega
    rw [hb0, Nat.mul_zero, Nat.add_zero] at hbs
    rw [← hbs] at hv
    have holt := val_lt hoo
    rw [hol, hia] at holt
    have hc0 : c = 0 := by
      rcases Nat.eq_zero_or_pos c with h | h
      · exact h
      · have := Nat.le_mul_of_pos_right (BH ^ a.length) h
        omega
    rw [hc0, Nat.mul_zero, Nat.add_zero] at hv
    have hvo : val BH o = val BH a - val BH b := by omega
    cbv
    refine rtrim_s h hos hoo (by omega) fun us hu => ?_
    rw [hvo, ← hz] at hu
    rw [hu]
    cbv
    exact hQ
theorem rsub_s {π : Pi} (h : Good TT π) {K : List DV → Prop} {t t' : Nat} {a b : List Nat} {xs ys : List (List D)} (hx : xs = hl a) (hy : ys = hl b) (ha : Ok BH a) (hb : Ok BH b) (hla : a.length ≤ 1000000) (hlb : b.length ≤ 1000000) (hle : val BH b ≤ val BH a) (hk : ∀ zs, zs = hl (dg BH (val BH a - val BH b)) → K [.one (.sl 1 1 zs)]) : π.call 114 [.one (.sl t 1 xs), .one (.sl t' 1 ys)] K :=
  h.call' _ (rsub_c ha hb hla hlb hx hy hle rfl) (hk _ rfl)
theorem times_c {t n : Nat} {a : List Nat} {xs zs : List (List D)} {nz : Int} (ha : Ok BH a) (hla : a.length ≤ 1000000) (hx : xs = hl a) (hn : nz = (n : Int)) (hn2 : n ≤ 65536) (hz : zs = hl (dg BH (val BH a * n))) : TT 130 [.one (.sl t 1 xs), .one (.sc (.int .i64 nz))] [.one (.sl 1 1 zs)] := by
  refine con Tryz.func130 rfl (by kernel_rfl) (by kernel_rfl) fun π Q h hQ => ?_
  have hlx : xs.length = a.length := by rw [hx, hl_len]
  cbv
  refine h.loop' (Int × Int × List (List D) × List Nat × Nat × Nat) (fun p => p.1 = (p.2.2.2.2.1 : Int) ∧ p.2.1 = (p.2.2.2.2.2 : Int) ∧ p.2.2.1 = hl p.2.2.2.1 ∧ Ok BH p.2.2.2.1 ∧ p.2.2.2.1.length = p.2.2.2.2.1 ∧ p.2.2.2.2.2 ≤ n ∧ val BH p.2.2.2.1 + BH ^ p.2.2.2.2.1 * p.2.2.2.2.2 = val BH (a.take p.2.2.2.2.1) * n ∧ (p.2.2.2.2.1 ≤ a.length ∨ p.2.2.2.2.1 + p.2.2.2.2.2 ≤ a.length + 65536))
    (fun p => ⟨[(0, vs t xs), (1, vi .i64 nz), (5, .ow 1000), (6, vi .i64 p.2.1), (7, vi .i64 p.1)], [(1000, .ar 3 1 p.2.2.1)]⟩) (fun p => 100000 * (a.length - p.2.2.2.2.1) + p.2.2.2.2.2) (0, 0, [], [], 0, 0) ⟨rfl, rfl, rfl, Ok.nil, rfl, Nat.zero_le _, by simp [val], .inl (Nat.zero_le _)⟩ (by (refine Wk.of [(1000, none)] rfl ?_ ?_; (· (repeat (first | exact trivial | (refine And.intro ?_ ?_; (· first | exact trivial | exact Or.inl ⟨_, rfl, rfl⟩ | exact ⟨_, rfl, rfl⟩ | exact Or.inr ⟨rfl, rfl, by decide⟩))))); (· (repeat (first | exact trivial | (refine And.intro ?_ ?_; (· first | exact trivial | exact Or.inl rfl | rfl | exact Or.inr ⟨_, _, _, _, rfl, rfl, rfl, renNo rfl⟩ | exact ⟨ne_no rfl, Or.inl ⟨_, rfl, rfl⟩⟩ | exact ⟨ne_no rfl, Or.inr ⟨rfl, _, rfl⟩⟩ | exact ⟨_, rfl, rfl, ne_no rfl⟩))))))) ?_
  rintro ⟨iz, cz, os, o, i, c⟩ R ⟨hiz, hcz, hos, hoo, hol, hc, hv, hi⟩ hR
  simp only at hiz hcz hos hoo hol hc hv hi
  have hosl : os.length = i := by rw [hos, hl_len, hol]
  have g1 := gd_lt BH0 ha i
  have e1 := val_take_gd BH a i
  rw [BH_eq] at g1
  cbv
  (refine Good.len' ‹_› ?_; intro _ _; cbv)
  refine h.dec rfl (fun hp => ?_) (fun hp => ?_)
  · have hgo : i < a.length ∨ 0 < c := by (simp only [inR, cmpP, loOk, hiOk, Int.ofNat_eq_natCast, Int.negSucc_eq, IntKind.bits, Int.toNat_natCast, ge_iff_le, gt_iff_lt, ne_eq, wl_len, hl_len, natCast_fold, not_true_eq_false, not_false_eq_true] at * <;> omega)
    (cbv
     skip
     refine at_s h i hx hiz fun c1 hc1 => ?_
     have hgn : gd a i * n ≤ 65535 * n := Nat.mul_le_mul_right _ (by omega)
     have hc1n : c1 * nz = ((gd a i * n : Nat) : Int) := by rw [hc1, hn, Int.natCast_mul]
     cbv
     refine h.mul' (by (simp only [inR, cmpP, loOk, hiOk, Int.ofNat_eq_natCast, Int.negSucc_eq, IntKind.bits, Int.toNat_natCast, ge_iff_le, gt_iff_lt, ne_eq, wl_len, hl_len, natCast_fold, not_true_eq_false, not_false_eq_true] at * <;> omega)) fun v0 hv0 => ?_
     have hv0 : v0 = ((gd a i * n : Nat) : Int) := by rw [hv0, hc1n]
     cbv
     (refine Good.add' ‹_› ?_ ?_; (· (simp only [inR, cmpP, loOk, hiOk, Int.ofNat_eq_natCast, Int.negSucc_eq, IntKind.bits, Int.toNat_natCast, ge_iff_le, gt_iff_lt, ne_eq, wl_len, hl_len, natCast_fold, not_true_eq_false, not_false_eq_true] at * <;> omega)); intro _ _; cbv)
     rename_i v1 hv1
     obtain ⟨vv, hvv⟩ : ∃ vv, vv = gd a i * n + c := ⟨_, rfl⟩
     have hv1 : v1 = (vv : Int) := by (simp only [inR, cmpP, loOk, hiOk, Int.ofNat_eq_natCast, Int.negSucc_eq, IntKind.bits, Int.toNat_natCast, ge_iff_le, gt_iff_lt, ne_eq, wl_len, hl_len, natCast_fold, not_true_eq_false, not_false_eq_true] at * <;> omega)
     have hd0 : a.length ≤ i → vv = c := fun hh => by
       have ha0 : gd a i = 0 := gd_out (by omega)
       rw [hvv, ha0]; omega
     refine h.rem' (by omega) (by omega) fun m hm => ?_
     have hm : m = ((vv % 65536 : Nat) : Int) := by omega
     cbv
     refine h.app' (by decide) (fun y hy => by simp at hy; rw [hy]; rfl) (by simp [maxLen]; omega) (by simp; omega) fun zs hzs => ?_
     cbv
     refine h.quo' (by (simp only [inR, cmpP, loOk, hiOk, Int.ofNat_eq_natCast, Int.negSucc_eq, IntKind.bits, Int.toNat_natCast, ge_iff_le, gt_iff_lt, ne_eq, wl_len, hl_len, natCast_fold, not_true_eq_false, not_false_eq_true] at * <;> omega)) (by omega) (by (simp only [inR, cmpP, loOk, hiOk, Int.ofNat_eq_natCast, Int.negSucc_eq, IntKind.bits, Int.toNat_natCast, ge_iff_le, gt_iff_lt, ne_eq, wl_len, hl_len, natCast_fold, not_true_eq_false, not_false_eq_true] at * <;> omega)) fun q hq => ?_
     have hq : q = ((vv / 65536 : Nat) : Int) := by (simp only [inR, cmpP, loOk, hiOk, Int.ofNat_eq_natCast, Int.negSucc_eq, IntKind.bits, Int.toNat_natCast, ge_iff_le, gt_iff_lt, ne_eq, wl_len, hl_len, natCast_fold, not_true_eq_false, not_false_eq_true] at * <;> omega)
     cbv
     (refine Good.add' ‹_› ?_ ?_; (· (simp only [inR, cmpP, loOk, hiOk, Int.ofNat_eq_natCast, Int.negSucc_eq, IntKind.bits, Int.toNat_natCast, ge_iff_le, gt_iff_lt, ne_eq, wl_len, hl_len, natCast_fold, not_true_eq_false, not_false_eq_true] at * <;> omega)); intro _ _; cbv)
     rename_i i1 hi1
     have hq1 : vv / 65536 ≤ n := by omega
     have hq2 : a.length ≤ i → vv / 65536 ≤ c / 65536 := fun hh => by rw [hd0 hh]; omega
     refine hR _ (i1, q, zs, o ++ [vv % 65536], i + 1, vv / 65536) ⟨by simp only; (simp only [inR, cmpP, loOk, hiOk, Int.ofNat_eq_natCast, Int.negSucc_eq, IntKind.bits, Int.toNat_natCast, ge_iff_le, gt_iff_lt, ne_eq, wl_len, hl_len, natCast_fold, not_true_eq_false, not_false_eq_true] at * <;> omega), hq, ?_, hoo.app (Ok.of (by rw [BH_eq]; omega) Ok.nil), by simp [hol], by simp only; omega, ?_, ?_⟩ (by simp only; omega) (by (refine Wk.of [(1000, some 30)] rfl ?_ ?_; (· (repeat (first | exact trivial | (refine And.intro ?_ ?_; (· first | exact trivial | exact Or.inl ⟨_, rfl, rfl⟩ | exact ⟨_, rfl, rfl⟩ | exact Or.inr ⟨rfl, rfl, by decide⟩))))); (· (repeat (first | exact trivial | (refine And.intro ?_ ?_; (· first | exact trivial | exact Or.inl rfl | rfl | exact Or.inr ⟨_, _, _, _, rfl, rfl, rfl, renNo rfl⟩ | exact ⟨ne_no rfl, Or.inl ⟨_, rfl, rfl⟩⟩ | exact ⟨ne_no rfl, Or.inr ⟨rfl, _, rfl⟩⟩ | exact ⟨_, rfl, rfl, ne_no rfl⟩)))))))
     · show zs = _
       rw [hzs, hos, ← hl_app, hm]; rfl
     · refine put_digit hol ?_
       show _ = val BH (a.take (i + 1)) * n
       rw [e1, hvv, Nat.mul_add, Nat.add_mul, Nat.mul_assoc]
       omega
     · simp only
       omega
    )
  · cbv
    skip
    refine h.dec rfl (fun hp => ?_) (fun hp => ?_)
    · have hgo : i < a.length ∨ 0 < c := by (simp only [inR, cmpP, loOk, hiOk, Int.ofNat_eq_natCast, Int.negSucc_eq, IntKind.bits, Int.toNat_natCast, ge_iff_le, gt_iff_lt, ne_eq, wl_len, hl_len, natCast_fold, not_true_eq_false, not_false_eq_true] at * <;> omega)
      (cbv
       skip
       refine at_s h i hx hiz fun c1 hc1 => ?_
       have hgn : gd a i * n ≤ 65535 * n := Nat.mul_le_mul_right _ (by omega)
       have hc1n : c1 * nz = ((gd a i * n : Nat) : Int) := by rw [hc1, hn, Int.natCast_mul]
       cbv
       refine h.mul' (by (simp only [inR, cmpP, loOk, hiOk, Int.ofNat_eq_natCast, Int.negSucc_eq, IntKind.bits, Int.toNat_natCast, ge_iff_le, gt_iff_lt, ne_eq, wl_len, hl_len, natCast_fold, not_true_eq_false, not_false_eq_true] at * <;> omega)) fun v0 hv0 => ?_
       have hv0 : v0 = ((gd a i * n : Nat) : Int) := by rw [hv0, hc1n]
       cbv
       (refine Good.add' ‹_› ?_ ?_; (· (simp only [inR, cmpP, loOk, hiOk, Int.ofNat_eq_natCast, Int.negSucc_eq, IntKind.bits, Int.toNat_natCast, ge_iff_le, gt_iff_lt, ne_eq, wl_len, hl_len, natCast_fold, not_true_eq_false, not_false_eq_true] at * <;> omega)); intro _ _; cbv)
       rename_i v1 hv1
       obtain ⟨vv, hvv⟩ : ∃ vv, vv = gd a i * n + c := ⟨_, rfl⟩
       have hv1 : v1 = (vv : Int) := by (simp only [inR, cmpP, loOk, hiOk, Int.ofNat_eq_natCast, Int.negSucc_eq, IntKind.bits, Int.toNat_natCast, ge_iff_le, gt_iff_lt, ne_eq, wl_len, hl_len, natCast_fold, not_true_eq_false, not_false_eq_true] at * <;> omega)
       have hd0 : a.length ≤ i → vv = c := fun hh => by
         have ha0 : gd a i = 0 := gd_out (by omega)
         rw [hvv, ha0]; omega
       refine h.rem' (by omega) (by omega) fun m hm => ?_
       have hm : m = ((vv % 65536 : Nat) : Int) := by omega
       cbv
       refine h.app' (by decide) (fun y hy => by simp at hy; rw [hy]; rfl) (by simp [maxLen]; omega) (by simp; omega) fun zs hzs => ?_
       cbv
       refine h.quo' (by (simp only [inR, cmpP, loOk, hiOk, Int.ofNat_eq_natCast, Int.negSucc_eq, IntKind.bits, Int.toNat_natCast, ge_iff_le, gt_iff_lt, ne_eq, wl_len, hl_len, natCast_fold, not_true_eq_false, not_false_eq_true] at * <;> omega)) (by omega) (by (simp only [inR, cmpP, loOk, hiOk, Int.ofNat_eq_natCast, Int.negSucc_eq, IntKind.bits, Int.toNat_natCast, ge_iff_le, gt_iff_lt, ne_eq, wl_len, hl_len, natCast_fold, not_true_eq_false, not_false_eq_true] at * <;> omega)) fun q hq => ?_
       have hq : q = ((vv / 65536 : Nat) : Int) := by (simp only [inR, cmpP, loOk, hiOk, Int.ofNat_eq_natCast, Int.negSucc_eq, IntKind.bits, Int.toNat_natCast, ge_iff_le, gt_iff_lt, ne_eq, wl_len, hl_len, natCast_fold, not_true_eq_false, not_false_eq_true] at * <;> omega)
       cbv
       (refine Good.add' ‹_› ?_ ?_; (· (simp only [inR, cmpP, loOk, hiOk, Int.ofNat_eq_natCast, Int.negSucc_eq, IntKind.bits, Int.toNat_natCast, ge_iff_le, gt_iff_lt, ne_eq, wl_len, hl_len, natCast_fold, not_true_eq_false, not_false_eq_true] at * <;> omega)); intro _ _; cbv)
       rename_i i1 hi1
       have hq1 : vv / 65536 ≤ n := by omega
       have hq2 : a.length ≤ i → vv / 65536 ≤ c / 65536 := fun hh => by rw [hd0 hh]; omega
       refine hR _ (i1, q, zs, o ++ [vv % 65536], i + 1, vv / 65536) ⟨by simp only; (simp only [inR, cmpP, loOk, hiOk, Int.ofNat_eq_natCast, Int.negSucc_eq, IntKind.bits, Int.toNat_natCast, ge_iff_le, gt_iff_lt, ne_eq, wl_len, hl_len, natCast_fold, not_true_eq_false, not_false_eq_true] at * <;> omega), hq, ?_, hoo.app (Ok.of (by rw [BH_eq]; omega) Ok.nil), by simp [hol], by simp only; omega, ?_, ?_⟩ (by simp only; omega) (by (refine Wk.of [(1000, some 30)] rfl ?_ ?_; (· (repeat (first | exact trivial | (refine And.intro ?_ ?_; (· first | exact trivial | exact Or.inl ⟨_, rfl, rfl⟩ | exact ⟨_, rfl, rfl⟩ | exact Or.inr ⟨rfl, rfl, by decide⟩))))); (· (repeat (first | exact trivial | (refine And.intro ?_ ?_; (· first | exact trivial | exact Or.inl rfl | rfl | exact Or.inr ⟨_, _, _, _, rfl, rfl, rfl, renNo rfl⟩ | exact ⟨ne_no rfl, Or.inl ⟨_, rfl, rfl⟩⟩ | exact ⟨ne_no rfl, Or.inr ⟨rfl, _, rfl⟩⟩ | exact ⟨_, rfl, rfl, ne_no rfl⟩)))))))
       · show zs = _
         rw [hzs, hos, ← hl_app, hm]; rfl
       · refine put_digit hol ?_
         show _ = val BH (a.take (i + 1)) * n
         rw [e1, hvv, Nat.mul_add, Nat.add_mul, Nat.mul_assoc]
         omega
       · simp only
         omega
      )
    · have hc0 : c = 0 := by (simp only [inR, cmpP, loOk, hiOk, Int.ofNat_eq_natCast, Int.negSucc_eq, IntKind.bits, Int.toNat_natCast, ge_iff_le, gt_iff_lt, ne_eq, wl_len, hl_len, natCast_fold, not_true_eq_false, not_false_eq_true] at * <;> omega)
      have hia : a.length ≤ i := by (simp only [inR, cmpP, loOk, hiOk, Int.ofNat_eq_natCast, Int.negSucc_eq, IntKind.bits, Int.toNat_natCast, ge_iff_le, gt_iff_lt, ne_eq, wl_len, hl_len, natCast_fold, not_true_eq_false, not_false_eq_true] at * <;> omega)
      rw [hc0, List.take_of_length_le hia, Nat.mul_zero, Nat.add_zero] at hv
      cbv
      refine rtrim_s h hos hoo (by omega) fun us hu => ?_
      rw [hv, ← hz] at hu
      rw [hu]
      cbv
      exact hQ
theorem times_s {π : Pi} (h : Good TT π) {K : List DV → Prop} {t : Nat} {a : List Nat} {xs : List (List D)} {nz : Int} (n : Nat) (hx : xs = hl a) (ha : Ok BH a) (hla : a.length ≤ 1000000) (hn : nz = (n : Int)) (hn2 : n ≤ 65536) (hk : ∀ zs, zs = hl (dg BH (val BH a * n)) → K [.one (.sl 1 1 zs)]) : π.call 130 [.one (.sl t 1 xs), .one (.sc (.int .i64 nz))] K :=
  h.call' _ (times_c ha hla hx hn hn2 rfl) (hk _ rfl)
theorem rsmall_c {t : Nat} {a : List Nat} {xs : List (List D)} {c : Int} (ha : Ok BH a) (hla : a.length ≤ 3) (hx : xs = hl a) (hc : c = (val BH a : Int)) : TT 129 [.one (.sl t 1 xs)] [.one (.sc (.int .i64 c))] := by
  refine con Tryz.func129 rfl (by kernel_rfl) (by kernel_rfl) fun π Q h hQ => ?_
  have hlx : xs.length = a.length := by rw [hx, hl_len]
  have hbig : ∀ k, val BH (a.drop k) < 281474976710656 := fun k => by
    have h1 := val_lt (ha.drop k)
    have h2 : BH ^ (a.drop k).length ≤ BH ^ 3 := Nat.pow_le_pow_right BH0 (by simp; omega)
    have h3 : BH ^ 3 = 281474976710656 := by decide
    omega
  cbv
  (refine Good.len' ‹_› ?_; intro _ _; cbv; refine Good.sub' ‹_› ?_ ?_; (· (simp only [inR, cmpP, loOk, hiOk, Int.ofNat_eq_natCast, Int.negSucc_eq, IntKind.bits, Int.toNat_natCast, ge_iff_le, gt_iff_lt, ne_eq, wl_len, hl_len, natCast_fold, not_true_eq_false, not_false_eq_true] at * <;> omega)); intro _ _; cbv)
  rename_i n0 hn0 i0 hi0
  refine h.loop' (Int × Int × Nat) (fun p => p.1 = (p.2.2 : Int) - 1 ∧ p.2.1 = (val BH (a.drop p.2.2) : Int) ∧ p.2.2 ≤ a.length) (fun p => ⟨[(0, vs t xs), (3, vi .i64 p.2.1), (4, vi .i64 p.1)], []⟩) (fun p => p.2.2) (i0, 0, a.length) ⟨by (simp only [inR, cmpP, loOk, hiOk, Int.ofNat_eq_natCast, Int.negSucc_eq, IntKind.bits, Int.toNat_natCast, ge_iff_le, gt_iff_lt, ne_eq, wl_len, hl_len, natCast_fold, not_true_eq_false, not_false_eq_true] at * <;> omega), by rw [List.drop_length]; rfl, Nat.le_refl _⟩ (by (refine Wk.of [] rfl ?_ ?_; (· (repeat (first | exact trivial | (refine And.intro ?_ ?_; (· first | exact trivial | exact Or.inl ⟨_, rfl, rfl⟩ | exact ⟨_, rfl, rfl⟩ | exact Or.inr ⟨rfl, rfl, by decide⟩))))); (· (repeat (first | exact trivial | (refine And.intro ?_ ?_; (· first | exact trivial | exact Or.inl rfl | rfl | exact Or.inr ⟨_, _, _, _, rfl, rfl, rfl, renNo rfl⟩ | exact ⟨ne_no rfl, Or.inl ⟨_, rfl, rfl⟩⟩ | exact ⟨ne_no rfl, Or.inr ⟨rfl, _, rfl⟩⟩ | exact ⟨_, rfl, rfl, ne_no rfl⟩))))))) ?_
  rintro ⟨iz, vz, k⟩ R ⟨hiz, hvz, hk⟩ hR
  simp only at hiz hvz hk
  cbv
  refine h.dec rfl (fun hp => ?_) (fun hp => ?_)
  · obtain ⟨j, rfl⟩ : ∃ j, k = j + 1 := ⟨k - 1, by (simp only [inR, cmpP, loOk, hiOk, Int.ofNat_eq_natCast, Int.negSucc_eq, IntKind.bits, Int.toNat_natCast, ge_iff_le, gt_iff_lt, ne_eq, wl_len, hl_len, natCast_fold, not_true_eq_false, not_false_eq_true] at * <;> omega)⟩
    obtain ⟨x, hgx⟩ := lt_get (ws := a) (i := j) (by omega)
    have hx1 := ha.get hgx
    have e := val_drop BH hgx
    have e' : val BH (a.drop j) = x + 65536 * val BH (a.drop (j + 1)) := e
    have b2 := hbig j
    rw [BH_eq] at hx1
    cbv
    (refine Good.mul' ‹_› ?_ ?_; (· (simp only [inR, cmpP, loOk, hiOk, Int.ofNat_eq_natCast, Int.negSucc_eq, IntKind.bits, Int.toNat_natCast, ge_iff_le, gt_iff_lt, ne_eq, wl_len, hl_len, natCast_fold, not_true_eq_false, not_false_eq_true] at * <;> omega)); intro _ _; cbv)
    refine h.get' j _ (by (simp only [inR, cmpP, loOk, hiOk, Int.ofNat_eq_natCast, Int.negSucc_eq, IntKind.bits, Int.toNat_natCast, ge_iff_le, gt_iff_lt, ne_eq, wl_len, hl_len, natCast_fold, not_true_eq_false, not_false_eq_true] at * <;> omega)) (by rw [hx]; exact hl_get hgx) ?_
    cbv
    (refine Good.add' ‹_› ?_ ?_; (· (simp only [inR, cmpP, loOk, hiOk, Int.ofNat_eq_natCast, Int.negSucc_eq, IntKind.bits, Int.toNat_natCast, ge_iff_le, gt_iff_lt, ne_eq, wl_len, hl_len, natCast_fold, not_true_eq_false, not_false_eq_true] at * <;> omega)); intro _ _; cbv; refine Good.sub' ‹_› ?_ ?_; (· (simp only [inR, cmpP, loOk, hiOk, Int.ofNat_eq_natCast, Int.negSucc_eq, IntKind.bits, Int.toNat_natCast, ge_iff_le, gt_iff_lt, ne_eq, wl_len, hl_len, natCast_fold, not_true_eq_false, not_false_eq_true] at * <;> omega)); intro _ _; cbv)
    rename_i v0 hv0 v1 hv1 i1 hi1
    refine hR _ (i1, v1, j) ⟨by simp only; (simp only [inR, cmpP, loOk, hiOk, Int.ofNat_eq_natCast, Int.negSucc_eq, IntKind.bits, Int.toNat_natCast, ge_iff_le, gt_iff_lt, ne_eq, wl_len, hl_len, natCast_fold, not_true_eq_false, not_false_eq_true] at * <;> omega), ?_, by simp only; omega⟩ (by simp only; omega) (by (refine Wk.of [] rfl ?_ ?_; (· (repeat (first | exact trivial | (refine And.intro ?_ ?_; (· first | exact trivial | exact Or.inl ⟨_, rfl, rfl⟩ | exact ⟨_, rfl, rfl⟩ | exact Or.inr ⟨rfl, rfl, by decide⟩))))); (· (repeat (first | exact trivial | (refine And.intro ?_ ?_; (· first | exact trivial | exact Or.inl rfl | rfl | exact Or.inr ⟨_, _, _, _, rfl, rfl, rfl, renNo rfl⟩ | exact ⟨ne_no rfl, Or.inl ⟨_, rfl, rfl⟩⟩ | exact ⟨ne_no rfl, Or.inr ⟨rfl, _, rfl⟩⟩ | exact ⟨_, rfl, rfl, ne_no rfl⟩)))))))
    show v1 = ((val BH (a.drop j) : Nat) : Int)
    (simp only [inR, cmpP, loOk, hiOk, Int.ofNat_eq_natCast, Int.negSucc_eq, IntKind.bits, Int.toNat_natCast, ge_iff_le, gt_iff_lt, ne_eq, wl_len, hl_len, natCast_fold, not_true_eq_false, not_false_eq_true] at * <;> omega)
  · have hk0 : k = 0 := by (simp only [inR, cmpP, loOk, hiOk, Int.ofNat_eq_natCast, Int.negSucc_eq, IntKind.bits, Int.toNat_natCast, ge_iff_le, gt_iff_lt, ne_eq, wl_len, hl_len, natCast_fold, not_true_eq_false, not_false_eq_true] at * <;> omega)
    rw [hk0, List.drop_zero, ← hc] at hvz
    rw [hvz]
    cbv
    exact hQ
theorem rsmall_s {π : Pi} (h : Good TT π) {K : List DV → Prop} {t : Nat} {a : List Nat} {xs : List (List D)} (hx : xs = hl a) (ha : Ok BH a) (hla : a.length ≤ 3) (hk : ∀ c, c = (val BH a : Int) → K [.one (.sc (.int .i64 c))]) : π.call 129 [.one (.sl t 1 xs)] K :=
  h.call' _ (rsmall_c ha hla hx rfl) (hk _ rfl)
theorem back_c {v : Nat} {vz : Int} {zs : List (List D)} (hv : vz = (v : Int)) (hv2 : v < 281474976710656) (hz : zs = hl (dg BH v)) : TT 128 [.one (.sc (.int .i64 vz))] [.one (.sl 1 1 zs)] := by
  refine con Tryz.func128 rfl (by kernel_rfl) (by kernel_rfl) fun π Q h hQ => ?_
  cbv
  refine h.rem' (by (simp only [inR, cmpP, loOk, hiOk, Int.ofNat_eq_natCast, Int.negSucc_eq, IntKind.bits, Int.toNat_natCast, ge_iff_le, gt_iff_lt, ne_eq, wl_len, hl_len, natCast_fold, not_true_eq_false, not_false_eq_true] at * <;> omega)) (by omega) fun c1 hc1 => ?_
  cbv
  refine h.quo' (by (simp only [inR, cmpP, loOk, hiOk, Int.ofNat_eq_natCast, Int.negSucc_eq, IntKind.bits, Int.toNat_natCast, ge_iff_le, gt_iff_lt, ne_eq, wl_len, hl_len, natCast_fold, not_true_eq_false, not_false_eq_true] at * <;> omega)) (by omega) (by (simp only [inR, cmpP, loOk, hiOk, Int.ofNat_eq_natCast, Int.negSucc_eq, IntKind.bits, Int.toNat_natCast, ge_iff_le, gt_iff_lt, ne_eq, wl_len, hl_len, natCast_fold, not_true_eq_false, not_false_eq_true] at * <;> omega)) fun c2 hc2 => ?_
  cbv
  refine h.rem' (by (simp only [inR, cmpP, loOk, hiOk, Int.ofNat_eq_natCast, Int.negSucc_eq, IntKind.bits, Int.toNat_natCast, ge_iff_le, gt_iff_lt, ne_eq, wl_len, hl_len, natCast_fold, not_true_eq_false, not_false_eq_true] at * <;> omega)) (by omega) fun c3 hc3 => ?_
  cbv
  refine h.quo' (by (simp only [inR, cmpP, loOk, hiOk, Int.ofNat_eq_natCast, Int.negSucc_eq, IntKind.bits, Int.toNat_natCast, ge_iff_le, gt_iff_lt, ne_eq, wl_len, hl_len, natCast_fold, not_true_eq_false, not_false_eq_true] at * <;> omega)) (by omega) (by (simp only [inR, cmpP, loOk, hiOk, Int.ofNat_eq_natCast, Int.negSucc_eq, IntKind.bits, Int.toNat_natCast, ge_iff_le, gt_iff_lt, ne_eq, wl_len, hl_len, natCast_fold, not_true_eq_false, not_false_eq_true] at * <;> omega)) fun c4 hc4 => ?_
  cbv
  refine h.quo' (by (simp only [inR, cmpP, loOk, hiOk, Int.ofNat_eq_natCast, Int.negSucc_eq, IntKind.bits, Int.toNat_natCast, ge_iff_le, gt_iff_lt, ne_eq, wl_len, hl_len, natCast_fold, not_true_eq_false, not_false_eq_true] at * <;> omega)) (by omega) (by (simp only [inR, cmpP, loOk, hiOk, Int.ofNat_eq_natCast, Int.negSucc_eq, IntKind.bits, Int.toNat_natCast, ge_iff_le, gt_iff_lt, ne_eq, wl_len, hl_len, natCast_fold, not_true_eq_false, not_false_eq_true] at * <;> omega)) fun c5 hc5 => ?_
  cbv
  refine rtrim_s h (ws := [v % 65536, v / 65536 % 65536, v / 65536 / 65536]) ?_ ?_ (by simp) fun us hu => ?_
  · have e1 : c1 = ((v % 65536 : Nat) : Int) := by (simp only [inR, cmpP, loOk, hiOk, Int.ofNat_eq_natCast, Int.negSucc_eq, IntKind.bits, Int.toNat_natCast, ge_iff_le, gt_iff_lt, ne_eq, wl_len, hl_len, natCast_fold, not_true_eq_false, not_false_eq_true] at * <;> omega)
    have e2 : c3 = ((v / 65536 % 65536 : Nat) : Int) := by (simp only [inR, cmpP, loOk, hiOk, Int.ofNat_eq_natCast, Int.negSucc_eq, IntKind.bits, Int.toNat_natCast, ge_iff_le, gt_iff_lt, ne_eq, wl_len, hl_len, natCast_fold, not_true_eq_false, not_false_eq_true] at * <;> omega)
    have e3 : c5 = ((v / 65536 / 65536 : Nat) : Int) := by (simp only [inR, cmpP, loOk, hiOk, Int.ofNat_eq_natCast, Int.negSucc_eq, IntKind.bits, Int.toNat_natCast, ge_iff_le, gt_iff_lt, ne_eq, wl_len, hl_len, natCast_fold, not_true_eq_false, not_false_eq_true] at * <;> omega)
    rw [e1, e2, e3]; rfl
  · refine Ok.of ?_ (Ok.of ?_ (Ok.of ?_ Ok.nil)) <;> rw [BH_eq] <;> omega
  · have : val BH [v % 65536, v / 65536 % 65536, v / 65536 / 65536] = v := by simp only [val, BH_eq]; omega
    rw [this, ← hz] at hu
    rw [hu]
    cbv
    exact hQ
theorem back_s {π : Pi} (h : Good TT π) {K : List DV → Prop} {vz : Int} (v : Nat) (hv : vz = (v : Int)) (hv2 : v < 281474976710656) (hk : ∀ zs, zs = hl (dg BH v) → K [.one (.sl 1 1 zs)]) : π.call 128 [.one (.sc (.int .i64 vz))] K :=
  h.call' _ (back_c hv hv2 rfl) (hk _ rfl)
end Go.Proofs.YtpmlocilhhjifaaGreat.Eng
