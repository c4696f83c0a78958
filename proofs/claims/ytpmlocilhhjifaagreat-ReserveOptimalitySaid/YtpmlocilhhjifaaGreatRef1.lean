/- The reference of chapter 1: trim, at, halves, of. -/
import Derived.Test.YtpmlocilhhjifaaGreatWhole6
set_option maxRecDepth 100000
set_option linter.unusedSimpArgs false
set_option linter.unusedVariables false
set_option pp.maxSteps 200
namespace Go.Proofs.YtpmlocilhhjifaaGreat.Eng
open Go.RowKit
theorem can_of_ge {B : Nat} {o : List Nat} (ho : Ok B o) (h : o = [] ∨ B ^ (o.length - 1) ≤ val B o) : Can o := by
  intro hl
  rcases h with rfl | h
  · simp at hl
  · obtain ⟨r, rfl⟩ := List.getLast?_eq_some_iff.1 hl
    rw [val_snoc] at h
    have := val_lt ho.left
    simp at h
    omega
theorem BW_BH : BW = BH * BH := by decide
theorem BW_pow (j : Nat) : BW ^ j = BH ^ (2 * j) := by rw [BW_BH, ← Nat.pow_two, ← Nat.pow_mul]
def h2 (ws : List Nat) : List Nat := ws.flatMap fun w => [w % 65536, w / 65536]
theorem h2_len (ws : List Nat) : (h2 ws).length = 2 * ws.length := by
  induction ws with
  | nil => rfl
  | cons w r ih => simp only [h2, List.flatMap_cons] at ih ⊢; rw [List.length_append, ih]; simp; omega
theorem h2_app (a b : List Nat) : h2 (a ++ b) = h2 a ++ h2 b := by simp [h2]
theorem h2_ok {ws : List Nat} (h : Ok BW ws) : Ok BH (h2 ws) := fun y hy => by
  simp only [h2, List.mem_flatMap] at hy
  obtain ⟨w, hw, hy⟩ := hy
  have := h w hw
  rw [BW_eq] at this
  rw [BH_eq]
  simp at hy
  omega
theorem h2_val : ∀ (ws : List Nat), val BH (h2 ws) = val BW ws
  | [] => rfl
  | w :: r => by
    have ih := h2_val r
    simp only [h2, List.flatMap_cons] at ih ⊢
    show val BH (w % 65536 :: w / 65536 :: r.flatMap fun w => [w % 65536, w / 65536]) = _
    simp only [val, ih]
    rw [BW_BH, BH_eq]
    omega
theorem rtrim_c {t : Nat} {ws : List Nat} {xs ys : List (List D)} (ho : Ok BH ws) (hl' : ws.length ≤ 10000000) (hx : xs = hl ws) (hy : ys = hl (dg BH (val BH ws))) : TT 125 [.one (.sl t 1 xs)] [.one (.sl t 1 ys)] := by
  refine con Tryz.func125 rfl (by kernel_rfl) (by kernel_rfl) fun π Q h hQ => ?_
  have hlen : xs.length = ws.length := by rw [hx, hl_len]
  cbv
  (refine Good.len' ‹_› ?_; intro _ _; cbv)
  rename_i n0 hn0
  refine h.loop' (Int × Nat) (fun p => p.1 = (p.2 : Int) ∧ p.2 ≤ ws.length ∧ val BH (ws.take p.2) = val BH ws) (fun p => ⟨[(0, vs t xs), (3, vi .i64 p.1)], []⟩) (fun p => p.2) (n0, ws.length) ⟨by (simp only [inR, cmpP, loOk, hiOk, Int.ofNat_eq_natCast, Int.negSucc_eq, IntKind.bits, Int.toNat_natCast, ge_iff_le, gt_iff_lt, ne_eq, wl_len, hl_len, natCast_fold, not_true_eq_false, not_false_eq_true] at * <;> omega), Nat.le_refl _, by simp⟩ (by (refine Wk.of [] rfl ?_ ?_; (· (repeat (first | exact trivial | (refine And.intro ?_ ?_; (· first | exact trivial | exact Or.inl ⟨_, rfl, rfl⟩ | exact ⟨_, rfl, rfl⟩ | exact Or.inr ⟨rfl, rfl, by decide⟩))))); (· (repeat (first | exact trivial | (refine And.intro ?_ ?_; (· first | exact trivial | exact Or.inl rfl | rfl | exact Or.inr ⟨_, _, _, _, rfl, rfl, rfl, renNo rfl⟩ | exact ⟨ne_no rfl, Or.inl ⟨_, rfl, rfl⟩⟩ | exact ⟨ne_no rfl, Or.inr ⟨rfl, _, rfl⟩⟩ | exact ⟨_, rfl, rfl, ne_no rfl⟩))))))) ?_
  rintro ⟨nz, n⟩ R ⟨hnz, hn, hv⟩ hR
  simp only at hnz hn hv
  have ht : (ws.take n).length = n := len_take hn
  have fin : Can (ws.take n) → ys = xs.take n := fun hc => by rw [hy, hx, hl_take, ← hv, dg_of BH2 (ho.take _) hc]
  cbv
  have fin2 : Can (ws.take n) → π.sli xs none (some nz) (fun zs => Q [.one (.sl t 1 zs)]) := fun hc => by
    refine h.sli' 0 n rfl hnz (by omega) (by omega) fun zs hz => ?_
    rw [hz, List.drop_zero, ← fin hc]
    exact hQ
  refine h.dec rfl (fun hp => ?_) (fun hp => ?_)
  · obtain ⟨k, hk⟩ : ∃ k, n = k + 1 := ⟨n - 1, by (simp only [inR, cmpP, loOk, hiOk, Int.ofNat_eq_natCast, Int.negSucc_eq, IntKind.bits, Int.toNat_natCast, ge_iff_le, gt_iff_lt, ne_eq, wl_len, hl_len, natCast_fold, not_true_eq_false, not_false_eq_true] at * <;> omega)⟩
    obtain ⟨x, hgx⟩ := lt_get (by omega : k < ws.length)
    cbv
    (refine Good.sub' ‹_› ?_ ?_; (· (simp only [inR, cmpP, loOk, hiOk, Int.ofNat_eq_natCast, Int.negSucc_eq, IntKind.bits, Int.toNat_natCast, ge_iff_le, gt_iff_lt, ne_eq, wl_len, hl_len, natCast_fold, not_true_eq_false, not_false_eq_true] at * <;> omega)); intro _ _; cbv)
    refine h.get' k _ (by (simp only [inR, cmpP, loOk, hiOk, Int.ofNat_eq_natCast, Int.negSucc_eq, IntKind.bits, Int.toNat_natCast, ge_iff_le, gt_iff_lt, ne_eq, wl_len, hl_len, natCast_fold, not_true_eq_false, not_false_eq_true] at * <;> omega)) (by rw [hx]; exact hl_get hgx) ?_
    cbv
    refine h.dec rfl (fun hp2 => ?_) (fun hp2 => ?_)
    · cbv
      (refine Good.sub' ‹_› ?_ ?_; (· (simp only [inR, cmpP, loOk, hiOk, Int.ofNat_eq_natCast, Int.negSucc_eq, IntKind.bits, Int.toNat_natCast, ge_iff_le, gt_iff_lt, ne_eq, wl_len, hl_len, natCast_fold, not_true_eq_false, not_false_eq_true] at * <;> omega)); intro _ _; cbv)
      rename_i c1 hc1
      refine hR _ (c1, k) ⟨by (simp only [inR, cmpP, loOk, hiOk, Int.ofNat_eq_natCast, Int.negSucc_eq, IntKind.bits, Int.toNat_natCast, ge_iff_le, gt_iff_lt, ne_eq, wl_len, hl_len, natCast_fold, not_true_eq_false, not_false_eq_true] at * <;> omega), by omega, ?_⟩ (by simp only; omega) (by (refine Wk.of [] rfl ?_ ?_; (· (repeat (first | exact trivial | (refine And.intro ?_ ?_; (· first | exact trivial | exact Or.inl ⟨_, rfl, rfl⟩ | exact ⟨_, rfl, rfl⟩ | exact Or.inr ⟨rfl, rfl, by decide⟩))))); (· (repeat (first | exact trivial | (refine And.intro ?_ ?_; (· first | exact trivial | exact Or.inl rfl | rfl | exact Or.inr ⟨_, _, _, _, rfl, rfl, rfl, renNo rfl⟩ | exact ⟨ne_no rfl, Or.inl ⟨_, rfl, rfl⟩⟩ | exact ⟨ne_no rfl, Or.inr ⟨rfl, _, rfl⟩⟩ | exact ⟨_, rfl, rfl, ne_no rfl⟩)))))))
      have h0 : x = 0 := by (simp only [inR, cmpP, loOk, hiOk, Int.ofNat_eq_natCast, Int.negSucc_eq, IntKind.bits, Int.toNat_natCast, ge_iff_le, gt_iff_lt, ne_eq, wl_len, hl_len, natCast_fold, not_true_eq_false, not_false_eq_true] at * <;> omega)
      have := val_take_succ BH hgx
      rw [← hk, h0] at this
      show val BH (ws.take k) = _
      omega
    · cbv
      refine fin2 fun hc => ?_
      rw [hk, take_succ_get hgx] at hc
      simp at hc
      (simp only [inR, cmpP, loOk, hiOk, Int.ofNat_eq_natCast, Int.negSucc_eq, IntKind.bits, Int.toNat_natCast, ge_iff_le, gt_iff_lt, ne_eq, wl_len, hl_len, natCast_fold, not_true_eq_false, not_false_eq_true] at * <;> omega)
  · cbv
    refine fin2 ?_
    have : n = 0 := by (simp only [inR, cmpP, loOk, hiOk, Int.ofNat_eq_natCast, Int.negSucc_eq, IntKind.bits, Int.toNat_natCast, ge_iff_le, gt_iff_lt, ne_eq, wl_len, hl_len, natCast_fold, not_true_eq_false, not_false_eq_true] at * <;> omega)
    rw [this]
    simp [Can]
theorem rtrim_s {π : Pi} (h : Good TT π) {t : Nat} {ws : List Nat} {xs : List (List D)} {K : List DV → Prop} (hx : xs = hl ws) (ho : Ok BH ws) (hl' : ws.length ≤ 10000000) (hk : ∀ ys, ys = hl (dg BH (val BH ws)) → K [.one (.sl t 1 ys)]) : π.call 125 [.one (.sl t 1 xs)] K :=
  h.call' _ (rtrim_c ho hl' hx rfl) (hk _ rfl)
theorem at_c {t i : Nat} {ws : List Nat} {xs : List (List D)} {iz c : Int} (hx : xs = hl ws) (hi : iz = (i : Int)) (hc : c = (gd ws i : Int)) : TT 127 [.one (.sl t 1 xs), .one (.sc (.int .i64 iz))] [.one (.sc (.int .i64 c))] := by
  refine con Tryz.func127 rfl (by kernel_rfl) (by kernel_rfl) fun π Q h hQ => ?_
  have hlen : xs.length = ws.length := by rw [hx, hl_len]
  cbv
  (refine Good.len' ‹_› ?_; intro _ _; cbv)
  refine h.dec rfl (fun hp => ?_) (fun hp => ?_)
  · obtain ⟨x, hgx⟩ := lt_get (ws := ws) (i := i) (by (simp only [inR, cmpP, loOk, hiOk, Int.ofNat_eq_natCast, Int.negSucc_eq, IntKind.bits, Int.toNat_natCast, ge_iff_le, gt_iff_lt, ne_eq, wl_len, hl_len, natCast_fold, not_true_eq_false, not_false_eq_true] at * <;> omega))
    cbv
    refine h.get' i _ hi (by rw [hx]; exact hl_get hgx) ?_
    cbv
    rw [hc, gd_get hgx] at hQ
    exact hQ
  · cbv
    rw [hc, gd_out (by (simp only [inR, cmpP, loOk, hiOk, Int.ofNat_eq_natCast, Int.negSucc_eq, IntKind.bits, Int.toNat_natCast, ge_iff_le, gt_iff_lt, ne_eq, wl_len, hl_len, natCast_fold, not_true_eq_false, not_false_eq_true] at * <;> omega))] at hQ
    exact hQ
theorem at_s {π : Pi} (h : Good TT π) {t : Nat} {ws : List Nat} {xs : List (List D)} {iz : Int} {K : List DV → Prop} (i : Nat) (hx : xs = hl ws) (hi : iz = (i : Int)) (hk : ∀ c, c = (gd ws i : Int) → K [.one (.sc (.int .i64 c))]) : π.call 127 [.one (.sl t 1 xs), .one (.sc (.int .i64 iz))] K :=
  h.call' _ (at_c hx hi rfl) (hk _ rfl)
theorem halves_c {t : Nat} {ws : List Nat} {xs ys : List (List D)} (ho : Ok BW ws) (hl' : ws.length ≤ 1000000) (hx : xs = wl ws) (hy : ys = hl (dg BH (val BW ws))) : TT 104 [.one (.sl t 1 xs)] [.one (.sl 1 1 ys)] := by
  refine con Tryz.func104 rfl (by kernel_rfl) (by kernel_rfl) fun π Q h hQ => ?_
  have hlen : xs.length = ws.length := by rw [hx, wl_len]
  cbv
  refine h.loop' (Int × List (List D) × Nat) (fun p => p.1 = (p.2.2 : Int) ∧ p.2.2 ≤ ws.length ∧ p.2.1 = hl (h2 (ws.take p.2.2))) (fun p => ⟨[(0, vs t xs), (3, .ow 1000), (4, vi .i64 p.1)], [(1000, .ar 3 1 p.2.1)]⟩) (fun p => ws.length - p.2.2) (0, [], 0) ⟨rfl, Nat.zero_le _, rfl⟩ (by (refine Wk.of [(1000, none)] rfl ?_ ?_; (· (repeat (first | exact trivial | (refine And.intro ?_ ?_; (· first | exact trivial | exact Or.inl ⟨_, rfl, rfl⟩ | exact ⟨_, rfl, rfl⟩ | exact Or.inr ⟨rfl, rfl, by decide⟩))))); (· (repeat (first | exact trivial | (refine And.intro ?_ ?_; (· first | exact trivial | exact Or.inl rfl | rfl | exact Or.inr ⟨_, _, _, _, rfl, rfl, rfl, renNo rfl⟩ | exact ⟨ne_no rfl, Or.inl ⟨_, rfl, rfl⟩⟩ | exact ⟨ne_no rfl, Or.inr ⟨rfl, _, rfl⟩⟩ | exact ⟨_, rfl, rfl, ne_no rfl⟩))))))) ?_
  rintro ⟨iz, os, i⟩ R ⟨hiz, hi, hos⟩ hR
  simp only at hiz hi hos
  have hlo : os.length = 2 * i := by rw [hos, hl_len, h2_len, len_take hi]
  cbv
  (refine Good.len' ‹_› ?_; intro _ _; cbv)
  refine h.dec rfl (fun hp => ?_) (fun hp => ?_)
  · obtain ⟨x, hgx⟩ := lt_get (ws := ws) (i := i) (by (simp only [inR, cmpP, loOk, hiOk, Int.ofNat_eq_natCast, Int.negSucc_eq, IntKind.bits, Int.toNat_natCast, ge_iff_le, gt_iff_lt, ne_eq, wl_len, hl_len, natCast_fold, not_true_eq_false, not_false_eq_true] at * <;> omega))
    have hx1 := ho.get hgx
    rw [BW_eq] at hx1
    cbv
    refine h.get' i _ hiz (by rw [hx]; exact wl_get hgx) ?_
    cbv
    refine h.rem' (by (simp only [inR, cmpP, loOk, hiOk, Int.ofNat_eq_natCast, Int.negSucc_eq, IntKind.bits, Int.toNat_natCast, ge_iff_le, gt_iff_lt, ne_eq, wl_len, hl_len, natCast_fold, not_true_eq_false, not_false_eq_true] at * <;> omega)) (by omega) fun c1 hc1 => ?_
    cbv
    (refine Good.convi ‹_› ?_ ?_; (· (simp only [inR, cmpP, loOk, hiOk, Int.ofNat_eq_natCast, Int.negSucc_eq, IntKind.bits, Int.toNat_natCast, ge_iff_le, gt_iff_lt, ne_eq, wl_len, hl_len, natCast_fold, not_true_eq_false, not_false_eq_true] at * <;> omega)); cbv)
    refine h.get' i _ hiz (by rw [hx]; exact wl_get hgx) ?_
    cbv
    refine h.quo' (by (simp only [inR, cmpP, loOk, hiOk, Int.ofNat_eq_natCast, Int.negSucc_eq, IntKind.bits, Int.toNat_natCast, ge_iff_le, gt_iff_lt, ne_eq, wl_len, hl_len, natCast_fold, not_true_eq_false, not_false_eq_true] at * <;> omega)) (by omega) (by (simp only [inR, cmpP, loOk, hiOk, Int.ofNat_eq_natCast, Int.negSucc_eq, IntKind.bits, Int.toNat_natCast, ge_iff_le, gt_iff_lt, ne_eq, wl_len, hl_len, natCast_fold, not_true_eq_false, not_false_eq_true] at * <;> omega)) fun c2 hc2 => ?_
    cbv
    (refine Good.convi ‹_› ?_ ?_; (· (simp only [inR, cmpP, loOk, hiOk, Int.ofNat_eq_natCast, Int.negSucc_eq, IntKind.bits, Int.toNat_natCast, ge_iff_le, gt_iff_lt, ne_eq, wl_len, hl_len, natCast_fold, not_true_eq_false, not_false_eq_true] at * <;> omega)); cbv)
    refine h.app' (by decide) (fun y hy => ?_) (by simp [maxLen]; omega) (by simp; omega) fun zs hzs => ?_
    · simp at hy; rcases hy with rfl | rfl <;> rfl
    cbv
    (refine Good.chk' ‹_› rfl ?_; cbv; refine Good.add' ‹_› ?_ ?_; (· (simp only [inR, cmpP, loOk, hiOk, Int.ofNat_eq_natCast, Int.negSucc_eq, IntKind.bits, Int.toNat_natCast, ge_iff_le, gt_iff_lt, ne_eq, wl_len, hl_len, natCast_fold, not_true_eq_false, not_false_eq_true] at * <;> omega)); intro _ _; cbv)
    rename_i i1 hi1
    refine hR _ (i1, zs, i + 1) ⟨by (simp only [inR, cmpP, loOk, hiOk, Int.ofNat_eq_natCast, Int.negSucc_eq, IntKind.bits, Int.toNat_natCast, ge_iff_le, gt_iff_lt, ne_eq, wl_len, hl_len, natCast_fold, not_true_eq_false, not_false_eq_true] at * <;> omega), by (simp only [inR, cmpP, loOk, hiOk, Int.ofNat_eq_natCast, Int.negSucc_eq, IntKind.bits, Int.toNat_natCast, ge_iff_le, gt_iff_lt, ne_eq, wl_len, hl_len, natCast_fold, not_true_eq_false, not_false_eq_true] at * <;> omega), ?_⟩ (by simp only; (simp only [inR, cmpP, loOk, hiOk, Int.ofNat_eq_natCast, Int.negSucc_eq, IntKind.bits, Int.toNat_natCast, ge_iff_le, gt_iff_lt, ne_eq, wl_len, hl_len, natCast_fold, not_true_eq_false, not_false_eq_true] at * <;> omega)) (by (refine Wk.of [(1000, some 25)] rfl ?_ ?_; (· (repeat (first | exact trivial | (refine And.intro ?_ ?_; (· first | exact trivial | exact Or.inl ⟨_, rfl, rfl⟩ | exact ⟨_, rfl, rfl⟩ | exact Or.inr ⟨rfl, rfl, by decide⟩))))); (· (repeat (first | exact trivial | (refine And.intro ?_ ?_; (· first | exact trivial | exact Or.inl rfl | rfl | exact Or.inr ⟨_, _, _, _, rfl, rfl, rfl, renNo rfl⟩ | exact ⟨ne_no rfl, Or.inl ⟨_, rfl, rfl⟩⟩ | exact ⟨ne_no rfl, Or.inr ⟨rfl, _, rfl⟩⟩ | exact ⟨_, rfl, rfl, ne_no rfl⟩)))))))
    show zs = _
    rw [hzs, hos, take_succ_get hgx, h2_app, ← hl_app]
    have e1 : c1 = ((x % 65536 : Nat) : Int) := by (simp only [inR, cmpP, loOk, hiOk, Int.ofNat_eq_natCast, Int.negSucc_eq, IntKind.bits, Int.toNat_natCast, ge_iff_le, gt_iff_lt, ne_eq, wl_len, hl_len, natCast_fold, not_true_eq_false, not_false_eq_true] at * <;> omega)
    have e2 : c2 = ((x / 65536 : Nat) : Int) := by (simp only [inR, cmpP, loOk, hiOk, Int.ofNat_eq_natCast, Int.negSucc_eq, IntKind.bits, Int.toNat_natCast, ge_iff_le, gt_iff_lt, ne_eq, wl_len, hl_len, natCast_fold, not_true_eq_false, not_false_eq_true] at * <;> omega)
    rw [e1, e2]; rfl
  · have hi2 : i = ws.length := by (simp only [inR, cmpP, loOk, hiOk, Int.ofNat_eq_natCast, Int.negSucc_eq, IntKind.bits, Int.toNat_natCast, ge_iff_le, gt_iff_lt, ne_eq, wl_len, hl_len, natCast_fold, not_true_eq_false, not_false_eq_true] at * <;> omega)
    cbv
    rw [hi2, List.take_length] at hos
    refine rtrim_s h hos (h2_ok ho) (by rw [h2_len]; omega) fun ys' hy' => ?_
    cbv
    rw [h2_val, ← hy] at hy'
    rw [hy']
    exact hQ
theorem halves_s {π : Pi} (h : Good TT π) {t : Nat} {ws : List Nat} {xs : List (List D)} {K : List DV → Prop} (hx : xs = wl ws) (ho : Ok BW ws) (hl' : ws.length ≤ 1000000) (hk : ∀ ys, ys = hl (dg BH (val BW ws)) → K [.one (.sl 1 1 ys)]) : π.call 104 [.one (.sl t 1 xs)] K :=
  h.call' _ (halves_c ho hl' hx rfl) (hk _ rfl)
end Go.Proofs.YtpmlocilhhjifaaGreat.Eng
