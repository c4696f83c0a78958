/- Package whole: small. -/
import Derived.Test.YtpmlocilhhjifaaGreatWhole3
set_option maxRecDepth 100000
set_option linter.unusedSimpArgs false
set_option linter.unusedVariables false
set_option pp.maxSteps 200
namespace Go.Proofs.YtpmlocilhhjifaaGreat.Eng
open Go.RowKit
theorem drop_set {q : List Nat} {i x : Nat} (h : i < q.length) : (q.set i x).drop i = x :: q.drop (i + 1) := by
  rw [List.drop_eq_getElem_cons (by simpa using h), List.drop_set]
  simp
/-- What small's loop holds. -/
structure SmallI (a : List Nat) (d : Nat) (q : List Nat) (k r : Nat) : Prop where
  ok : Ok BW q
  len : q.length = a.length
  hk : k ≤ a.length
  hr : r < d
  v : val BW (a.drop (a.length - k)) = d * val BW (q.drop (a.length - k)) + r
theorem SmallI.step {a q : List Nat} {d k r x at' : Nat} (h : SmallI a d q k r) (hk : at' + 1 = a.length - k) (hx : a[at']? = some x) (ha : Ok BW a) :
    SmallI a d (q.set at' ((r * BW + x) / d)) (k + 1) ((r * BW + x) % d) ∧ (r * BW + x) / d < BW := by
  have hx1 := ha.get hx
  have hr := h.hr
  have hkk := h.hk
  have hat : at' < a.length := by omega
  have hlt : (r * BW + x) / d < BW := by
    refine Nat.div_lt_of_lt_mul ?_
    have : (r + 1) * BW ≤ d * BW := Nat.mul_le_mul_right _ hr
    rw [Nat.add_mul] at this
    omega
  refine ⟨⟨h.ok.set hlt, by rw [List.length_set]; exact h.len, by omega, Nat.mod_lt _ (by omega), ?_⟩, hlt⟩
  have e : a.length - (k + 1) = at' := by omega
  have hv := h.v
  rw [← hk] at hv
  rw [e, val_drop BW hx, drop_set (by rw [h.len]; exact hat), val, hv]
  have e2 := Nat.div_add_mod (r * BW + x) d
  generalize (r * BW + x) / d = Q at *
  generalize (r * BW + x) % d = M at *
  generalize val BW (q.drop (at' + 1)) = V at *
  clear hlt hx1 ha hv
  generalize BW = W at *
  have e3 : W * (d * V + r) = d * (W * V) + r * W := by rw [Nat.mul_add, Nat.mul_left_comm, Nat.mul_comm W r]
  rw [e3, Nat.mul_add]
  omega
theorem small_c {t : Nat} {a : List Nat} {d : Nat} {n m : Int} {xs ys : List (List D)} (ha : Ok BW a) (hla : a.length ≤ 1000000) (hx : xs = wl a) (hn : n = d) (hd : 0 < d) (hdB : d < BW) (hy : ys = wl (dg BW (val BW a / d))) (hm : m = ((val BW a % d : Nat) : Int)) :
    TT 136 [.one (.sl t 1 xs), .one (.sc (.int .u64 n))] [.one (.sl 1 1 ys), .one (.sc (.int .u64 m))] := by
  refine con Tryz.func136 rfl (by kernel_rfl) (by kernel_rfl) fun π Q h hQ => ?_
  have hlx : xs.length = a.length := by rw [hx, wl_len]
  rw [BW_eq] at hdB
  cbv
  (refine Good.len' ‹_› ?_; intro _ _; cbv)
  refine h.mks' a.length (by (simp only [inR, cmpP, loOk, hiOk, Int.ofNat_eq_natCast, Int.negSucc_eq, IntKind.bits, Int.toNat_natCast, ge_iff_le, gt_iff_lt, ne_eq, wl_len, hl_len, natCast_fold, not_true_eq_false, not_false_eq_true] at * <;> omega)) (by (simp only [inR, cmpP, loOk, hiOk, Int.ofNat_eq_natCast, Int.negSucc_eq, IntKind.bits, Int.toNat_natCast, ge_iff_le, gt_iff_lt, ne_eq, wl_len, hl_len, natCast_fold, not_true_eq_false, not_false_eq_true] at * <;> omega)) (by omega) (by simp [maxLen]; omega) (by simp) fun os0 hos0 => ?_
  have hos0 : os0 = wl (List.replicate a.length 0) := by rw [hos0, ← wl_rep]; rfl
  cbv
  (refine Good.len' ‹_› ?_; intro _ _; cbv)
  rename_i la hla'
  refine h.loop' (List (List D) × Int × Int × List Nat × Nat × Nat) (fun p => p.1 = wl p.2.2.2.1 ∧ p.2.1 = (p.2.2.2.2.1 : Int) ∧ p.2.2.1 = (p.2.2.2.2.2 : Int) ∧ SmallI a d p.2.2.2.1 p.2.2.2.2.1 p.2.2.2.2.2)
    (fun p => ⟨[(0, vs t xs), (1, vi .u64 n), (4, .ow 10), (5, vi .u64 p.2.2.1), (12, vi .i64 la), (13, vi .i64 p.2.1)], [(10, .ar 56 1 p.1)]⟩) (fun p => a.length - p.2.2.2.2.1)
    (os0, 0, 0, List.replicate a.length 0, 0, 0) ⟨hos0, rfl, rfl, ⟨Ok.rep BW0, by simp, Nat.zero_le _, hd, ?_⟩⟩ (by (refine Wk.of [(10, some 10)] rfl ?_ ?_; (· (repeat (first | exact trivial | (refine And.intro ?_ ?_; (· first | exact trivial | exact Or.inl ⟨_, rfl, rfl⟩ | exact ⟨_, rfl, rfl⟩ | exact Or.inr ⟨rfl, rfl, by decide⟩))))); (· (repeat (first | exact trivial | (refine And.intro ?_ ?_; (· first | exact trivial | exact Or.inl rfl | rfl | exact Or.inr ⟨_, _, _, _, rfl, rfl, rfl, renNo rfl⟩ | exact ⟨ne_no rfl, Or.inl ⟨_, rfl, rfl⟩⟩ | exact ⟨ne_no rfl, Or.inr ⟨rfl, _, rfl⟩⟩ | exact ⟨_, rfl, rfl, ne_no rfl⟩))))))) ?_
  · simp only [Nat.sub_zero, List.drop_length]
    rw [List.drop_eq_nil_of_le (by simp)]
    simp [val]
  rintro ⟨os, kz, rz, q, k, r⟩ R ⟨hos, hkz, hrz, hm'⟩ hR
  simp only at hos hkz hrz hm'
  have hlo : q.length = a.length := hm'.len
  have hlos : os.length = q.length := by rw [hos, wl_len]
  have hk := hm'.hk
  have hr := hm'.hr
  cbv
  refine h.dec rfl (fun hp => ?_) (fun hp => ?_)
  · have hka : k < a.length := by (simp only [inR, cmpP, loOk, hiOk, Int.ofNat_eq_natCast, Int.negSucc_eq, IntKind.bits, Int.toNat_natCast, ge_iff_le, gt_iff_lt, ne_eq, wl_len, hl_len, natCast_fold, not_true_eq_false, not_false_eq_true] at * <;> omega)
    obtain ⟨at', hat⟩ : ∃ at', at' + 1 = a.length - k := ⟨a.length - k - 1, by omega⟩
    obtain ⟨x, hgx⟩ := lt_get (ws := a) (i := at') (by omega)
    obtain ⟨y, hgy⟩ := lt_get (ws := q) (i := at') (by omega)
    have hx1 := ha.get hgx
    obtain ⟨hs, hq⟩ := hm'.step hat hgx ha
    obtain ⟨qd, hqd⟩ : ∃ qd, (r * BW + x) / d = qd := ⟨_, rfl⟩
    obtain ⟨rd, hrd⟩ : ∃ rd, (r * BW + x) % d = rd := ⟨_, rfl⟩
    rw [hqd, hrd] at hs
    rw [hqd] at hq
    rw [BW_eq] at hx1 hq
    cbv
    (refine Good.len' ‹_› ?_; intro _ _; cbv; refine Good.sub' ‹_› ?_ ?_; (· (simp only [inR, cmpP, loOk, hiOk, Int.ofNat_eq_natCast, Int.negSucc_eq, IntKind.bits, Int.toNat_natCast, ge_iff_le, gt_iff_lt, ne_eq, wl_len, hl_len, natCast_fold, not_true_eq_false, not_false_eq_true] at * <;> omega)); intro _ _; cbv; refine Good.sub' ‹_› ?_ ?_; (· (simp only [inR, cmpP, loOk, hiOk, Int.ofNat_eq_natCast, Int.negSucc_eq, IntKind.bits, Int.toNat_natCast, ge_iff_le, gt_iff_lt, ne_eq, wl_len, hl_len, natCast_fold, not_true_eq_false, not_false_eq_true] at * <;> omega)); intro _ _; cbv)
    refine h.shl' 32 (by omega) (by decide) (by (simp only [inR, cmpP, loOk, hiOk, Int.ofNat_eq_natCast, Int.negSucc_eq, IntKind.bits, Int.toNat_natCast, ge_iff_le, gt_iff_lt, ne_eq, wl_len, hl_len, natCast_fold, not_true_eq_false, not_false_eq_true] at * <;> omega)) fun c1 hc1 => ?_
    cbv
    refine h.get' at' _ (by (simp only [inR, cmpP, loOk, hiOk, Int.ofNat_eq_natCast, Int.negSucc_eq, IntKind.bits, Int.toNat_natCast, ge_iff_le, gt_iff_lt, ne_eq, wl_len, hl_len, natCast_fold, not_true_eq_false, not_false_eq_true] at * <;> omega)) (by rw [hx]; exact wl_get hgx) ?_
    cbv
    (refine Good.convi ‹_› ?_ ?_; (· (simp only [inR, cmpP, loOk, hiOk, Int.ofNat_eq_natCast, Int.negSucc_eq, IntKind.bits, Int.toNat_natCast, ge_iff_le, gt_iff_lt, ne_eq, wl_len, hl_len, natCast_fold, not_true_eq_false, not_false_eq_true] at * <;> omega)); cbv; refine Good.add' ‹_› ?_ ?_; (· (simp only [inR, cmpP, loOk, hiOk, Int.ofNat_eq_natCast, Int.negSucc_eq, IntKind.bits, Int.toNat_natCast, ge_iff_le, gt_iff_lt, ne_eq, wl_len, hl_len, natCast_fold, not_true_eq_false, not_false_eq_true] at * <;> omega)); intro _ _; cbv)
    rename_i rr hrr
    have hrr : rr = ((r * BW + x : Nat) : Int) := by rw [BW_eq]; (simp only [inR, cmpP, loOk, hiOk, Int.ofNat_eq_natCast, Int.negSucc_eq, IntKind.bits, Int.toNat_natCast, ge_iff_le, gt_iff_lt, ne_eq, wl_len, hl_len, natCast_fold, not_true_eq_false, not_false_eq_true] at * <;> omega)
    refine h.quo' (by omega) (by (simp only [inR, cmpP, loOk, hiOk, Int.ofNat_eq_natCast, Int.negSucc_eq, IntKind.bits, Int.toNat_natCast, ge_iff_le, gt_iff_lt, ne_eq, wl_len, hl_len, natCast_fold, not_true_eq_false, not_false_eq_true] at * <;> omega)) (by (simp only [inR, cmpP, loOk, hiOk, Int.ofNat_eq_natCast, Int.negSucc_eq, IntKind.bits, Int.toNat_natCast, ge_iff_le, gt_iff_lt, ne_eq, wl_len, hl_len, natCast_fold, not_true_eq_false, not_false_eq_true] at * <;> omega)) fun c2 hc2 => ?_
    have hc2 : c2 = (qd : Int) := by rw [hc2, hrr, hn, ← hqd, Int.natCast_ediv]
    cbv
    (refine Good.convi ‹_› ?_ ?_; (· (simp only [inR, cmpP, loOk, hiOk, Int.ofNat_eq_natCast, Int.negSucc_eq, IntKind.bits, Int.toNat_natCast, ge_iff_le, gt_iff_lt, ne_eq, wl_len, hl_len, natCast_fold, not_true_eq_false, not_false_eq_true] at * <;> omega)); cbv)
    refine h.rem' (by (simp only [inR, cmpP, loOk, hiOk, Int.ofNat_eq_natCast, Int.negSucc_eq, IntKind.bits, Int.toNat_natCast, ge_iff_le, gt_iff_lt, ne_eq, wl_len, hl_len, natCast_fold, not_true_eq_false, not_false_eq_true] at * <;> omega)) (by (simp only [inR, cmpP, loOk, hiOk, Int.ofNat_eq_natCast, Int.negSucc_eq, IntKind.bits, Int.toNat_natCast, ge_iff_le, gt_iff_lt, ne_eq, wl_len, hl_len, natCast_fold, not_true_eq_false, not_false_eq_true] at * <;> omega)) fun c3 hc3 => ?_
    have hc3 : c3 = (rd : Int) := by rw [hc3, hrr, hn, ← hrd, Int.natCast_emod]
    cbv
    refine h.inb' at' (by (simp only [inR, cmpP, loOk, hiOk, Int.ofNat_eq_natCast, Int.negSucc_eq, IntKind.bits, Int.toNat_natCast, ge_iff_le, gt_iff_lt, ne_eq, wl_len, hl_len, natCast_fold, not_true_eq_false, not_false_eq_true] at * <;> omega)) (by omega) fun j2 hj2 => ?_
    cbv
    refine h.put' _ _ (by rw [hj2, hos]; exact wl_get hgy) rfl (by rfl) fun os2 hos2 => ?_
    cbv
    (refine Good.chk' ‹_› rfl ?_; cbv; refine Good.add' ‹_› ?_ ?_; (· (simp only [inR, cmpP, loOk, hiOk, Int.ofNat_eq_natCast, Int.negSucc_eq, IntKind.bits, Int.toNat_natCast, ge_iff_le, gt_iff_lt, ne_eq, wl_len, hl_len, natCast_fold, not_true_eq_false, not_false_eq_true] at * <;> omega)); intro _ _; cbv)
    rename_i k1 hk1
    refine hR _ (os2, k1, c3, q.set at' qd, k + 1, rd) ⟨?_, by (simp only [inR, cmpP, loOk, hiOk, Int.ofNat_eq_natCast, Int.negSucc_eq, IntKind.bits, Int.toNat_natCast, ge_iff_le, gt_iff_lt, ne_eq, wl_len, hl_len, natCast_fold, not_true_eq_false, not_false_eq_true] at * <;> omega), hc3, hs⟩ (by simp only; omega) (by (refine Wk.of [(10, some 10)] rfl ?_ ?_; (· (repeat (first | exact trivial | (refine And.intro ?_ ?_; (· first | exact trivial | exact Or.inl ⟨_, rfl, rfl⟩ | exact ⟨_, rfl, rfl⟩ | exact Or.inr ⟨rfl, rfl, by decide⟩))))); (· (repeat (first | exact trivial | (refine And.intro ?_ ?_; (· first | exact trivial | exact Or.inl rfl | rfl | exact Or.inr ⟨_, _, _, _, rfl, rfl, rfl, renNo rfl⟩ | exact ⟨ne_no rfl, Or.inl ⟨_, rfl, rfl⟩⟩ | exact ⟨ne_no rfl, Or.inr ⟨rfl, _, rfl⟩⟩ | exact ⟨_, rfl, rfl, ne_no rfl⟩)))))))
    rw [hos2, hj2, hc2, hos, ← wl_set]; rfl
  · have hka : k = a.length := by (simp only [inR, cmpP, loOk, hiOk, Int.ofNat_eq_natCast, Int.negSucc_eq, IntKind.bits, Int.toNat_natCast, ge_iff_le, gt_iff_lt, ne_eq, wl_len, hl_len, natCast_fold, not_true_eq_false, not_false_eq_true] at * <;> omega)
    have hv := hm'.v
    rw [hka, Nat.sub_self, List.drop_zero, List.drop_zero] at hv
    have hd1 : val BW q = val BW a / d := by rw [hv, Nat.mul_add_div hd, Nat.div_eq_of_lt hr, Nat.add_zero]
    have hd2 : r = val BW a % d := by rw [hv, Nat.mul_add_mod, Nat.mod_eq_of_lt hr]
    cbv
    refine trim_s h hos hm'.ok (by omega) fun us hu => ?_
    cbv
    skip
    rw [hu, hd1, ← hy, show rz = m by rw [hm, hrz, hd2]]
    exact hQ
theorem small_s {π : Pi} (h : Good TT π) {K : List DV → Prop} {t : Nat} {a : List Nat} {d : Nat} {n : Int} {xs : List (List D)} (hx : xs = wl a) (ha : Ok BW a) (hla : a.length ≤ 1000000) (hn : n = d) (hd : 0 < d) (hdB : d < BW)
    (hk : ∀ ys m, ys = wl (dg BW (val BW a / d)) → m = ((val BW a % d : Nat) : Int) → K [.one (.sl 1 1 ys), .one (.sc (.int .u64 m))]) : π.call 136 [.one (.sl t 1 xs), .one (.sc (.int .u64 n))] K := h.call' _ (small_c ha hla hx hn hd hdB rfl rfl) (hk _ _ rfl rfl)
end Go.Proofs.YtpmlocilhhjifaaGreat.Eng
