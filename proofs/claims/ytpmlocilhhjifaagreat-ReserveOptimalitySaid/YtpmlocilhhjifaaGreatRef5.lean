/- The reference of chapter 1: div. -/
import Derived.Test.YtpmlocilhhjifaaGreatRef4
set_option maxRecDepth 100000
set_option linter.unusedSimpArgs false
set_option linter.unusedVariables false
set_option pp.maxSteps 200
namespace Go.Proofs.YtpmlocilhhjifaaGreat.Eng
open Go.RowKit
/-- Long division, digit by digit. -/
structure SI (B : Nat) (a : List Nat) (d : Nat) (q : List Nat) (k r : Nat) : Prop where
  ok : Ok B q
  len : q.length = a.length
  hk : k ≤ a.length
  hr : r < d
  v : val B (a.drop (a.length - k)) = d * val B (q.drop (a.length - k)) + r
theorem SI.step {B : Nat} {a q : List Nat} {d k r x at' : Nat} (h : SI B a d q k r) (hk : at' + 1 = a.length - k) (hx : a[at']? = some x) (ha : Ok B a) :
    SI B a d (q.set at' ((r * B + x) / d)) (k + 1) ((r * B + x) % d) ∧ (r * B + x) / d < B := by
  have hx1 := ha.get hx
  have hr := h.hr
  have hkk := h.hk
  have hat : at' < a.length := by omega
  have hlt : (r * B + x) / d < B := by
    refine Nat.div_lt_of_lt_mul ?_
    have : (r + 1) * B ≤ d * B := Nat.mul_le_mul_right _ hr
    rw [Nat.add_mul] at this
    omega
  refine ⟨⟨h.ok.set hlt, by rw [List.length_set]; exact h.len, by omega, Nat.mod_lt _ (by omega), ?_⟩, hlt⟩
  have e : a.length - (k + 1) = at' := by omega
  have hv := h.v
  rw [← hk] at hv
  rw [e, val_drop B hx, drop_set (by rw [h.len]; exact hat), val, hv]
  have e2 := Nat.div_add_mod (r * B + x) d
  have e3 : B * (d * val B (q.drop (at' + 1)) + r) = d * (B * val B (q.drop (at' + 1))) + r * B := by rw [Nat.mul_add, Nat.mul_left_comm, Nat.mul_comm B r]
  rw [e3, Nat.mul_add]
  omega
theorem SI.fin {B : Nat} {a q : List Nat} {d r : Nat} (h : SI B a d q a.length r) (hd : 0 < d) : val B q = val B a / d ∧ r = val B a % d := by
  have hv := h.v
  rw [Nat.sub_self, List.drop_zero, List.drop_zero] at hv
  exact ⟨by rw [hv, Nat.mul_add_div hd, Nat.div_eq_of_lt h.hr, Nat.add_zero], by rw [hv, Nat.mul_add_mod, Nat.mod_eq_of_lt h.hr]⟩
theorem SI.start {B : Nat} (hB : 0 < B) {a : List Nat} {d : Nat} (hd : 0 < d) : SI B a d (List.replicate a.length 0) 0 0 :=
  ⟨Ok.rep hB, by simp, Nat.zero_le _, hd, by rw [Nat.sub_zero, List.drop_length, List.drop_eq_nil_of_le (by simp)]; simp [val]⟩
theorem lt_of_lenB {B : Nat} (hB : 0 < B) {u v : List Nat} (hu : Ok B u) (hv : Can v) (hlt : u.length < v.length) : val B u < val B v := by
  have h1 := val_lt hu
  have h2 := val_ge_of_can hB hv (by rintro rfl; simp at hlt)
  have h3 : B ^ u.length ≤ B ^ (v.length - 1) := Nat.pow_le_pow_right hB (by omega)
  omega
set_option maxHeartbeats 4000000 in
theorem rdiv_c {t t' : Nat} {a b : List Nat} {xs ys qs rs : List (List D)} (ha : Ok BH a) (hb : Ok BH b) (hcb : Can b) (hb0 : 0 < val BH b) (hla : a.length ≤ 400000) (hlb : b.length ≤ 400000) (hx : xs = hl a) (hy : ys = hl b)
    (hq : qs = hl (dg BH (val BH a / val BH b))) (hr : rs = hl (dg BH (val BH a % val BH b))) :
    TT 126 [.one (.sl t 1 xs), .one (.sl t' 1 ys)] [.one (.sl 1 1 qs), .one (.sl 1 1 rs)] := by
  refine con' Tryz.func126 rfl (by kernel_rfl) (by kernel_rfl) fun π Q h hQ => ?_
  have hlx : xs.length = a.length := by rw [hx, hl_len]
  have hly : ys.length = b.length := by rw [hy, hl_len]
  by_cases h3 : a.length ≤ 3
  · by_cases h4 : b.length ≤ 3
    · cbv
      (refine Good.len' ‹_› ?_; intro _ _; cbv; refine Good.yes ‹_› ?_ ?_; (· (simp only [inR, cmpP, loOk, hiOk, Int.ofNat_eq_natCast, Int.negSucc_eq, IntKind.bits, Int.toNat_natCast, ge_iff_le, gt_iff_lt, ne_eq, wl_len, hl_len, natCast_fold, not_true_eq_false, not_false_eq_true] at * <;> omega)); cbv; refine Good.len' ‹_› ?_; intro _ _; cbv; refine Good.yes ‹_› ?_ ?_; (· (simp only [inR, cmpP, loOk, hiOk, Int.ofNat_eq_natCast, Int.negSucc_eq, IntKind.bits, Int.toNat_natCast, ge_iff_le, gt_iff_lt, ne_eq, wl_len, hl_len, natCast_fold, not_true_eq_false, not_false_eq_true] at * <;> omega)); cbv)
      have hv1 : val BH a < 281474976710656 := by
        have h1 := val_lt ha
        have h2 : BH ^ a.length ≤ BH ^ 3 := Nat.pow_le_pow_right BH0 h3
        have h3 : BH ^ 3 = 281474976710656 := by decide
        omega
      have hv2 : val BH b < 281474976710656 := by
        have h1 := val_lt hb
        have h2 : BH ^ b.length ≤ BH ^ 3 := Nat.pow_le_pow_right BH0 h4
        have h3 : BH ^ 3 = 281474976710656 := by decide
        omega
      refine rsmall_s h hx ha (by omega) fun c1 hc1 => ?_
      cbv
      refine rsmall_s h hy hb (by omega) fun c2 hc2 => ?_
      cbv
      refine h.quo' (by (simp only [inR, cmpP, loOk, hiOk, Int.ofNat_eq_natCast, Int.negSucc_eq, IntKind.bits, Int.toNat_natCast, ge_iff_le, gt_iff_lt, ne_eq, wl_len, hl_len, natCast_fold, not_true_eq_false, not_false_eq_true] at * <;> omega)) (by (simp only [inR, cmpP, loOk, hiOk, Int.ofNat_eq_natCast, Int.negSucc_eq, IntKind.bits, Int.toNat_natCast, ge_iff_le, gt_iff_lt, ne_eq, wl_len, hl_len, natCast_fold, not_true_eq_false, not_false_eq_true] at * <;> omega)) (by (simp only [inR, cmpP, loOk, hiOk, Int.ofNat_eq_natCast, Int.negSucc_eq, IntKind.bits, Int.toNat_natCast, ge_iff_le, gt_iff_lt, ne_eq, wl_len, hl_len, natCast_fold, not_true_eq_false, not_false_eq_true] at * <;> omega)) fun c3 hc3 => ?_
      have hc3 : c3 = ((val BH a / val BH b : Nat) : Int) := by rw [hc3, hc1, hc2]; exact (Int.natCast_ediv _ _).symm
      cbv
      refine back_s h _ hc3 (Nat.lt_of_le_of_lt (Nat.div_le_self _ _) hv1) fun us hu => ?_
      rw [← hq] at hu
      rw [hu]
      cbv
      refine rsmall_s h hx ha (by omega) fun c1 hc1 => ?_
      cbv
      refine rsmall_s h hy hb (by omega) fun c2 hc2 => ?_
      cbv
      refine h.rem' (by (simp only [inR, cmpP, loOk, hiOk, Int.ofNat_eq_natCast, Int.negSucc_eq, IntKind.bits, Int.toNat_natCast, ge_iff_le, gt_iff_lt, ne_eq, wl_len, hl_len, natCast_fold, not_true_eq_false, not_false_eq_true] at * <;> omega)) (by (simp only [inR, cmpP, loOk, hiOk, Int.ofNat_eq_natCast, Int.negSucc_eq, IntKind.bits, Int.toNat_natCast, ge_iff_le, gt_iff_lt, ne_eq, wl_len, hl_len, natCast_fold, not_true_eq_false, not_false_eq_true] at * <;> omega)) fun c3 hc3 => ?_
      have hc3 : c3 = ((val BH a % val BH b : Nat) : Int) := by rw [hc3, hc1, hc2]; exact (Int.natCast_emod _ _).symm
      cbv
      refine back_s h _ hc3 (Nat.lt_of_le_of_lt (Nat.mod_le _ _) hv1) fun us hu => ?_
      rw [← hr] at hu
      rw [hu]
      cbv
      exact hQ _ (SubVs.refl _)
    · (cbv
       (refine Good.len' ‹_› ?_; intro _ _; cbv; refine Good.yes ‹_› ?_ ?_; (· (simp only [inR, cmpP, loOk, hiOk, Int.ofNat_eq_natCast, Int.negSucc_eq, IntKind.bits, Int.toNat_natCast, ge_iff_le, gt_iff_lt, ne_eq, wl_len, hl_len, natCast_fold, not_true_eq_false, not_false_eq_true] at * <;> omega)); cbv; refine Good.len' ‹_› ?_; intro _ _; cbv; refine Good.no ‹_› rfl ?_ ?_; (· (simp only [inR, cmpP, loOk, hiOk, Int.ofNat_eq_natCast, Int.negSucc_eq, IntKind.bits, Int.toNat_natCast, ge_iff_le, gt_iff_lt, ne_eq, wl_len, hl_len, natCast_fold, not_true_eq_false, not_false_eq_true] at * <;> omega)); cbv; refine Good.len' ‹_› ?_; intro _ _; cbv)
       refine h.mks' a.length (by (simp only [inR, cmpP, loOk, hiOk, Int.ofNat_eq_natCast, Int.negSucc_eq, IntKind.bits, Int.toNat_natCast, ge_iff_le, gt_iff_lt, ne_eq, wl_len, hl_len, natCast_fold, not_true_eq_false, not_false_eq_true] at * <;> omega)) (by (simp only [inR, cmpP, loOk, hiOk, Int.ofNat_eq_natCast, Int.negSucc_eq, IntKind.bits, Int.toNat_natCast, ge_iff_le, gt_iff_lt, ne_eq, wl_len, hl_len, natCast_fold, not_true_eq_false, not_false_eq_true] at * <;> omega)) (by omega) (by simp [maxLen]; omega) (by simp) fun os0 hos0 => ?_
       have hos0 : os0 = hl (List.replicate a.length 0) := by rw [hos0, ← hl_rep]; rfl
       cbv
       refine h.len' fun nb hnb => ?_
       cbv
       refine h.dec rfl (fun hp => ?_) (fun hp => ?_)
       · have hb1 : b.length = 1 := by (simp only [inR, cmpP, loOk, hiOk, Int.ofNat_eq_natCast, Int.negSucc_eq, IntKind.bits, Int.toNat_natCast, ge_iff_le, gt_iff_lt, ne_eq, wl_len, hl_len, natCast_fold, not_true_eq_false, not_false_eq_true] at * <;> omega)
         obtain ⟨y, rfl⟩ : ∃ y, b = [y] := by
           cases b with
           | nil => simp at hb1
           | cons y r => cases r with
             | nil => exact ⟨y, rfl⟩
             | cons _ _ => simp at hb1
         have hy1 := hb y (by simp)
         rw [val_one] at hb0 hq hr
         rw [BH_eq] at hy1
         have hyg : ys[0]? = some [D.sc (.int .i64 (y : Int))] := by rw [hy]; rfl
         cbv
         (refine Good.len' ‹_› ?_; intro _ _; cbv; refine Good.sub' ‹_› ?_ ?_; (· omega); intro _ _; cbv)
         rename_i n1 hn1 i0 hi0
         refine h.loop' (List (List D) × Int × Int × List Nat × Nat × Nat) (fun p => p.1 = hl p.2.2.2.1 ∧ p.2.1 = (a.length : Int) - 1 - (p.2.2.2.2.1 : Int) ∧ p.2.2.1 = (p.2.2.2.2.2 : Int) ∧ SI BH a y p.2.2.2.1 p.2.2.2.2.1 p.2.2.2.2.2)
           (fun p => ⟨[(0, vs t xs), (1, vs t' ys), (6, .ow 36), (7, vi .i64 p.2.2.1), (8, vi .i64 p.2.1)], [(36, .ar 3 1 p.1)]⟩) (fun p => a.length - p.2.2.2.2.1) (os0, i0, 0, List.replicate a.length 0, 0, 0) ⟨hos0, by simp only; omega, rfl, SI.start BH0 hb0⟩ (by (refine Wk.of [(36, some 36)] rfl ?_ ?_; (· (repeat (first | exact trivial | (refine And.intro ?_ ?_; (· first | exact trivial | exact Or.inl ⟨_, rfl, rfl⟩ | exact ⟨_, rfl, rfl⟩ | exact Or.inr ⟨rfl, rfl, by decide⟩))))); (· (repeat (first | exact trivial | (refine And.intro ?_ ?_; (· first | exact trivial | exact Or.inl rfl | rfl | exact Or.inr ⟨_, _, _, _, rfl, rfl, rfl, renNo rfl⟩ | exact ⟨ne_no rfl, Or.inl ⟨_, rfl, rfl⟩⟩ | exact ⟨ne_no rfl, Or.inr ⟨rfl, _, rfl⟩⟩ | exact ⟨_, rfl, rfl, ne_no rfl⟩))))))) ?_
         rintro ⟨os, iz, rz, q, k, r⟩ R ⟨hos, hiz, hrz, hm'⟩ hR
         simp only at hos hiz hrz hm'
         have hlo : q.length = a.length := hm'.len
         have hlos : os.length = q.length := by rw [hos, hl_len]
         have hk := hm'.hk
         have hrlt := hm'.hr
         cbv
         refine h.dec rfl (fun hp => ?_) (fun hp => ?_)
         · have hka : k < a.length := by omega
           obtain ⟨at', hat⟩ : ∃ at', at' + 1 = a.length - k := ⟨a.length - k - 1, by omega⟩
           have hia : iz = (at' : Int) := by omega
           obtain ⟨x, hgx⟩ := lt_get (ws := a) (i := at') (by omega)
           obtain ⟨z, hgz⟩ := lt_get (ws := q) (i := at') (by omega)
           have hx1 := ha.get hgx
           obtain ⟨hs, hqd'⟩ := hm'.step hat hgx ha
           obtain ⟨qd, hqd⟩ : ∃ qd, (r * BH + x) / y = qd := ⟨_, rfl⟩
           obtain ⟨rd, hrd⟩ : ∃ rd, (r * BH + x) % y = rd := ⟨_, rfl⟩
           rw [hqd, hrd] at hs
           rw [BH_eq] at hx1
           cbv
           (refine Good.mul' ‹_› ?_ ?_; (· omega); intro _ _; cbv)
           refine h.get' at' _ hia (by rw [hx]; exact hl_get hgx) ?_
           cbv
           (refine Good.add' ‹_› ?_ ?_; (· omega); intro _ _; cbv)
           rename_i v0 hv0 v1 hv1
           have hv1 : v1 = ((r * BH + x : Nat) : Int) := by rw [BH_eq]; omega
           refine h.get' 0 _ rfl hyg ?_
           cbv
           refine h.quo' (by omega) (by omega) (by omega) fun c2 hc2 => ?_
           have hc2 : c2 = (qd : Int) := by rw [hc2, hv1, ← hqd]; exact (Int.natCast_ediv _ _).symm
           cbv
           refine h.get' 0 _ rfl hyg ?_
           cbv
           refine h.rem' (by omega) (by omega) fun c3 hc3 => ?_
           have hc3 : c3 = (rd : Int) := by rw [hc3, hv1, ← hrd]; exact (Int.natCast_emod _ _).symm
           cbv
           refine h.inb' at' (by omega) (by omega) fun j2 hj2 => ?_
           cbv
           refine h.put' _ _ (by rw [hj2, hos]; exact hl_get hgz) rfl (by rfl) fun os2 hos2 => ?_
           cbv
           (refine Good.chk' ‹_› rfl ?_; cbv; refine Good.sub' ‹_› ?_ ?_; (· omega); intro _ _; cbv)
           rename_i i1 hi1
           refine hR _ (os2, i1, c3, q.set at' qd, k + 1, rd) ⟨?_, by simp only; omega, hc3, hs⟩ (by simp only; omega) (by (refine Wk.of [(36, some 36)] rfl ?_ ?_; (· (repeat (first | exact trivial | (refine And.intro ?_ ?_; (· first | exact trivial | exact Or.inl ⟨_, rfl, rfl⟩ | exact ⟨_, rfl, rfl⟩ | exact Or.inr ⟨rfl, rfl, by decide⟩))))); (· (repeat (first | exact trivial | (refine And.intro ?_ ?_; (· first | exact trivial | exact Or.inl rfl | rfl | exact Or.inr ⟨_, _, _, _, rfl, rfl, rfl, renNo rfl⟩ | exact ⟨ne_no rfl, Or.inl ⟨_, rfl, rfl⟩⟩ | exact ⟨ne_no rfl, Or.inr ⟨rfl, _, rfl⟩⟩ | exact ⟨_, rfl, rfl, ne_no rfl⟩)))))))
           show os2 = _
           rw [hos2, hj2, hc2, hos, ← hl_set]; rfl
         · have hka : k = a.length := by omega
           subst hka
           obtain ⟨hd1, hd2⟩ := hm'.fin hb0
           cbv
           refine rtrim_s h hos hm'.ok (by omega) fun us hu => ?_
           rw [hd1, ← hq] at hu
           rw [hu]
           cbv
           have hrlt2 : r < BH := by rw [BH_eq]; omega
           refine rtrim_s h (ws := [r]) (by rw [hrz]; rfl) (Ok.of hrlt2 Ok.nil) (by simp) fun us2 hu2 => ?_
           rw [val_one, hd2, ← hr] at hu2
           rw [hu2]
           cbv
           exact hQ _ (SubVs.refl _)
       · cbv
         (refine Good.len' ‹_› ?_; intro _ _; cbv; refine Good.sub' ‹_› ?_ ?_; (· (simp only [inR, cmpP, loOk, hiOk, Int.ofNat_eq_natCast, Int.negSucc_eq, IntKind.bits, Int.toNat_natCast, ge_iff_le, gt_iff_lt, ne_eq, wl_len, hl_len, natCast_fold, not_true_eq_false, not_false_eq_true] at * <;> omega)); intro _ _; cbv)
         rename_i n1 hn1 i0 hi0
         refine h.loop' (List (List D) × Int × List (List D) × Nat × List Nat × Nat × Nat) (fun p => p.1 = hl p.2.2.2.2.1 ∧ p.2.1 = (a.length : Int) - 1 - (p.2.2.2.2.2.1 : Int) ∧ p.2.2.1 = hl (dg BH p.2.2.2.2.2.2) ∧ SI BH a (val BH b) p.2.2.2.2.1 p.2.2.2.2.2.1 p.2.2.2.2.2.2 ∧ (0 < p.2.2.2.2.2.1 → p.2.2.2.1 = 1))
           (fun p => ⟨[(0, vs t xs), (1, vs t' ys), (6, .ow 36), (9, vs p.2.2.2.1 p.2.2.1), (10, vi .i64 p.2.1)], [(36, .ar 3 1 p.1)]⟩) (fun p => a.length - p.2.2.2.2.2.1)
           (os0, i0, [], 3, List.replicate a.length 0, 0, 0) ⟨hos0, by simp only; (simp only [inR, cmpP, loOk, hiOk, Int.ofNat_eq_natCast, Int.negSucc_eq, IntKind.bits, Int.toNat_natCast, ge_iff_le, gt_iff_lt, ne_eq, wl_len, hl_len, natCast_fold, not_true_eq_false, not_false_eq_true] at * <;> omega), rfl, SI.start BH0 hb0, fun h => absurd h (Nat.lt_irrefl _)⟩ (by (refine Wk.of [(36, some 36)] rfl ?_ ?_; (· (repeat (first | exact trivial | (refine And.intro ?_ ?_; (· first | exact trivial | exact Or.inl ⟨_, rfl, rfl⟩ | exact ⟨_, rfl, rfl⟩ | exact Or.inr ⟨rfl, rfl, by decide⟩))))); (· (repeat (first | exact trivial | (refine And.intro ?_ ?_; (· first | exact trivial | exact Or.inl rfl | rfl | exact Or.inr ⟨_, _, _, _, rfl, rfl, rfl, renNo rfl⟩ | exact ⟨ne_no rfl, Or.inl ⟨_, rfl, rfl⟩⟩ | exact ⟨ne_no rfl, Or.inr ⟨rfl, _, rfl⟩⟩ | exact ⟨_, rfl, rfl, ne_no rfl⟩))))))) ?_
         rintro ⟨os, iz, rs', tr, q, k, r⟩ R ⟨hos, hiz, hrs', hm', htr⟩ hR
         simp only at hos hiz hrs' hm' htr
         have hlo : q.length = a.length := hm'.len
         have hlos : os.length = q.length := by rw [hos, hl_len]
         have hk := hm'.hk
         have hrlt := hm'.hr
         have hlr : (dg BH r).length ≤ b.length := dg_len BH2 (Nat.lt_trans hrlt (val_lt hb))
         have hlrs : rs'.length = (dg BH r).length := by rw [hrs', hl_len]
         cbv
         refine h.dec rfl (fun hp => ?_) (fun hp => ?_)
         · have hka : k < a.length := by (simp only [inR, cmpP, loOk, hiOk, Int.ofNat_eq_natCast, Int.negSucc_eq, IntKind.bits, Int.toNat_natCast, ge_iff_le, gt_iff_lt, ne_eq, wl_len, hl_len, natCast_fold, not_true_eq_false, not_false_eq_true] at * <;> omega)
           obtain ⟨at', hat⟩ : ∃ at', at' + 1 = a.length - k := ⟨a.length - k - 1, by omega⟩
           have hia : iz = (at' : Int) := by (simp only [inR, cmpP, loOk, hiOk, Int.ofNat_eq_natCast, Int.negSucc_eq, IntKind.bits, Int.toNat_natCast, ge_iff_le, gt_iff_lt, ne_eq, wl_len, hl_len, natCast_fold, not_true_eq_false, not_false_eq_true] at * <;> omega)
           obtain ⟨x, hgx⟩ := lt_get (ws := a) (i := at') (by omega)
           obtain ⟨z, hgy⟩ := lt_get (ws := q) (i := at') (by omega)
           have hx1 := ha.get hgx
           obtain ⟨hs, hqd⟩ := hm'.step hat hgx ha
           cbv
           refine h.get' at' _ hia (by rw [hx]; exact hl_get hgx) ?_
           cbv
           refine h.app' (by decide) (fun y hy => hl_one (hrs' ▸ hy)) (by simp [maxLen]; omega) (by simp; omega) fun zs hzs => ?_
           have hzs : zs = hl (x :: dg BH r) := by rw [hzs, hrs']; rfl
           have hzo : Ok BH (x :: dg BH r) := Ok.of hx1 (dg_ok BH2 _)
           cbv
           refine rtrim_s h hzs hzo (by simp; omega) fun rs2 hrs2 => ?_
           obtain ⟨rr, hrr⟩ : ∃ rr, rr = r * BH + x := ⟨_, rfl⟩
           have hvz : val BH (x :: dg BH r) = rr := by rw [val, dg_val BH2, hrr, Nat.mul_comm]; omega
           rw [hvz] at hrs2
           rw [← hrr] at hs hqd
           have hlr2 : (dg BH rr).length ≤ b.length + 1 := by
             rw [← hvz]
             refine Nat.le_trans (dg_len_val BH2 hzo) ?_
             simp; omega
           have hlrs2 : rs2.length = (dg BH rr).length := by rw [hrs2, hl_len]
           clear hzs hzo hvz
           cbv
           (refine Good.len' ‹_› ?_; intro _ _; cbv; refine Good.len' ‹_› ?_; intro _ _; cbv)
           refine h.dec rfl (fun hp => ?_) (fun hp => ?_)
           · have hbs : BS 0 1 rr (val BH b) := by
               refine ⟨by omega, ?_, by omega, by omega⟩
               have := lt_of_lenB BH0 (dg_ok BH2 rr) hcb (by (simp only [inR, cmpP, loOk, hiOk, Int.ofNat_eq_natCast, Int.negSucc_eq, IntKind.bits, Int.toNat_natCast, ge_iff_le, gt_iff_lt, ne_eq, wl_len, hl_len, natCast_fold, not_true_eq_false, not_false_eq_true] at * <;> omega))
               rw [dg_val BH2] at this
               omega
             (cbv
              refine h.loop' (Int × Int × Nat × Nat) (fun p => p.1 = (p.2.2.1 : Int) ∧ p.2.1 = (p.2.2.2 : Int) ∧ BS p.2.2.1 p.2.2.2 rr (val BH b) ∧ p.2.2.2 ≤ 65536)
                (fun p => ⟨[(0, vs t xs), (1, vs t' ys), (6, .ow 36), (9, vs 1 rs2), (10, vi .i64 iz), (11, vi .i64 p.1), (12, vi .i64 p.2.1)], [(36, .ar 3 1 os)]⟩) (fun p => p.2.2.2 - p.2.2.1) (0, 1, 0, 1) ⟨rfl, rfl, hbs, by show 1 ≤ 65536; decide⟩ (by (refine Wk.of [(36, some 36)] rfl ?_ ?_; (· (repeat (first | exact trivial | (refine And.intro ?_ ?_; (· first | exact trivial | exact Or.inl ⟨_, rfl, rfl⟩ | exact ⟨_, rfl, rfl⟩ | exact Or.inr ⟨rfl, rfl, by decide⟩))))); (· (repeat (first | exact trivial | (refine And.intro ?_ ?_; (· first | exact trivial | exact Or.inl rfl | rfl | exact Or.inr ⟨_, _, _, _, rfl, rfl, rfl, renNo rfl⟩ | exact ⟨ne_no rfl, Or.inl ⟨_, rfl, rfl⟩⟩ | exact ⟨ne_no rfl, Or.inr ⟨rfl, _, rfl⟩⟩ | exact ⟨_, rfl, rfl, ne_no rfl⟩))))))) ?_
              clear hbs
              rintro ⟨loz, hiz', lo, hi⟩ R2 ⟨hloz, hhiz, hbs, hb2⟩ hR2
              simp only at hloz hhiz hbs hb2
              have hb1 := hbs.lt
              cbv
              (refine Good.sub' ‹_› ?_ ?_; (· (simp only [inR, cmpP, loOk, hiOk, Int.ofNat_eq_natCast, Int.negSucc_eq, IntKind.bits, Int.toNat_natCast, ge_iff_le, gt_iff_lt, ne_eq, wl_len, hl_len, natCast_fold, not_true_eq_false, not_false_eq_true] at * <;> omega)); intro _ _; cbv)
              refine h.dec rfl (fun hp => ?_) (fun hp => ?_)
              · obtain ⟨mid, hmid⟩ : ∃ mid, mid = (lo + hi) / 2 := ⟨_, rfl⟩
                have hgap : lo + 1 < hi := by (simp only [inR, cmpP, loOk, hiOk, Int.ofNat_eq_natCast, Int.negSucc_eq, IntKind.bits, Int.toNat_natCast, ge_iff_le, gt_iff_lt, ne_eq, wl_len, hl_len, natCast_fold, not_true_eq_false, not_false_eq_true] at * <;> omega)
                cbv
                (refine Good.add' ‹_› ?_ ?_; (· (simp only [inR, cmpP, loOk, hiOk, Int.ofNat_eq_natCast, Int.negSucc_eq, IntKind.bits, Int.toNat_natCast, ge_iff_le, gt_iff_lt, ne_eq, wl_len, hl_len, natCast_fold, not_true_eq_false, not_false_eq_true] at * <;> omega)); intro _ _; cbv)
                refine h.quo' (by (simp only [inR, cmpP, loOk, hiOk, Int.ofNat_eq_natCast, Int.negSucc_eq, IntKind.bits, Int.toNat_natCast, ge_iff_le, gt_iff_lt, ne_eq, wl_len, hl_len, natCast_fold, not_true_eq_false, not_false_eq_true] at * <;> omega)) (by omega) (by (simp only [inR, cmpP, loOk, hiOk, Int.ofNat_eq_natCast, Int.negSucc_eq, IntKind.bits, Int.toNat_natCast, ge_iff_le, gt_iff_lt, ne_eq, wl_len, hl_len, natCast_fold, not_true_eq_false, not_false_eq_true] at * <;> omega)) fun mz hmz => ?_
                have hmz : mz = (mid : Int) := by (simp only [inR, cmpP, loOk, hiOk, Int.ofNat_eq_natCast, Int.negSucc_eq, IntKind.bits, Int.toNat_natCast, ge_iff_le, gt_iff_lt, ne_eq, wl_len, hl_len, natCast_fold, not_true_eq_false, not_false_eq_true] at * <;> omega)
                have hm1 : mid < hi := by omega
                have hm2 : lo < mid := by omega
                have hm3 : mid ≤ 4294967296 := by omega
                have hm4 : mid ≤ 65536 := by omega
                cbv
                refine times_s h mid hy hb (by omega) hmz (by omega) fun z1 hz1 => ?_
                have l1 : (dg BH (val BH b * mid)).length ≤ b.length + 1 := by
                  refine dg_len BH2 ?_
                  rw [Nat.pow_succ]
                  exact Nat.mul_lt_mul'' (val_lt hb) (by rw [BH_eq]; omega)
                cbv
                refine rcmp_s h hz1 hrs2 (dg_ok BH2 _) (dg_ok BH2 _) (by omega) (by omega) fun c hc => ?_
                rw [dg_val BH2, dg_val BH2, Nat.mul_comm] at hc
                have h5 : c ≤ 0 ↔ mid * val BH b ≤ rr := by
                  rw [hc]; unfold cmpV
                  split
                  · omega
                  · split <;> omega
                cbv
                refine h.dec rfl (fun hp => ?_) (fun hp => ?_)
                · have : mid * val BH b ≤ rr := by (simp only [inR, cmpP, loOk, hiOk, Int.ofNat_eq_natCast, Int.negSucc_eq, IntKind.bits, Int.toNat_natCast, ge_iff_le, gt_iff_lt, ne_eq, wl_len, hl_len, natCast_fold, not_true_eq_false, not_false_eq_true] at * <;> omega)
                  cbv
                  skip
                  refine hR2 _ (mz, hiz', mid, hi) ⟨hmz, hhiz, ⟨this, hbs.h, hm1, hbs.hi⟩, hb2⟩ (by simp only; omega) (by (refine Wk.of [(36, some 36)] rfl ?_ ?_; (· (repeat (first | exact trivial | (refine And.intro ?_ ?_; (· first | exact trivial | exact Or.inl ⟨_, rfl, rfl⟩ | exact ⟨_, rfl, rfl⟩ | exact Or.inr ⟨rfl, rfl, by decide⟩))))); (· (repeat (first | exact trivial | (refine And.intro ?_ ?_; (· first | exact trivial | exact Or.inl rfl | rfl | exact Or.inr ⟨_, _, _, _, rfl, rfl, rfl, renNo rfl⟩ | exact ⟨ne_no rfl, Or.inl ⟨_, rfl, rfl⟩⟩ | exact ⟨ne_no rfl, Or.inr ⟨rfl, _, rfl⟩⟩ | exact ⟨_, rfl, rfl, ne_no rfl⟩)))))))
                · have : rr < mid * val BH b := by (simp only [inR, cmpP, loOk, hiOk, Int.ofNat_eq_natCast, Int.negSucc_eq, IntKind.bits, Int.toNat_natCast, ge_iff_le, gt_iff_lt, ne_eq, wl_len, hl_len, natCast_fold, not_true_eq_false, not_false_eq_true] at * <;> omega)
                  cbv
                  skip
                  refine hR2 _ (loz, mz, lo, mid) ⟨hloz, hmz, ⟨hbs.l, this, hm2, hm3⟩, hm4⟩ (by simp only; omega) (by (refine Wk.of [(36, some 36)] rfl ?_ ?_; (· (repeat (first | exact trivial | (refine And.intro ?_ ?_; (· first | exact trivial | exact Or.inl ⟨_, rfl, rfl⟩ | exact ⟨_, rfl, rfl⟩ | exact Or.inr ⟨rfl, rfl, by decide⟩))))); (· (repeat (first | exact trivial | (refine And.intro ?_ ?_; (· first | exact trivial | exact Or.inl rfl | rfl | exact Or.inr ⟨_, _, _, _, rfl, rfl, rfl, renNo rfl⟩ | exact ⟨ne_no rfl, Or.inl ⟨_, rfl, rfl⟩⟩ | exact ⟨ne_no rfl, Or.inr ⟨rfl, _, rfl⟩⟩ | exact ⟨_, rfl, rfl, ne_no rfl⟩)))))))
              · have hlq : rr / val BH b = lo := hbs.end (by (simp only [inR, cmpP, loOk, hiOk, Int.ofNat_eq_natCast, Int.negSucc_eq, IntKind.bits, Int.toNat_natCast, ge_iff_le, gt_iff_lt, ne_eq, wl_len, hl_len, natCast_fold, not_true_eq_false, not_false_eq_true] at * <;> omega))
                have hll := hbs.l
                have hrm : rr % val BH b = rr - lo * val BH b := by
                  have := Nat.div_add_mod rr (val BH b)
                  rw [hlq, Nat.mul_comm] at this
                  omega
                rw [hlq] at hs
                rw [hrm] at hs
                have hlB : lo < 65536 := by omega
                have l1 : (dg BH (val BH b * lo)).length ≤ b.length + 1 := by
                  refine dg_len BH2 ?_
                  rw [Nat.pow_succ]
                  exact Nat.mul_lt_mul'' (val_lt hb) (by rw [BH_eq]; omega)
                cbv
                skip
                refine times_s h lo hy hb (by omega) hloz (by omega) fun z1 hz1 => ?_
                cbv
                refine rsub_s h hrs2 hz1 (dg_ok BH2 _) (dg_ok BH2 _) (by omega) (by omega) (by rw [dg_val BH2, dg_val BH2, Nat.mul_comm]; exact hll) fun z4 hz4 => ?_
                rw [dg_val BH2, dg_val BH2, Nat.mul_comm] at hz4
                cbv
                refine h.inb' at' (by omega) (by omega) fun j2 hj2 => ?_
                cbv
                refine h.put' _ _ (by rw [hj2, hos]; exact hl_get hgy) rfl (by rfl) fun os2 hos2 => ?_
                cbv
                (refine Good.sub' ‹_› ?_ ?_; (· (simp only [inR, cmpP, loOk, hiOk, Int.ofNat_eq_natCast, Int.negSucc_eq, IntKind.bits, Int.toNat_natCast, ge_iff_le, gt_iff_lt, ne_eq, wl_len, hl_len, natCast_fold, not_true_eq_false, not_false_eq_true] at * <;> omega)); intro _ _; cbv)
                rename_i i1 hi1
                refine hR _ (os2, i1, z4, 1, q.set at' lo, k + 1, rr - lo * val BH b) ⟨?_, by simp only; (simp only [inR, cmpP, loOk, hiOk, Int.ofNat_eq_natCast, Int.negSucc_eq, IntKind.bits, Int.toNat_natCast, ge_iff_le, gt_iff_lt, ne_eq, wl_len, hl_len, natCast_fold, not_true_eq_false, not_false_eq_true] at * <;> omega), hz4, hs, fun _ => rfl⟩ (by simp only; omega) (by (refine Wk.of [(36, some 36)] rfl ?_ ?_; (· (repeat (first | exact trivial | (refine And.intro ?_ ?_; (· first | exact trivial | exact Or.inl ⟨_, rfl, rfl⟩ | exact ⟨_, rfl, rfl⟩ | exact Or.inr ⟨rfl, rfl, by decide⟩))))); (· (repeat (first | exact trivial | (refine And.intro ?_ ?_; (· first | exact trivial | exact Or.inl rfl | rfl | exact Or.inr ⟨_, _, _, _, rfl, rfl, rfl, renNo rfl⟩ | exact ⟨ne_no rfl, Or.inl ⟨_, rfl, rfl⟩⟩ | exact ⟨ne_no rfl, Or.inr ⟨rfl, _, rfl⟩⟩ | exact ⟨_, rfl, rfl, ne_no rfl⟩)))))))
                show os2 = _
                rw [hos2, hj2, hloz, hos, ← hl_set]; rfl
             )
           · have hbs : BS 0 65536 rr (val BH b) := by
               refine ⟨by omega, ?_, by omega, by omega⟩
               have := (Nat.div_lt_iff_lt_mul hb0).1 hqd
               rwa [BH_eq] at this
             (cbv
              refine h.loop' (Int × Int × Nat × Nat) (fun p => p.1 = (p.2.2.1 : Int) ∧ p.2.1 = (p.2.2.2 : Int) ∧ BS p.2.2.1 p.2.2.2 rr (val BH b) ∧ p.2.2.2 ≤ 65536)
                (fun p => ⟨[(0, vs t xs), (1, vs t' ys), (6, .ow 36), (9, vs 1 rs2), (10, vi .i64 iz), (11, vi .i64 p.1), (12, vi .i64 p.2.1)], [(36, .ar 3 1 os)]⟩) (fun p => p.2.2.2 - p.2.2.1) (0, 65536, 0, 65536) ⟨rfl, rfl, hbs, by show 65536 ≤ 65536; decide⟩ (by (refine Wk.of [(36, some 36)] rfl ?_ ?_; (· (repeat (first | exact trivial | (refine And.intro ?_ ?_; (· first | exact trivial | exact Or.inl ⟨_, rfl, rfl⟩ | exact ⟨_, rfl, rfl⟩ | exact Or.inr ⟨rfl, rfl, by decide⟩))))); (· (repeat (first | exact trivial | (refine And.intro ?_ ?_; (· first | exact trivial | exact Or.inl rfl | rfl | exact Or.inr ⟨_, _, _, _, rfl, rfl, rfl, renNo rfl⟩ | exact ⟨ne_no rfl, Or.inl ⟨_, rfl, rfl⟩⟩ | exact ⟨ne_no rfl, Or.inr ⟨rfl, _, rfl⟩⟩ | exact ⟨_, rfl, rfl, ne_no rfl⟩))))))) ?_
              clear hbs
              rintro ⟨loz, hiz', lo, hi⟩ R2 ⟨hloz, hhiz, hbs, hb2⟩ hR2
              simp only at hloz hhiz hbs hb2
              have hb1 := hbs.lt
              cbv
              (refine Good.sub' ‹_› ?_ ?_; (· (simp only [inR, cmpP, loOk, hiOk, Int.ofNat_eq_natCast, Int.negSucc_eq, IntKind.bits, Int.toNat_natCast, ge_iff_le, gt_iff_lt, ne_eq, wl_len, hl_len, natCast_fold, not_true_eq_false, not_false_eq_true] at * <;> omega)); intro _ _; cbv)
              refine h.dec rfl (fun hp => ?_) (fun hp => ?_)
              · obtain ⟨mid, hmid⟩ : ∃ mid, mid = (lo + hi) / 2 := ⟨_, rfl⟩
                have hgap : lo + 1 < hi := by (simp only [inR, cmpP, loOk, hiOk, Int.ofNat_eq_natCast, Int.negSucc_eq, IntKind.bits, Int.toNat_natCast, ge_iff_le, gt_iff_lt, ne_eq, wl_len, hl_len, natCast_fold, not_true_eq_false, not_false_eq_true] at * <;> omega)
                cbv
                (refine Good.add' ‹_› ?_ ?_; (· (simp only [inR, cmpP, loOk, hiOk, Int.ofNat_eq_natCast, Int.negSucc_eq, IntKind.bits, Int.toNat_natCast, ge_iff_le, gt_iff_lt, ne_eq, wl_len, hl_len, natCast_fold, not_true_eq_false, not_false_eq_true] at * <;> omega)); intro _ _; cbv)
                refine h.quo' (by (simp only [inR, cmpP, loOk, hiOk, Int.ofNat_eq_natCast, Int.negSucc_eq, IntKind.bits, Int.toNat_natCast, ge_iff_le, gt_iff_lt, ne_eq, wl_len, hl_len, natCast_fold, not_true_eq_false, not_false_eq_true] at * <;> omega)) (by omega) (by (simp only [inR, cmpP, loOk, hiOk, Int.ofNat_eq_natCast, Int.negSucc_eq, IntKind.bits, Int.toNat_natCast, ge_iff_le, gt_iff_lt, ne_eq, wl_len, hl_len, natCast_fold, not_true_eq_false, not_false_eq_true] at * <;> omega)) fun mz hmz => ?_
                have hmz : mz = (mid : Int) := by (simp only [inR, cmpP, loOk, hiOk, Int.ofNat_eq_natCast, Int.negSucc_eq, IntKind.bits, Int.toNat_natCast, ge_iff_le, gt_iff_lt, ne_eq, wl_len, hl_len, natCast_fold, not_true_eq_false, not_false_eq_true] at * <;> omega)
                have hm1 : mid < hi := by omega
                have hm2 : lo < mid := by omega
                have hm3 : mid ≤ 4294967296 := by omega
                have hm4 : mid ≤ 65536 := by omega
                cbv
                refine times_s h mid hy hb (by omega) hmz (by omega) fun z1 hz1 => ?_
                have l1 : (dg BH (val BH b * mid)).length ≤ b.length + 1 := by
                  refine dg_len BH2 ?_
                  rw [Nat.pow_succ]
                  exact Nat.mul_lt_mul'' (val_lt hb) (by rw [BH_eq]; omega)
                cbv
                refine rcmp_s h hz1 hrs2 (dg_ok BH2 _) (dg_ok BH2 _) (by omega) (by omega) fun c hc => ?_
                rw [dg_val BH2, dg_val BH2, Nat.mul_comm] at hc
                have h5 : c ≤ 0 ↔ mid * val BH b ≤ rr := by
                  rw [hc]; unfold cmpV
                  split
                  · omega
                  · split <;> omega
                cbv
                refine h.dec rfl (fun hp => ?_) (fun hp => ?_)
                · have : mid * val BH b ≤ rr := by (simp only [inR, cmpP, loOk, hiOk, Int.ofNat_eq_natCast, Int.negSucc_eq, IntKind.bits, Int.toNat_natCast, ge_iff_le, gt_iff_lt, ne_eq, wl_len, hl_len, natCast_fold, not_true_eq_false, not_false_eq_true] at * <;> omega)
                  cbv
                  skip
                  refine hR2 _ (mz, hiz', mid, hi) ⟨hmz, hhiz, ⟨this, hbs.h, hm1, hbs.hi⟩, hb2⟩ (by simp only; omega) (by (refine Wk.of [(36, some 36)] rfl ?_ ?_; (· (repeat (first | exact trivial | (refine And.intro ?_ ?_; (· first | exact trivial | exact Or.inl ⟨_, rfl, rfl⟩ | exact ⟨_, rfl, rfl⟩ | exact Or.inr ⟨rfl, rfl, by decide⟩))))); (· (repeat (first | exact trivial | (refine And.intro ?_ ?_; (· first | exact trivial | exact Or.inl rfl | rfl | exact Or.inr ⟨_, _, _, _, rfl, rfl, rfl, renNo rfl⟩ | exact ⟨ne_no rfl, Or.inl ⟨_, rfl, rfl⟩⟩ | exact ⟨ne_no rfl, Or.inr ⟨rfl, _, rfl⟩⟩ | exact ⟨_, rfl, rfl, ne_no rfl⟩)))))))
                · have : rr < mid * val BH b := by (simp only [inR, cmpP, loOk, hiOk, Int.ofNat_eq_natCast, Int.negSucc_eq, IntKind.bits, Int.toNat_natCast, ge_iff_le, gt_iff_lt, ne_eq, wl_len, hl_len, natCast_fold, not_true_eq_false, not_false_eq_true] at * <;> omega)
                  cbv
                  skip
                  refine hR2 _ (loz, mz, lo, mid) ⟨hloz, hmz, ⟨hbs.l, this, hm2, hm3⟩, hm4⟩ (by simp only; omega) (by (refine Wk.of [(36, some 36)] rfl ?_ ?_; (· (repeat (first | exact trivial | (refine And.intro ?_ ?_; (· first | exact trivial | exact Or.inl ⟨_, rfl, rfl⟩ | exact ⟨_, rfl, rfl⟩ | exact Or.inr ⟨rfl, rfl, by decide⟩))))); (· (repeat (first | exact trivial | (refine And.intro ?_ ?_; (· first | exact trivial | exact Or.inl rfl | rfl | exact Or.inr ⟨_, _, _, _, rfl, rfl, rfl, renNo rfl⟩ | exact ⟨ne_no rfl, Or.inl ⟨_, rfl, rfl⟩⟩ | exact ⟨ne_no rfl, Or.inr ⟨rfl, _, rfl⟩⟩ | exact ⟨_, rfl, rfl, ne_no rfl⟩)))))))
              · have hlq : rr / val BH b = lo := hbs.end (by (simp only [inR, cmpP, loOk, hiOk, Int.ofNat_eq_natCast, Int.negSucc_eq, IntKind.bits, Int.toNat_natCast, ge_iff_le, gt_iff_lt, ne_eq, wl_len, hl_len, natCast_fold, not_true_eq_false, not_false_eq_true] at * <;> omega))
                have hll := hbs.l
                have hrm : rr % val BH b = rr - lo * val BH b := by
                  have := Nat.div_add_mod rr (val BH b)
                  rw [hlq, Nat.mul_comm] at this
                  omega
                rw [hlq] at hs
                rw [hrm] at hs
                have hlB : lo < 65536 := by omega
                have l1 : (dg BH (val BH b * lo)).length ≤ b.length + 1 := by
                  refine dg_len BH2 ?_
                  rw [Nat.pow_succ]
                  exact Nat.mul_lt_mul'' (val_lt hb) (by rw [BH_eq]; omega)
                cbv
                skip
                refine times_s h lo hy hb (by omega) hloz (by omega) fun z1 hz1 => ?_
                cbv
                refine rsub_s h hrs2 hz1 (dg_ok BH2 _) (dg_ok BH2 _) (by omega) (by omega) (by rw [dg_val BH2, dg_val BH2, Nat.mul_comm]; exact hll) fun z4 hz4 => ?_
                rw [dg_val BH2, dg_val BH2, Nat.mul_comm] at hz4
                cbv
                refine h.inb' at' (by omega) (by omega) fun j2 hj2 => ?_
                cbv
                refine h.put' _ _ (by rw [hj2, hos]; exact hl_get hgy) rfl (by rfl) fun os2 hos2 => ?_
                cbv
                (refine Good.sub' ‹_› ?_ ?_; (· (simp only [inR, cmpP, loOk, hiOk, Int.ofNat_eq_natCast, Int.negSucc_eq, IntKind.bits, Int.toNat_natCast, ge_iff_le, gt_iff_lt, ne_eq, wl_len, hl_len, natCast_fold, not_true_eq_false, not_false_eq_true] at * <;> omega)); intro _ _; cbv)
                rename_i i1 hi1
                refine hR _ (os2, i1, z4, 1, q.set at' lo, k + 1, rr - lo * val BH b) ⟨?_, by simp only; (simp only [inR, cmpP, loOk, hiOk, Int.ofNat_eq_natCast, Int.negSucc_eq, IntKind.bits, Int.toNat_natCast, ge_iff_le, gt_iff_lt, ne_eq, wl_len, hl_len, natCast_fold, not_true_eq_false, not_false_eq_true] at * <;> omega), hz4, hs, fun _ => rfl⟩ (by simp only; omega) (by (refine Wk.of [(36, some 36)] rfl ?_ ?_; (· (repeat (first | exact trivial | (refine And.intro ?_ ?_; (· first | exact trivial | exact Or.inl ⟨_, rfl, rfl⟩ | exact ⟨_, rfl, rfl⟩ | exact Or.inr ⟨rfl, rfl, by decide⟩))))); (· (repeat (first | exact trivial | (refine And.intro ?_ ?_; (· first | exact trivial | exact Or.inl rfl | rfl | exact Or.inr ⟨_, _, _, _, rfl, rfl, rfl, renNo rfl⟩ | exact ⟨ne_no rfl, Or.inl ⟨_, rfl, rfl⟩⟩ | exact ⟨ne_no rfl, Or.inr ⟨rfl, _, rfl⟩⟩ | exact ⟨_, rfl, rfl, ne_no rfl⟩)))))))
                show os2 = _
                rw [hos2, hj2, hloz, hos, ← hl_set]; rfl
             )
         · have hka : k = a.length := by (simp only [inR, cmpP, loOk, hiOk, Int.ofNat_eq_natCast, Int.negSucc_eq, IntKind.bits, Int.toNat_natCast, ge_iff_le, gt_iff_lt, ne_eq, wl_len, hl_len, natCast_fold, not_true_eq_false, not_false_eq_true] at * <;> omega)
           rw [hka] at hm'
           obtain ⟨hd1, hd2⟩ := hm'.fin hb0
           cbv
           refine rtrim_s h hos hm'.ok (by omega) fun us hu => ?_
           rw [hd1, ← hq] at hu
           have e : rs' = rs := by rw [hr, ← hd2, hrs']
           rw [hu, e]
           cbv
           refine hQ _ ⟨SubV.refl _, SubD.one ?_, trivial⟩
           rcases Nat.eq_zero_or_pos k with hk0 | hk0
           · left
             have ha0 : a = [] := List.eq_nil_of_length_eq_zero (by omega)
             have : val BH a = 0 := by rw [ha0]; rfl
             rw [hr, this, Nat.zero_mod]; rfl
           · exact .inr (htr hk0)
      )
  · (cbv
     (refine Good.len' ‹_› ?_; intro _ _; cbv; refine Good.no ‹_› rfl ?_ ?_; (· (simp only [inR, cmpP, loOk, hiOk, Int.ofNat_eq_natCast, Int.negSucc_eq, IntKind.bits, Int.toNat_natCast, ge_iff_le, gt_iff_lt, ne_eq, wl_len, hl_len, natCast_fold, not_true_eq_false, not_false_eq_true] at * <;> omega)); cbv; refine Good.len' ‹_› ?_; intro _ _; cbv)
     refine h.mks' a.length (by (simp only [inR, cmpP, loOk, hiOk, Int.ofNat_eq_natCast, Int.negSucc_eq, IntKind.bits, Int.toNat_natCast, ge_iff_le, gt_iff_lt, ne_eq, wl_len, hl_len, natCast_fold, not_true_eq_false, not_false_eq_true] at * <;> omega)) (by (simp only [inR, cmpP, loOk, hiOk, Int.ofNat_eq_natCast, Int.negSucc_eq, IntKind.bits, Int.toNat_natCast, ge_iff_le, gt_iff_lt, ne_eq, wl_len, hl_len, natCast_fold, not_true_eq_false, not_false_eq_true] at * <;> omega)) (by omega) (by simp [maxLen]; omega) (by simp) fun os0 hos0 => ?_
     have hos0 : os0 = hl (List.replicate a.length 0) := by rw [hos0, ← hl_rep]; rfl
     cbv
     refine h.len' fun nb hnb => ?_
     cbv
     refine h.dec rfl (fun hp => ?_) (fun hp => ?_)
     · have hb1 : b.length = 1 := by (simp only [inR, cmpP, loOk, hiOk, Int.ofNat_eq_natCast, Int.negSucc_eq, IntKind.bits, Int.toNat_natCast, ge_iff_le, gt_iff_lt, ne_eq, wl_len, hl_len, natCast_fold, not_true_eq_false, not_false_eq_true] at * <;> omega)
       obtain ⟨y, rfl⟩ : ∃ y, b = [y] := by
         cases b with
         | nil => simp at hb1
         | cons y r => cases r with
           | nil => exact ⟨y, rfl⟩
           | cons _ _ => simp at hb1
       have hy1 := hb y (by simp)
       rw [val_one] at hb0 hq hr
       rw [BH_eq] at hy1
       have hyg : ys[0]? = some [D.sc (.int .i64 (y : Int))] := by rw [hy]; rfl
       cbv
       (refine Good.len' ‹_› ?_; intro _ _; cbv; refine Good.sub' ‹_› ?_ ?_; (· (simp only [inR, cmpP, loOk, hiOk, Int.ofNat_eq_natCast, Int.negSucc_eq, IntKind.bits, Int.toNat_natCast, ge_iff_le, gt_iff_lt, ne_eq, wl_len, hl_len, natCast_fold, not_true_eq_false, not_false_eq_true] at * <;> omega)); intro _ _; cbv)
       rename_i n1 hn1 i0 hi0
       refine h.loop' (List (List D) × Int × Int × List Nat × Nat × Nat) (fun p => p.1 = hl p.2.2.2.1 ∧ p.2.1 = (a.length : Int) - 1 - (p.2.2.2.2.1 : Int) ∧ p.2.2.1 = (p.2.2.2.2.2 : Int) ∧ SI BH a y p.2.2.2.1 p.2.2.2.2.1 p.2.2.2.2.2)
         (fun p => ⟨[(0, vs t xs), (1, vs t' ys), (6, .ow 36), (7, vi .i64 p.2.2.1), (8, vi .i64 p.2.1)], [(36, .ar 3 1 p.1)]⟩) (fun p => a.length - p.2.2.2.2.1) (os0, i0, 0, List.replicate a.length 0, 0, 0) ⟨hos0, by simp only; (simp only [inR, cmpP, loOk, hiOk, Int.ofNat_eq_natCast, Int.negSucc_eq, IntKind.bits, Int.toNat_natCast, ge_iff_le, gt_iff_lt, ne_eq, wl_len, hl_len, natCast_fold, not_true_eq_false, not_false_eq_true] at * <;> omega), rfl, SI.start BH0 hb0⟩ (by (refine Wk.of [(36, some 36)] rfl ?_ ?_; (· (repeat (first | exact trivial | (refine And.intro ?_ ?_; (· first | exact trivial | exact Or.inl ⟨_, rfl, rfl⟩ | exact ⟨_, rfl, rfl⟩ | exact Or.inr ⟨rfl, rfl, by decide⟩))))); (· (repeat (first | exact trivial | (refine And.intro ?_ ?_; (· first | exact trivial | exact Or.inl rfl | rfl | exact Or.inr ⟨_, _, _, _, rfl, rfl, rfl, renNo rfl⟩ | exact ⟨ne_no rfl, Or.inl ⟨_, rfl, rfl⟩⟩ | exact ⟨ne_no rfl, Or.inr ⟨rfl, _, rfl⟩⟩ | exact ⟨_, rfl, rfl, ne_no rfl⟩))))))) ?_
       rintro ⟨os, iz, rz, q, k, r⟩ R ⟨hos, hiz, hrz, hm'⟩ hR
       simp only at hos hiz hrz hm'
       have hlo : q.length = a.length := hm'.len
       have hlos : os.length = q.length := by rw [hos, hl_len]
       have hk := hm'.hk
       have hrlt := hm'.hr
       cbv
       refine h.dec rfl (fun hp => ?_) (fun hp => ?_)
       · have hka : k < a.length := by (simp only [inR, cmpP, loOk, hiOk, Int.ofNat_eq_natCast, Int.negSucc_eq, IntKind.bits, Int.toNat_natCast, ge_iff_le, gt_iff_lt, ne_eq, wl_len, hl_len, natCast_fold, not_true_eq_false, not_false_eq_true] at * <;> omega)
         obtain ⟨at', hat⟩ : ∃ at', at' + 1 = a.length - k := ⟨a.length - k - 1, by omega⟩
         have hia : iz = (at' : Int) := by (simp only [inR, cmpP, loOk, hiOk, Int.ofNat_eq_natCast, Int.negSucc_eq, IntKind.bits, Int.toNat_natCast, ge_iff_le, gt_iff_lt, ne_eq, wl_len, hl_len, natCast_fold, not_true_eq_false, not_false_eq_true] at * <;> omega)
         obtain ⟨x, hgx⟩ := lt_get (ws := a) (i := at') (by omega)
         obtain ⟨z, hgz⟩ := lt_get (ws := q) (i := at') (by omega)
         have hx1 := ha.get hgx
         obtain ⟨hs, hqd'⟩ := hm'.step hat hgx ha
         obtain ⟨qd, hqd⟩ : ∃ qd, (r * BH + x) / y = qd := ⟨_, rfl⟩
         obtain ⟨rd, hrd⟩ : ∃ rd, (r * BH + x) % y = rd := ⟨_, rfl⟩
         rw [hqd, hrd] at hs
         rw [BH_eq] at hx1
         cbv
         (refine Good.mul' ‹_› ?_ ?_; (· (simp only [inR, cmpP, loOk, hiOk, Int.ofNat_eq_natCast, Int.negSucc_eq, IntKind.bits, Int.toNat_natCast, ge_iff_le, gt_iff_lt, ne_eq, wl_len, hl_len, natCast_fold, not_true_eq_false, not_false_eq_true] at * <;> omega)); intro _ _; cbv)
         refine h.get' at' _ hia (by rw [hx]; exact hl_get hgx) ?_
         cbv
         (refine Good.add' ‹_› ?_ ?_; (· (simp only [inR, cmpP, loOk, hiOk, Int.ofNat_eq_natCast, Int.negSucc_eq, IntKind.bits, Int.toNat_natCast, ge_iff_le, gt_iff_lt, ne_eq, wl_len, hl_len, natCast_fold, not_true_eq_false, not_false_eq_true] at * <;> omega)); intro _ _; cbv)
         rename_i v0 hv0 v1 hv1
         have hv1 : v1 = ((r * BH + x : Nat) : Int) := by rw [BH_eq]; (simp only [inR, cmpP, loOk, hiOk, Int.ofNat_eq_natCast, Int.negSucc_eq, IntKind.bits, Int.toNat_natCast, ge_iff_le, gt_iff_lt, ne_eq, wl_len, hl_len, natCast_fold, not_true_eq_false, not_false_eq_true] at * <;> omega)
         refine h.get' 0 _ rfl hyg ?_
         cbv
         refine h.quo' (by (simp only [inR, cmpP, loOk, hiOk, Int.ofNat_eq_natCast, Int.negSucc_eq, IntKind.bits, Int.toNat_natCast, ge_iff_le, gt_iff_lt, ne_eq, wl_len, hl_len, natCast_fold, not_true_eq_false, not_false_eq_true] at * <;> omega)) (by (simp only [inR, cmpP, loOk, hiOk, Int.ofNat_eq_natCast, Int.negSucc_eq, IntKind.bits, Int.toNat_natCast, ge_iff_le, gt_iff_lt, ne_eq, wl_len, hl_len, natCast_fold, not_true_eq_false, not_false_eq_true] at * <;> omega)) (by (simp only [inR, cmpP, loOk, hiOk, Int.ofNat_eq_natCast, Int.negSucc_eq, IntKind.bits, Int.toNat_natCast, ge_iff_le, gt_iff_lt, ne_eq, wl_len, hl_len, natCast_fold, not_true_eq_false, not_false_eq_true] at * <;> omega)) fun c2 hc2 => ?_
         have hc2 : c2 = (qd : Int) := by rw [hc2, hv1, ← hqd]; exact (Int.natCast_ediv _ _).symm
         cbv
         refine h.get' 0 _ rfl hyg ?_
         cbv
         refine h.rem' (by (simp only [inR, cmpP, loOk, hiOk, Int.ofNat_eq_natCast, Int.negSucc_eq, IntKind.bits, Int.toNat_natCast, ge_iff_le, gt_iff_lt, ne_eq, wl_len, hl_len, natCast_fold, not_true_eq_false, not_false_eq_true] at * <;> omega)) (by (simp only [inR, cmpP, loOk, hiOk, Int.ofNat_eq_natCast, Int.negSucc_eq, IntKind.bits, Int.toNat_natCast, ge_iff_le, gt_iff_lt, ne_eq, wl_len, hl_len, natCast_fold, not_true_eq_false, not_false_eq_true] at * <;> omega)) fun c3 hc3 => ?_
         have hc3 : c3 = (rd : Int) := by rw [hc3, hv1, ← hrd]; exact (Int.natCast_emod _ _).symm
         cbv
         refine h.inb' at' (by omega) (by omega) fun j2 hj2 => ?_
         cbv
         refine h.put' _ _ (by rw [hj2, hos]; exact hl_get hgz) rfl (by rfl) fun os2 hos2 => ?_
         cbv
         (refine Good.chk' ‹_› rfl ?_; cbv; refine Good.sub' ‹_› ?_ ?_; (· (simp only [inR, cmpP, loOk, hiOk, Int.ofNat_eq_natCast, Int.negSucc_eq, IntKind.bits, Int.toNat_natCast, ge_iff_le, gt_iff_lt, ne_eq, wl_len, hl_len, natCast_fold, not_true_eq_false, not_false_eq_true] at * <;> omega)); intro _ _; cbv)
         rename_i i1 hi1
         refine hR _ (os2, i1, c3, q.set at' qd, k + 1, rd) ⟨?_, by simp only; (simp only [inR, cmpP, loOk, hiOk, Int.ofNat_eq_natCast, Int.negSucc_eq, IntKind.bits, Int.toNat_natCast, ge_iff_le, gt_iff_lt, ne_eq, wl_len, hl_len, natCast_fold, not_true_eq_false, not_false_eq_true] at * <;> omega), hc3, hs⟩ (by simp only; omega) (by (refine Wk.of [(36, some 36)] rfl ?_ ?_; (· (repeat (first | exact trivial | (refine And.intro ?_ ?_; (· first | exact trivial | exact Or.inl ⟨_, rfl, rfl⟩ | exact ⟨_, rfl, rfl⟩ | exact Or.inr ⟨rfl, rfl, by decide⟩))))); (· (repeat (first | exact trivial | (refine And.intro ?_ ?_; (· first | exact trivial | exact Or.inl rfl | rfl | exact Or.inr ⟨_, _, _, _, rfl, rfl, rfl, renNo rfl⟩ | exact ⟨ne_no rfl, Or.inl ⟨_, rfl, rfl⟩⟩ | exact ⟨ne_no rfl, Or.inr ⟨rfl, _, rfl⟩⟩ | exact ⟨_, rfl, rfl, ne_no rfl⟩)))))))
         show os2 = _
         rw [hos2, hj2, hc2, hos, ← hl_set]; rfl
       · have hka : k = a.length := by (simp only [inR, cmpP, loOk, hiOk, Int.ofNat_eq_natCast, Int.negSucc_eq, IntKind.bits, Int.toNat_natCast, ge_iff_le, gt_iff_lt, ne_eq, wl_len, hl_len, natCast_fold, not_true_eq_false, not_false_eq_true] at * <;> omega)
         subst hka
         obtain ⟨hd1, hd2⟩ := hm'.fin hb0
         cbv
         refine rtrim_s h hos hm'.ok (by omega) fun us hu => ?_
         rw [hd1, ← hq] at hu
         rw [hu]
         cbv
         have hrlt2 : r < BH := by rw [BH_eq]; omega
         refine rtrim_s h (ws := [r]) (by rw [hrz]; rfl) (Ok.of hrlt2 Ok.nil) (by simp) fun us2 hu2 => ?_
         rw [val_one, hd2, ← hr] at hu2
         rw [hu2]
         cbv
         exact hQ _ (SubVs.refl _)
     · cbv
       (refine Good.len' ‹_› ?_; intro _ _; cbv; refine Good.sub' ‹_› ?_ ?_; (· (simp only [inR, cmpP, loOk, hiOk, Int.ofNat_eq_natCast, Int.negSucc_eq, IntKind.bits, Int.toNat_natCast, ge_iff_le, gt_iff_lt, ne_eq, wl_len, hl_len, natCast_fold, not_true_eq_false, not_false_eq_true] at * <;> omega)); intro _ _; cbv)
       rename_i n1 hn1 i0 hi0
       refine h.loop' (List (List D) × Int × List (List D) × Nat × List Nat × Nat × Nat) (fun p => p.1 = hl p.2.2.2.2.1 ∧ p.2.1 = (a.length : Int) - 1 - (p.2.2.2.2.2.1 : Int) ∧ p.2.2.1 = hl (dg BH p.2.2.2.2.2.2) ∧ SI BH a (val BH b) p.2.2.2.2.1 p.2.2.2.2.2.1 p.2.2.2.2.2.2 ∧ (0 < p.2.2.2.2.2.1 → p.2.2.2.1 = 1))
         (fun p => ⟨[(0, vs t xs), (1, vs t' ys), (6, .ow 36), (9, vs p.2.2.2.1 p.2.2.1), (10, vi .i64 p.2.1)], [(36, .ar 3 1 p.1)]⟩) (fun p => a.length - p.2.2.2.2.2.1)
         (os0, i0, [], 3, List.replicate a.length 0, 0, 0) ⟨hos0, by simp only; (simp only [inR, cmpP, loOk, hiOk, Int.ofNat_eq_natCast, Int.negSucc_eq, IntKind.bits, Int.toNat_natCast, ge_iff_le, gt_iff_lt, ne_eq, wl_len, hl_len, natCast_fold, not_true_eq_false, not_false_eq_true] at * <;> omega), rfl, SI.start BH0 hb0, fun h => absurd h (Nat.lt_irrefl _)⟩ (by (refine Wk.of [(36, some 36)] rfl ?_ ?_; (· (repeat (first | exact trivial | (refine And.intro ?_ ?_; (· first | exact trivial | exact Or.inl ⟨_, rfl, rfl⟩ | exact ⟨_, rfl, rfl⟩ | exact Or.inr ⟨rfl, rfl, by decide⟩))))); (· (repeat (first | exact trivial | (refine And.intro ?_ ?_; (· first | exact trivial | exact Or.inl rfl | rfl | exact Or.inr ⟨_, _, _, _, rfl, rfl, rfl, renNo rfl⟩ | exact ⟨ne_no rfl, Or.inl ⟨_, rfl, rfl⟩⟩ | exact ⟨ne_no rfl, Or.inr ⟨rfl, _, rfl⟩⟩ | exact ⟨_, rfl, rfl, ne_no rfl⟩))))))) ?_
       rintro ⟨os, iz, rs', tr, q, k, r⟩ R ⟨hos, hiz, hrs', hm', htr⟩ hR
       simp only at hos hiz hrs' hm' htr
       have hlo : q.length = a.length := hm'.len
       have hlos : os.length = q.length := by rw [hos, hl_len]
       have hk := hm'.hk
       have hrlt := hm'.hr
       have hlr : (dg BH r).length ≤ b.length := dg_len BH2 (Nat.lt_trans hrlt (val_lt hb))
       have hlrs : rs'.length = (dg BH r).length := by rw [hrs', hl_len]
       cbv
       refine h.dec rfl (fun hp => ?_) (fun hp => ?_)
       · have hka : k < a.length := by (simp only [inR, cmpP, loOk, hiOk, Int.ofNat_eq_natCast, Int.negSucc_eq, IntKind.bits, Int.toNat_natCast, ge_iff_le, gt_iff_lt, ne_eq, wl_len, hl_len, natCast_fold, not_true_eq_false, not_false_eq_true] at * <;> omega)
         obtain ⟨at', hat⟩ : ∃ at', at' + 1 = a.length - k := ⟨a.length - k - 1, by omega⟩
         have hia : iz = (at' : Int) := by (simp only [inR, cmpP, loOk, hiOk, Int.ofNat_eq_natCast, Int.negSucc_eq, IntKind.bits, Int.toNat_natCast, ge_iff_le, gt_iff_lt, ne_eq, wl_len, hl_len, natCast_fold, not_true_eq_false, not_false_eq_true] at * <;> omega)
         obtain ⟨x, hgx⟩ := lt_get (ws := a) (i := at') (by omega)
         obtain ⟨z, hgy⟩ := lt_get (ws := q) (i := at') (by omega)
         have hx1 := ha.get hgx
         obtain ⟨hs, hqd⟩ := hm'.step hat hgx ha
         cbv
         refine h.get' at' _ hia (by rw [hx]; exact hl_get hgx) ?_
         cbv
         refine h.app' (by decide) (fun y hy => hl_one (hrs' ▸ hy)) (by simp [maxLen]; omega) (by simp; omega) fun zs hzs => ?_
         have hzs : zs = hl (x :: dg BH r) := by rw [hzs, hrs']; rfl
         have hzo : Ok BH (x :: dg BH r) := Ok.of hx1 (dg_ok BH2 _)
         cbv
         refine rtrim_s h hzs hzo (by simp; omega) fun rs2 hrs2 => ?_
         obtain ⟨rr, hrr⟩ : ∃ rr, rr = r * BH + x := ⟨_, rfl⟩
         have hvz : val BH (x :: dg BH r) = rr := by rw [val, dg_val BH2, hrr, Nat.mul_comm]; omega
         rw [hvz] at hrs2
         rw [← hrr] at hs hqd
         have hlr2 : (dg BH rr).length ≤ b.length + 1 := by
           rw [← hvz]
           refine Nat.le_trans (dg_len_val BH2 hzo) ?_
           simp; omega
         have hlrs2 : rs2.length = (dg BH rr).length := by rw [hrs2, hl_len]
         clear hzs hzo hvz
         cbv
         (refine Good.len' ‹_› ?_; intro _ _; cbv; refine Good.len' ‹_› ?_; intro _ _; cbv)
         refine h.dec rfl (fun hp => ?_) (fun hp => ?_)
         · have hbs : BS 0 1 rr (val BH b) := by
             refine ⟨by omega, ?_, by omega, by omega⟩
             have := lt_of_lenB BH0 (dg_ok BH2 rr) hcb (by (simp only [inR, cmpP, loOk, hiOk, Int.ofNat_eq_natCast, Int.negSucc_eq, IntKind.bits, Int.toNat_natCast, ge_iff_le, gt_iff_lt, ne_eq, wl_len, hl_len, natCast_fold, not_true_eq_false, not_false_eq_true] at * <;> omega))
             rw [dg_val BH2] at this
             omega
           (cbv
            refine h.loop' (Int × Int × Nat × Nat) (fun p => p.1 = (p.2.2.1 : Int) ∧ p.2.1 = (p.2.2.2 : Int) ∧ BS p.2.2.1 p.2.2.2 rr (val BH b) ∧ p.2.2.2 ≤ 65536)
              (fun p => ⟨[(0, vs t xs), (1, vs t' ys), (6, .ow 36), (9, vs 1 rs2), (10, vi .i64 iz), (11, vi .i64 p.1), (12, vi .i64 p.2.1)], [(36, .ar 3 1 os)]⟩) (fun p => p.2.2.2 - p.2.2.1) (0, 1, 0, 1) ⟨rfl, rfl, hbs, by show 1 ≤ 65536; decide⟩ (by (refine Wk.of [(36, some 36)] rfl ?_ ?_; (· (repeat (first | exact trivial | (refine And.intro ?_ ?_; (· first | exact trivial | exact Or.inl ⟨_, rfl, rfl⟩ | exact ⟨_, rfl, rfl⟩ | exact Or.inr ⟨rfl, rfl, by decide⟩))))); (· (repeat (first | exact trivial | (refine And.intro ?_ ?_; (· first | exact trivial | exact Or.inl rfl | rfl | exact Or.inr ⟨_, _, _, _, rfl, rfl, rfl, renNo rfl⟩ | exact ⟨ne_no rfl, Or.inl ⟨_, rfl, rfl⟩⟩ | exact ⟨ne_no rfl, Or.inr ⟨rfl, _, rfl⟩⟩ | exact ⟨_, rfl, rfl, ne_no rfl⟩))))))) ?_
            clear hbs
            rintro ⟨loz, hiz', lo, hi⟩ R2 ⟨hloz, hhiz, hbs, hb2⟩ hR2
            simp only at hloz hhiz hbs hb2
            have hb1 := hbs.lt
            cbv
            (refine Good.sub' ‹_› ?_ ?_; (· (simp only [inR, cmpP, loOk, hiOk, Int.ofNat_eq_natCast, Int.negSucc_eq, IntKind.bits, Int.toNat_natCast, ge_iff_le, gt_iff_lt, ne_eq, wl_len, hl_len, natCast_fold, not_true_eq_false, not_false_eq_true] at * <;> omega)); intro _ _; cbv)
            refine h.dec rfl (fun hp => ?_) (fun hp => ?_)
            · obtain ⟨mid, hmid⟩ : ∃ mid, mid = (lo + hi) / 2 := ⟨_, rfl⟩
              have hgap : lo + 1 < hi := by (simp only [inR, cmpP, loOk, hiOk, Int.ofNat_eq_natCast, Int.negSucc_eq, IntKind.bits, Int.toNat_natCast, ge_iff_le, gt_iff_lt, ne_eq, wl_len, hl_len, natCast_fold, not_true_eq_false, not_false_eq_true] at * <;> omega)
              cbv
              (refine Good.add' ‹_› ?_ ?_; (· (simp only [inR, cmpP, loOk, hiOk, Int.ofNat_eq_natCast, Int.negSucc_eq, IntKind.bits, Int.toNat_natCast, ge_iff_le, gt_iff_lt, ne_eq, wl_len, hl_len, natCast_fold, not_true_eq_false, not_false_eq_true] at * <;> omega)); intro _ _; cbv)
              refine h.quo' (by (simp only [inR, cmpP, loOk, hiOk, Int.ofNat_eq_natCast, Int.negSucc_eq, IntKind.bits, Int.toNat_natCast, ge_iff_le, gt_iff_lt, ne_eq, wl_len, hl_len, natCast_fold, not_true_eq_false, not_false_eq_true] at * <;> omega)) (by omega) (by (simp only [inR, cmpP, loOk, hiOk, Int.ofNat_eq_natCast, Int.negSucc_eq, IntKind.bits, Int.toNat_natCast, ge_iff_le, gt_iff_lt, ne_eq, wl_len, hl_len, natCast_fold, not_true_eq_false, not_false_eq_true] at * <;> omega)) fun mz hmz => ?_
              have hmz : mz = (mid : Int) := by (simp only [inR, cmpP, loOk, hiOk, Int.ofNat_eq_natCast, Int.negSucc_eq, IntKind.bits, Int.toNat_natCast, ge_iff_le, gt_iff_lt, ne_eq, wl_len, hl_len, natCast_fold, not_true_eq_false, not_false_eq_true] at * <;> omega)
              have hm1 : mid < hi := by omega
              have hm2 : lo < mid := by omega
              have hm3 : mid ≤ 4294967296 := by omega
              have hm4 : mid ≤ 65536 := by omega
              cbv
              refine times_s h mid hy hb (by omega) hmz (by omega) fun z1 hz1 => ?_
              have l1 : (dg BH (val BH b * mid)).length ≤ b.length + 1 := by
                refine dg_len BH2 ?_
                rw [Nat.pow_succ]
                exact Nat.mul_lt_mul'' (val_lt hb) (by rw [BH_eq]; omega)
              cbv
              refine rcmp_s h hz1 hrs2 (dg_ok BH2 _) (dg_ok BH2 _) (by omega) (by omega) fun c hc => ?_
              rw [dg_val BH2, dg_val BH2, Nat.mul_comm] at hc
              have h5 : c ≤ 0 ↔ mid * val BH b ≤ rr := by
                rw [hc]; unfold cmpV
                split
                · omega
                · split <;> omega
              cbv
              refine h.dec rfl (fun hp => ?_) (fun hp => ?_)
              · have : mid * val BH b ≤ rr := by (simp only [inR, cmpP, loOk, hiOk, Int.ofNat_eq_natCast, Int.negSucc_eq, IntKind.bits, Int.toNat_natCast, ge_iff_le, gt_iff_lt, ne_eq, wl_len, hl_len, natCast_fold, not_true_eq_false, not_false_eq_true] at * <;> omega)
                cbv
                skip
                refine hR2 _ (mz, hiz', mid, hi) ⟨hmz, hhiz, ⟨this, hbs.h, hm1, hbs.hi⟩, hb2⟩ (by simp only; omega) (by (refine Wk.of [(36, some 36)] rfl ?_ ?_; (· (repeat (first | exact trivial | (refine And.intro ?_ ?_; (· first | exact trivial | exact Or.inl ⟨_, rfl, rfl⟩ | exact ⟨_, rfl, rfl⟩ | exact Or.inr ⟨rfl, rfl, by decide⟩))))); (· (repeat (first | exact trivial | (refine And.intro ?_ ?_; (· first | exact trivial | exact Or.inl rfl | rfl | exact Or.inr ⟨_, _, _, _, rfl, rfl, rfl, renNo rfl⟩ | exact ⟨ne_no rfl, Or.inl ⟨_, rfl, rfl⟩⟩ | exact ⟨ne_no rfl, Or.inr ⟨rfl, _, rfl⟩⟩ | exact ⟨_, rfl, rfl, ne_no rfl⟩)))))))
              · have : rr < mid * val BH b := by (simp only [inR, cmpP, loOk, hiOk, Int.ofNat_eq_natCast, Int.negSucc_eq, IntKind.bits, Int.toNat_natCast, ge_iff_le, gt_iff_lt, ne_eq, wl_len, hl_len, natCast_fold, not_true_eq_false, not_false_eq_true] at * <;> omega)
                cbv
                skip
                refine hR2 _ (loz, mz, lo, mid) ⟨hloz, hmz, ⟨hbs.l, this, hm2, hm3⟩, hm4⟩ (by simp only; omega) (by (refine Wk.of [(36, some 36)] rfl ?_ ?_; (· (repeat (first | exact trivial | (refine And.intro ?_ ?_; (· first | exact trivial | exact Or.inl ⟨_, rfl, rfl⟩ | exact ⟨_, rfl, rfl⟩ | exact Or.inr ⟨rfl, rfl, by decide⟩))))); (· (repeat (first | exact trivial | (refine And.intro ?_ ?_; (· first | exact trivial | exact Or.inl rfl | rfl | exact Or.inr ⟨_, _, _, _, rfl, rfl, rfl, renNo rfl⟩ | exact ⟨ne_no rfl, Or.inl ⟨_, rfl, rfl⟩⟩ | exact ⟨ne_no rfl, Or.inr ⟨rfl, _, rfl⟩⟩ | exact ⟨_, rfl, rfl, ne_no rfl⟩)))))))
            · have hlq : rr / val BH b = lo := hbs.end (by (simp only [inR, cmpP, loOk, hiOk, Int.ofNat_eq_natCast, Int.negSucc_eq, IntKind.bits, Int.toNat_natCast, ge_iff_le, gt_iff_lt, ne_eq, wl_len, hl_len, natCast_fold, not_true_eq_false, not_false_eq_true] at * <;> omega))
              have hll := hbs.l
              have hrm : rr % val BH b = rr - lo * val BH b := by
                have := Nat.div_add_mod rr (val BH b)
                rw [hlq, Nat.mul_comm] at this
                omega
              rw [hlq] at hs
              rw [hrm] at hs
              have hlB : lo < 65536 := by omega
              have l1 : (dg BH (val BH b * lo)).length ≤ b.length + 1 := by
                refine dg_len BH2 ?_
                rw [Nat.pow_succ]
                exact Nat.mul_lt_mul'' (val_lt hb) (by rw [BH_eq]; omega)
              cbv
              skip
              refine times_s h lo hy hb (by omega) hloz (by omega) fun z1 hz1 => ?_
              cbv
              refine rsub_s h hrs2 hz1 (dg_ok BH2 _) (dg_ok BH2 _) (by omega) (by omega) (by rw [dg_val BH2, dg_val BH2, Nat.mul_comm]; exact hll) fun z4 hz4 => ?_
              rw [dg_val BH2, dg_val BH2, Nat.mul_comm] at hz4
              cbv
              refine h.inb' at' (by omega) (by omega) fun j2 hj2 => ?_
              cbv
              refine h.put' _ _ (by rw [hj2, hos]; exact hl_get hgy) rfl (by rfl) fun os2 hos2 => ?_
              cbv
              (refine Good.sub' ‹_› ?_ ?_; (· (simp only [inR, cmpP, loOk, hiOk, Int.ofNat_eq_natCast, Int.negSucc_eq, IntKind.bits, Int.toNat_natCast, ge_iff_le, gt_iff_lt, ne_eq, wl_len, hl_len, natCast_fold, not_true_eq_false, not_false_eq_true] at * <;> omega)); intro _ _; cbv)
              rename_i i1 hi1
              refine hR _ (os2, i1, z4, 1, q.set at' lo, k + 1, rr - lo * val BH b) ⟨?_, by simp only; (simp only [inR, cmpP, loOk, hiOk, Int.ofNat_eq_natCast, Int.negSucc_eq, IntKind.bits, Int.toNat_natCast, ge_iff_le, gt_iff_lt, ne_eq, wl_len, hl_len, natCast_fold, not_true_eq_false, not_false_eq_true] at * <;> omega), hz4, hs, fun _ => rfl⟩ (by simp only; omega) (by (refine Wk.of [(36, some 36)] rfl ?_ ?_; (· (repeat (first | exact trivial | (refine And.intro ?_ ?_; (· first | exact trivial | exact Or.inl ⟨_, rfl, rfl⟩ | exact ⟨_, rfl, rfl⟩ | exact Or.inr ⟨rfl, rfl, by decide⟩))))); (· (repeat (first | exact trivial | (refine And.intro ?_ ?_; (· first | exact trivial | exact Or.inl rfl | rfl | exact Or.inr ⟨_, _, _, _, rfl, rfl, rfl, renNo rfl⟩ | exact ⟨ne_no rfl, Or.inl ⟨_, rfl, rfl⟩⟩ | exact ⟨ne_no rfl, Or.inr ⟨rfl, _, rfl⟩⟩ | exact ⟨_, rfl, rfl, ne_no rfl⟩)))))))
              show os2 = _
              rw [hos2, hj2, hloz, hos, ← hl_set]; rfl
           )
         · have hbs : BS 0 65536 rr (val BH b) := by
             refine ⟨by omega, ?_, by omega, by omega⟩
             have := (Nat.div_lt_iff_lt_mul hb0).1 hqd
             rwa [BH_eq] at this
           (cbv
            refine h.loop' (Int × Int × Nat × Nat) (fun p => p.1 = (p.2.2.1 : Int) ∧ p.2.1 = (p.2.2.2 : Int) ∧ BS p.2.2.1 p.2.2.2 rr (val BH b) ∧ p.2.2.2 ≤ 65536)
              (fun p => ⟨[(0, vs t xs), (1, vs t' ys), (6, .ow 36), (9, vs 1 rs2), (10, vi .i64 iz), (11, vi .i64 p.1), (12, vi .i64 p.2.1)], [(36, .ar 3 1 os)]⟩) (fun p => p.2.2.2 - p.2.2.1) (0, 65536, 0, 65536) ⟨rfl, rfl, hbs, by show 65536 ≤ 65536; decide⟩ (by (refine Wk.of [(36, some 36)] rfl ?_ ?_; (· (repeat (first | exact trivial | (refine And.intro ?_ ?_; (· first | exact trivial | exact Or.inl ⟨_, rfl, rfl⟩ | exact ⟨_, rfl, rfl⟩ | exact Or.inr ⟨rfl, rfl, by decide⟩))))); (· (repeat (first | exact trivial | (refine And.intro ?_ ?_; (· first | exact trivial | exact Or.inl rfl | rfl | exact Or.inr ⟨_, _, _, _, rfl, rfl, rfl, renNo rfl⟩ | exact ⟨ne_no rfl, Or.inl ⟨_, rfl, rfl⟩⟩ | exact ⟨ne_no rfl, Or.inr ⟨rfl, _, rfl⟩⟩ | exact ⟨_, rfl, rfl, ne_no rfl⟩))))))) ?_
            clear hbs
            rintro ⟨loz, hiz', lo, hi⟩ R2 ⟨hloz, hhiz, hbs, hb2⟩ hR2
            simp only at hloz hhiz hbs hb2
            have hb1 := hbs.lt
            cbv
            (refine Good.sub' ‹_› ?_ ?_; (· (simp only [inR, cmpP, loOk, hiOk, Int.ofNat_eq_natCast, Int.negSucc_eq, IntKind.bits, Int.toNat_natCast, ge_iff_le, gt_iff_lt, ne_eq, wl_len, hl_len, natCast_fold, not_true_eq_false, not_false_eq_true] at * <;> omega)); intro _ _; cbv)
            refine h.dec rfl (fun hp => ?_) (fun hp => ?_)
            · obtain ⟨mid, hmid⟩ : ∃ mid, mid = (lo + hi) / 2 := ⟨_, rfl⟩
              have hgap : lo + 1 < hi := by (simp only [inR, cmpP, loOk, hiOk, Int.ofNat_eq_natCast, Int.negSucc_eq, IntKind.bits, Int.toNat_natCast, ge_iff_le, gt_iff_lt, ne_eq, wl_len, hl_len, natCast_fold, not_true_eq_false, not_false_eq_true] at * <;> omega)
              cbv
              (refine Good.add' ‹_› ?_ ?_; (· (simp only [inR, cmpP, loOk, hiOk, Int.ofNat_eq_natCast, Int.negSucc_eq, IntKind.bits, Int.toNat_natCast, ge_iff_le, gt_iff_lt, ne_eq, wl_len, hl_len, natCast_fold, not_true_eq_false, not_false_eq_true] at * <;> omega)); intro _ _; cbv)
              refine h.quo' (by (simp only [inR, cmpP, loOk, hiOk, Int.ofNat_eq_natCast, Int.negSucc_eq, IntKind.bits, Int.toNat_natCast, ge_iff_le, gt_iff_lt, ne_eq, wl_len, hl_len, natCast_fold, not_true_eq_false, not_false_eq_true] at * <;> omega)) (by omega) (by (simp only [inR, cmpP, loOk, hiOk, Int.ofNat_eq_natCast, Int.negSucc_eq, IntKind.bits, Int.toNat_natCast, ge_iff_le, gt_iff_lt, ne_eq, wl_len, hl_len, natCast_fold, not_true_eq_false, not_false_eq_true] at * <;> omega)) fun mz hmz => ?_
              have hmz : mz = (mid : Int) := by (simp only [inR, cmpP, loOk, hiOk, Int.ofNat_eq_natCast, Int.negSucc_eq, IntKind.bits, Int.toNat_natCast, ge_iff_le, gt_iff_lt, ne_eq, wl_len, hl_len, natCast_fold, not_true_eq_false, not_false_eq_true] at * <;> omega)
              have hm1 : mid < hi := by omega
              have hm2 : lo < mid := by omega
              have hm3 : mid ≤ 4294967296 := by omega
              have hm4 : mid ≤ 65536 := by omega
              cbv
              refine times_s h mid hy hb (by omega) hmz (by omega) fun z1 hz1 => ?_
              have l1 : (dg BH (val BH b * mid)).length ≤ b.length + 1 := by
                refine dg_len BH2 ?_
                rw [Nat.pow_succ]
                exact Nat.mul_lt_mul'' (val_lt hb) (by rw [BH_eq]; omega)
              cbv
              refine rcmp_s h hz1 hrs2 (dg_ok BH2 _) (dg_ok BH2 _) (by omega) (by omega) fun c hc => ?_
              rw [dg_val BH2, dg_val BH2, Nat.mul_comm] at hc
              have h5 : c ≤ 0 ↔ mid * val BH b ≤ rr := by
                rw [hc]; unfold cmpV
                split
                · omega
                · split <;> omega
              cbv
              refine h.dec rfl (fun hp => ?_) (fun hp => ?_)
              · have : mid * val BH b ≤ rr := by (simp only [inR, cmpP, loOk, hiOk, Int.ofNat_eq_natCast, Int.negSucc_eq, IntKind.bits, Int.toNat_natCast, ge_iff_le, gt_iff_lt, ne_eq, wl_len, hl_len, natCast_fold, not_true_eq_false, not_false_eq_true] at * <;> omega)
                cbv
                skip
                refine hR2 _ (mz, hiz', mid, hi) ⟨hmz, hhiz, ⟨this, hbs.h, hm1, hbs.hi⟩, hb2⟩ (by simp only; omega) (by (refine Wk.of [(36, some 36)] rfl ?_ ?_; (· (repeat (first | exact trivial | (refine And.intro ?_ ?_; (· first | exact trivial | exact Or.inl ⟨_, rfl, rfl⟩ | exact ⟨_, rfl, rfl⟩ | exact Or.inr ⟨rfl, rfl, by decide⟩))))); (· (repeat (first | exact trivial | (refine And.intro ?_ ?_; (· first | exact trivial | exact Or.inl rfl | rfl | exact Or.inr ⟨_, _, _, _, rfl, rfl, rfl, renNo rfl⟩ | exact ⟨ne_no rfl, Or.inl ⟨_, rfl, rfl⟩⟩ | exact ⟨ne_no rfl, Or.inr ⟨rfl, _, rfl⟩⟩ | exact ⟨_, rfl, rfl, ne_no rfl⟩)))))))
              · have : rr < mid * val BH b := by (simp only [inR, cmpP, loOk, hiOk, Int.ofNat_eq_natCast, Int.negSucc_eq, IntKind.bits, Int.toNat_natCast, ge_iff_le, gt_iff_lt, ne_eq, wl_len, hl_len, natCast_fold, not_true_eq_false, not_false_eq_true] at * <;> omega)
                cbv
                skip
                refine hR2 _ (loz, mz, lo, mid) ⟨hloz, hmz, ⟨hbs.l, this, hm2, hm3⟩, hm4⟩ (by simp only; omega) (by (refine Wk.of [(36, some 36)] rfl ?_ ?_; (· (repeat (first | exact trivial | (refine And.intro ?_ ?_; (· first | exact trivial | exact Or.inl ⟨_, rfl, rfl⟩ | exact ⟨_, rfl, rfl⟩ | exact Or.inr ⟨rfl, rfl, by decide⟩))))); (· (repeat (first | exact trivial | (refine And.intro ?_ ?_; (· first | exact trivial | exact Or.inl rfl | rfl | exact Or.inr ⟨_, _, _, _, rfl, rfl, rfl, renNo rfl⟩ | exact ⟨ne_no rfl, Or.inl ⟨_, rfl, rfl⟩⟩ | exact ⟨ne_no rfl, Or.inr ⟨rfl, _, rfl⟩⟩ | exact ⟨_, rfl, rfl, ne_no rfl⟩)))))))
            · have hlq : rr / val BH b = lo := hbs.end (by (simp only [inR, cmpP, loOk, hiOk, Int.ofNat_eq_natCast, Int.negSucc_eq, IntKind.bits, Int.toNat_natCast, ge_iff_le, gt_iff_lt, ne_eq, wl_len, hl_len, natCast_fold, not_true_eq_false, not_false_eq_true] at * <;> omega))
              have hll := hbs.l
              have hrm : rr % val BH b = rr - lo * val BH b := by
                have := Nat.div_add_mod rr (val BH b)
                rw [hlq, Nat.mul_comm] at this
                omega
              rw [hlq] at hs
              rw [hrm] at hs
              have hlB : lo < 65536 := by omega
              have l1 : (dg BH (val BH b * lo)).length ≤ b.length + 1 := by
                refine dg_len BH2 ?_
                rw [Nat.pow_succ]
                exact Nat.mul_lt_mul'' (val_lt hb) (by rw [BH_eq]; omega)
              cbv
              skip
              refine times_s h lo hy hb (by omega) hloz (by omega) fun z1 hz1 => ?_
              cbv
              refine rsub_s h hrs2 hz1 (dg_ok BH2 _) (dg_ok BH2 _) (by omega) (by omega) (by rw [dg_val BH2, dg_val BH2, Nat.mul_comm]; exact hll) fun z4 hz4 => ?_
              rw [dg_val BH2, dg_val BH2, Nat.mul_comm] at hz4
              cbv
              refine h.inb' at' (by omega) (by omega) fun j2 hj2 => ?_
              cbv
              refine h.put' _ _ (by rw [hj2, hos]; exact hl_get hgy) rfl (by rfl) fun os2 hos2 => ?_
              cbv
              (refine Good.sub' ‹_› ?_ ?_; (· (simp only [inR, cmpP, loOk, hiOk, Int.ofNat_eq_natCast, Int.negSucc_eq, IntKind.bits, Int.toNat_natCast, ge_iff_le, gt_iff_lt, ne_eq, wl_len, hl_len, natCast_fold, not_true_eq_false, not_false_eq_true] at * <;> omega)); intro _ _; cbv)
              rename_i i1 hi1
              refine hR _ (os2, i1, z4, 1, q.set at' lo, k + 1, rr - lo * val BH b) ⟨?_, by simp only; (simp only [inR, cmpP, loOk, hiOk, Int.ofNat_eq_natCast, Int.negSucc_eq, IntKind.bits, Int.toNat_natCast, ge_iff_le, gt_iff_lt, ne_eq, wl_len, hl_len, natCast_fold, not_true_eq_false, not_false_eq_true] at * <;> omega), hz4, hs, fun _ => rfl⟩ (by simp only; omega) (by (refine Wk.of [(36, some 36)] rfl ?_ ?_; (· (repeat (first | exact trivial | (refine And.intro ?_ ?_; (· first | exact trivial | exact Or.inl ⟨_, rfl, rfl⟩ | exact ⟨_, rfl, rfl⟩ | exact Or.inr ⟨rfl, rfl, by decide⟩))))); (· (repeat (first | exact trivial | (refine And.intro ?_ ?_; (· first | exact trivial | exact Or.inl rfl | rfl | exact Or.inr ⟨_, _, _, _, rfl, rfl, rfl, renNo rfl⟩ | exact ⟨ne_no rfl, Or.inl ⟨_, rfl, rfl⟩⟩ | exact ⟨ne_no rfl, Or.inr ⟨rfl, _, rfl⟩⟩ | exact ⟨_, rfl, rfl, ne_no rfl⟩)))))))
              show os2 = _
              rw [hos2, hj2, hloz, hos, ← hl_set]; rfl
           )
       · have hka : k = a.length := by (simp only [inR, cmpP, loOk, hiOk, Int.ofNat_eq_natCast, Int.negSucc_eq, IntKind.bits, Int.toNat_natCast, ge_iff_le, gt_iff_lt, ne_eq, wl_len, hl_len, natCast_fold, not_true_eq_false, not_false_eq_true] at * <;> omega)
         rw [hka] at hm'
         obtain ⟨hd1, hd2⟩ := hm'.fin hb0
         cbv
         refine rtrim_s h hos hm'.ok (by omega) fun us hu => ?_
         rw [hd1, ← hq] at hu
         have e : rs' = rs := by rw [hr, ← hd2, hrs']
         rw [hu, e]
         cbv
         refine hQ _ ⟨SubV.refl _, SubD.one ?_, trivial⟩
         rcases Nat.eq_zero_or_pos k with hk0 | hk0
         · left
           have ha0 : a = [] := List.eq_nil_of_length_eq_zero (by omega)
           have : val BH a = 0 := by rw [ha0]; rfl
           rw [hr, this, Nat.zero_mod]; rfl
         · exact .inr (htr hk0)
    )
theorem rdiv_s {π : Pi} (h : Good TT π) {K : List DV → Prop} {t t' : Nat} {a b : List Nat} {xs ys : List (List D)} (hx : xs = hl a) (hy : ys = hl b) (ha : Ok BH a) (hb : Ok BH b) (hcb : Can b) (hb0 : 0 < val BH b) (hla : a.length ≤ 400000) (hlb : b.length ≤ 400000)
    (hk : ∀ qs rs, qs = hl (dg BH (val BH a / val BH b)) → rs = hl (dg BH (val BH a % val BH b)) → K [.one (.sl 1 1 qs), .one (.sl 1 1 rs)]) : π.call 126 [.one (.sl t 1 xs), .one (.sl t' 1 ys)] K :=
  h.call' _ (rdiv_c ha hb hcb hb0 hla hlb hx hy rfl rfl) (hk _ _ rfl rfl)
end Go.Proofs.YtpmlocilhhjifaaGreat.Eng
