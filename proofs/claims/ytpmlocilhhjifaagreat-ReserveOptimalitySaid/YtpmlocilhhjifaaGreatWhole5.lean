/- Package whole: div. -/
import Derived.Test.YtpmlocilhhjifaaGreatWhole4
set_option maxRecDepth 100000
set_option linter.unusedSimpArgs false
set_option linter.unusedVariables false
set_option pp.maxSteps 200
namespace Go.Proofs.YtpmlocilhhjifaaGreat.Eng
open Go.RowKit
structure BS (lo hi rr d : Nat) : Prop where
  l : lo * d ≤ rr
  h : rr < hi * d
  lt : lo < hi
  hi : hi ≤ 4294967296
theorem BS.end {lo hi rr d : Nat} (h : BS lo hi rr d) (he : hi ≤ lo + 1) : rr / d = lo := by
  have h1 := h.l
  have h2 := h.h
  have : hi = lo + 1 := by have := h.lt; omega
  rw [this] at h2
  exact Nat.div_eq_of_lt_le h1 h2
theorem val_one (B x : Nat) : val B [x] = x := by simp [val]
theorem lt_of_len {u v : List Nat} (hu : Ok BW u) (hv : Can v) (hlt : u.length < v.length) : val BW u < val BW v := by
  have h1 := val_lt hu
  have h2 := val_ge_of_can BW0 hv (by rintro rfl; simp at hlt)
  have h3 : BW ^ u.length ≤ BW ^ (v.length - 1) := Nat.pow_le_pow_right BW0 (by omega)
  omega
theorem div_c {t t' : Nat} {a b : List Nat} {xs ys qs rs : List (List D)} (ha : Ok BW a) (hb : Ok BW b) (hcb : Can b) (hb0 : 0 < val BW b) (hla : a.length ≤ 100000) (hlb : b.length ≤ 100000) (hx : xs = wl a) (hy : ys = wl b)
    (hq : qs = wl (dg BW (val BW a / val BW b))) (hr : rs = wl (dg BW (val BW a % val BW b))) :
    TT 121 [.one (.sl t 1 xs), .one (.sl t' 1 ys)] [.one (.sl 1 1 qs), .one (.sl 1 1 rs)] := by
  refine con' Tryz.func121 rfl (by kernel_rfl) (by kernel_rfl) fun π Q h hQ => ?_
  have hlx : xs.length = a.length := by rw [hx, wl_len]
  have hly : ys.length = b.length := by rw [hy, wl_len]
  cbv
  (refine Good.len' ‹_› ?_; intro _ _; cbv)
  refine h.dec rfl (fun hp => ?_) (fun hp => ?_)
  · have hb1 : b.length = 1 := by (simp only [inR, cmpP, loOk, hiOk, Int.ofNat_eq_natCast, Int.negSucc_eq, IntKind.bits, Int.toNat_natCast, ge_iff_le, gt_iff_lt, ne_eq, wl_len, hl_len, natCast_fold, not_true_eq_false, not_false_eq_true] at * <;> omega)
    obtain ⟨y, rfl⟩ : ∃ y, b = [y] := by
      cases b with
      | nil => simp at hb1
      | cons y r => cases r with
        | nil => exact ⟨y, rfl⟩
        | cons _ _ => simp at hb1
    have hy1 := hb y (by simp)
    rw [val_one] at hb0 hq hr
    rw [BW_eq] at hy1
    cbv
    refine h.get' 0 [D.sc (.int .u32 (y : Int))] (by omega) (by rw [hy]; rfl) ?_
    cbv
    (refine Good.convi ‹_› ?_ ?_; (· (simp only [inR, cmpP, loOk, hiOk, Int.ofNat_eq_natCast, Int.negSucc_eq, IntKind.bits, Int.toNat_natCast, ge_iff_le, gt_iff_lt, ne_eq, wl_len, hl_len, natCast_fold, not_true_eq_false, not_false_eq_true] at * <;> omega)); cbv)
    refine small_s h hx ha (by omega) rfl hb0 (by rw [BW_eq]; exact hy1) fun us m hus hm => ?_
    cbv
    have hlt2 : val BW a % y < 4294967296 := by have := Nat.mod_lt (val BW a) hb0; omega
    (refine Good.convi ‹_› ?_ ?_; (· (simp only [inR, cmpP, loOk, hiOk, Int.ofNat_eq_natCast, Int.negSucc_eq, IntKind.bits, Int.toNat_natCast, ge_iff_le, gt_iff_lt, ne_eq, wl_len, hl_len, natCast_fold, not_true_eq_false, not_false_eq_true] at * <;> omega)); cbv)
    subst hm
    refine trim_s h (ws := [val BW a % y]) rfl (Ok.of (by rw [BW_eq]; exact hlt2) Ok.nil) (by simp) fun vs' hvs => ?_
    cbv
    rw [hvs, val_one, ← hr, hus, ← hq]
    exact hQ _ (SubVs.refl _)
  · cbv
    (refine Good.len' ‹_› ?_; intro _ _; cbv)
    refine h.mks' a.length (by (simp only [inR, cmpP, loOk, hiOk, Int.ofNat_eq_natCast, Int.negSucc_eq, IntKind.bits, Int.toNat_natCast, ge_iff_le, gt_iff_lt, ne_eq, wl_len, hl_len, natCast_fold, not_true_eq_false, not_false_eq_true] at * <;> omega)) (by (simp only [inR, cmpP, loOk, hiOk, Int.ofNat_eq_natCast, Int.negSucc_eq, IntKind.bits, Int.toNat_natCast, ge_iff_le, gt_iff_lt, ne_eq, wl_len, hl_len, natCast_fold, not_true_eq_false, not_false_eq_true] at * <;> omega)) (by omega) (by simp [maxLen]; omega) (by simp) fun os0 hos0 => ?_
    have hos0 : os0 = wl (List.replicate a.length 0) := by rw [hos0, ← wl_rep]; rfl
    cbv
    (refine Good.len' ‹_› ?_; intro _ _; cbv)
    rename_i la hla'
    refine h.loop' (List (List D) × Int × List (List D) × Nat × List Nat × Nat × Nat) (fun p => p.1 = wl p.2.2.2.2.1 ∧ p.2.1 = (p.2.2.2.2.2.1 : Int) ∧ p.2.2.1 = wl (dg BW p.2.2.2.2.2.2) ∧ SmallI a (val BW b) p.2.2.2.2.1 p.2.2.2.2.2.1 p.2.2.2.2.2.2 ∧ (0 < p.2.2.2.2.2.1 → p.2.2.2.1 = 1))
      (fun p => ⟨[(0, vs t xs), (1, vs t' ys), (4, .ow 32), (5, vs p.2.2.2.1 p.2.2.1), (34, vi .i64 la), (35, vi .i64 p.2.1)], [(32, .ar 56 1 p.1)]⟩) (fun p => a.length - p.2.2.2.2.2.1)
      (os0, 0, [], 3, List.replicate a.length 0, 0, 0) ⟨hos0, rfl, rfl, ⟨Ok.rep BW0, by simp, Nat.zero_le _, hb0, ?_⟩, fun h => absurd h (Nat.lt_irrefl _)⟩ (by (refine Wk.of [(32, some 32)] rfl ?_ ?_; (· (repeat (first | exact trivial | (refine And.intro ?_ ?_; (· first | exact trivial | exact Or.inl ⟨_, rfl, rfl⟩ | exact ⟨_, rfl, rfl⟩ | exact Or.inr ⟨rfl, rfl, by decide⟩))))); (· (repeat (first | exact trivial | (refine And.intro ?_ ?_; (· first | exact trivial | exact Or.inl rfl | rfl | exact Or.inr ⟨_, _, _, _, rfl, rfl, rfl, renNo rfl⟩ | exact ⟨ne_no rfl, Or.inl ⟨_, rfl, rfl⟩⟩ | exact ⟨ne_no rfl, Or.inr ⟨rfl, _, rfl⟩⟩ | exact ⟨_, rfl, rfl, ne_no rfl⟩))))))) ?_
    · simp only [Nat.sub_zero, List.drop_length]
      rw [List.drop_eq_nil_of_le (by simp)]
      simp [val]
    rintro ⟨os, kz, rs', tr, q, k, r⟩ R ⟨hos, hkz, hrs', hm', htr⟩ hR
    simp only at hos hkz hrs' hm' htr
    have hlo : q.length = a.length := hm'.len
    have hlos : os.length = q.length := by rw [hos, wl_len]
    have hk := hm'.hk
    have hrlt := hm'.hr
    have hlr : (dg BW r).length ≤ b.length := dg_len BW2 (Nat.lt_trans hrlt (val_lt hb))
    have hlrs : rs'.length = (dg BW r).length := by rw [hrs', wl_len]
    cbv
    refine h.dec rfl (fun hp => ?_) (fun hp => ?_)
    · have hka : k < a.length := by (simp only [inR, cmpP, loOk, hiOk, Int.ofNat_eq_natCast, Int.negSucc_eq, IntKind.bits, Int.toNat_natCast, ge_iff_le, gt_iff_lt, ne_eq, wl_len, hl_len, natCast_fold, not_true_eq_false, not_false_eq_true] at * <;> omega)
      obtain ⟨at', hat⟩ : ∃ at', at' + 1 = a.length - k := ⟨a.length - k - 1, by omega⟩
      obtain ⟨x, hgx⟩ := lt_get (ws := a) (i := at') (by omega)
      obtain ⟨y, hgy⟩ := lt_get (ws := q) (i := at') (by omega)
      have hx1 := ha.get hgx
      obtain ⟨hs, hqd⟩ := hm'.step hat hgx ha
      cbv
      (refine Good.len' ‹_› ?_; intro _ _; cbv; refine Good.sub' ‹_› ?_ ?_; (· (simp only [inR, cmpP, loOk, hiOk, Int.ofNat_eq_natCast, Int.negSucc_eq, IntKind.bits, Int.toNat_natCast, ge_iff_le, gt_iff_lt, ne_eq, wl_len, hl_len, natCast_fold, not_true_eq_false, not_false_eq_true] at * <;> omega)); intro _ _; cbv; refine Good.sub' ‹_› ?_ ?_; (· (simp only [inR, cmpP, loOk, hiOk, Int.ofNat_eq_natCast, Int.negSucc_eq, IntKind.bits, Int.toNat_natCast, ge_iff_le, gt_iff_lt, ne_eq, wl_len, hl_len, natCast_fold, not_true_eq_false, not_false_eq_true] at * <;> omega)); intro _ _; cbv)
      rename_i atz hatz
      refine h.get' at' _ (by (simp only [inR, cmpP, loOk, hiOk, Int.ofNat_eq_natCast, Int.negSucc_eq, IntKind.bits, Int.toNat_natCast, ge_iff_le, gt_iff_lt, ne_eq, wl_len, hl_len, natCast_fold, not_true_eq_false, not_false_eq_true] at * <;> omega)) (by rw [hx]; exact wl_get hgx) ?_
      cbv
      refine h.app' (by decide) (fun y hy => wl_one (hrs' ▸ hy)) (by simp [maxLen]; omega) (by simp; omega) fun zs hzs => ?_
      have hzs : zs = wl (x :: dg BW r) := by rw [hzs, hrs']; rfl
      have hzo : Ok BW (x :: dg BW r) := Ok.of hx1 (dg_ok BW2 _)
      cbv
      refine trim_s h hzs hzo (by simp; omega) fun rs2 hrs2 => ?_
      obtain ⟨rr, hrr⟩ : ∃ rr, rr = r * BW + x := ⟨_, rfl⟩
      have hvz : val BW (x :: dg BW r) = rr := by rw [val, dg_val BW2, hrr, Nat.mul_comm]; omega
      rw [hvz] at hrs2
      rw [← hrr] at hs hqd
      have hlr2 : (dg BW rr).length ≤ b.length + 1 := by
        rw [← hvz]
        refine Nat.le_trans (dg_len_val BW2 hzo) ?_
        simp; omega
      have hlrs2 : rs2.length = (dg BW rr).length := by rw [hrs2, wl_len]
      clear hzs hzo hvz
      cbv
      (refine Good.len' ‹_› ?_; intro _ _; cbv; refine Good.len' ‹_› ?_; intro _ _; cbv)
      rename_i lr hlr' lb hlb'
      refine h.dec rfl (fun hp => ?_) (fun hp => ?_)
      · have hbs : BS 0 1 rr (val BW b) := by
          refine ⟨by omega, ?_, by omega, by omega⟩
          have := lt_of_len (dg_ok BW2 rr) hcb (by (simp only [inR, cmpP, loOk, hiOk, Int.ofNat_eq_natCast, Int.negSucc_eq, IntKind.bits, Int.toNat_natCast, ge_iff_le, gt_iff_lt, ne_eq, wl_len, hl_len, natCast_fold, not_true_eq_false, not_false_eq_true] at * <;> omega))
          rw [dg_val BW2] at this
          omega
        (cbv
         refine h.loop' (Int × Int × Nat × Nat) (fun p => p.1 = (p.2.2.1 : Int) ∧ p.2.1 = (p.2.2.2 : Int) ∧ BS p.2.2.1 p.2.2.2 rr (val BW b))
           (fun p => ⟨[(0, vs t xs), (1, vs t' ys), (4, .ow 32), (5, vs 1 rs2), (34, vi .i64 la), (35, vi .i64 kz), (8, vi .i64 kz), (9, vi .i64 atz), (10, vi .u64 p.1), (11, vi .u64 p.2.1)], [(32, .ar 56 1 os)]⟩) (fun p => p.2.2.2 - p.2.2.1) (0, 1, 0, 1) ⟨rfl, rfl, hbs⟩ (by (refine Wk.of [(32, some 32)] rfl ?_ ?_; (· (repeat (first | exact trivial | (refine And.intro ?_ ?_; (· first | exact trivial | exact Or.inl ⟨_, rfl, rfl⟩ | exact ⟨_, rfl, rfl⟩ | exact Or.inr ⟨rfl, rfl, by decide⟩))))); (· (repeat (first | exact trivial | (refine And.intro ?_ ?_; (· first | exact trivial | exact Or.inl rfl | rfl | exact Or.inr ⟨_, _, _, _, rfl, rfl, rfl, renNo rfl⟩ | exact ⟨ne_no rfl, Or.inl ⟨_, rfl, rfl⟩⟩ | exact ⟨ne_no rfl, Or.inr ⟨rfl, _, rfl⟩⟩ | exact ⟨_, rfl, rfl, ne_no rfl⟩))))))) ?_
         clear hbs
         rintro ⟨loz, hiz, lo, hi⟩ R2 ⟨hloz, hhiz, hbs⟩ hR2
         simp only at hloz hhiz hbs
         have hb1 := hbs.lt
         have hb2 := hbs.hi
         cbv
         (refine Good.sub' ‹_› ?_ ?_; (· (simp only [inR, cmpP, loOk, hiOk, Int.ofNat_eq_natCast, Int.negSucc_eq, IntKind.bits, Int.toNat_natCast, ge_iff_le, gt_iff_lt, ne_eq, wl_len, hl_len, natCast_fold, not_true_eq_false, not_false_eq_true] at * <;> omega)); intro _ _; cbv)
         refine h.dec rfl (fun hp => ?_) (fun hp => ?_)
         · obtain ⟨mid, hmid⟩ : ∃ mid, mid = (lo + hi) / 2 := ⟨_, rfl⟩
           have hgap : lo + 1 < hi := by (simp only [inR, cmpP, loOk, hiOk, Int.ofNat_eq_natCast, Int.negSucc_eq, IntKind.bits, Int.toNat_natCast, ge_iff_le, gt_iff_lt, ne_eq, wl_len, hl_len, natCast_fold, not_true_eq_false, not_false_eq_true] at * <;> omega)
           cbv
           (refine Good.add' ‹_› ?_ ?_; (· (simp only [inR, cmpP, loOk, hiOk, Int.ofNat_eq_natCast, Int.negSucc_eq, IntKind.bits, Int.toNat_natCast, ge_iff_le, gt_iff_lt, ne_eq, wl_len, hl_len, natCast_fold, not_true_eq_false, not_false_eq_true] at * <;> omega)); intro _ _; cbv)
           refine h.quo' (by (simp only [inR, cmpP, loOk, hiOk, Int.ofNat_eq_natCast, Int.negSucc_eq, IntKind.bits, Int.toNat_natCast, ge_iff_le, gt_iff_lt, ne_eq, wl_len, hl_len, natCast_fold, not_true_eq_false, not_false_eq_true] at * <;> omega)) (by omega) (by (simp only [inR, cmpP, loOk, hiOk, Int.ofNat_eq_natCast, Int.negSucc_eq, IntKind.bits, Int.toNat_natCast, ge_iff_le, gt_iff_lt, ne_eq, wl_len, hl_len, natCast_fold, not_true_eq_false, not_false_eq_true] at * <;> omega)) fun mz hmz => ?_
           have hmz : mz = (mid : Int) := by (simp only [inR, cmpP, loOk, hiOk, Int.ofNat_eq_natCast, Int.negSucc_eq, IntKind.bits, Int.toNat_natCast, ge_iff_le, gt_iff_lt, ne_eq, wl_len, hl_len, natCast_fold, not_true_eq_false, not_false_eq_true] at * <;> omega)
           have hmB : mid < BW := by rw [BW_eq]; omega
           have hm1 : mid < hi := by omega
           have hm2 : lo < mid := by omega
           have hm3 : mid ≤ 4294967296 := by omega
           cbv
           (refine Good.convi ‹_› ?_ ?_; (· (simp only [inR, cmpP, loOk, hiOk, Int.ofNat_eq_natCast, Int.negSucc_eq, IntKind.bits, Int.toNat_natCast, ge_iff_le, gt_iff_lt, ne_eq, wl_len, hl_len, natCast_fold, not_true_eq_false, not_false_eq_true] at * <;> omega)); cbv)
           have hmo : Ok BW [mid] := Ok.of hmB Ok.nil
           refine mul_s h hy (b := [mid]) (by rw [hmz]; rfl) hb hmo (by omega) (by simp) fun o1 z1 h1 h2 h3 h4 => ?_
           rw [val_one] at h4
           have h3' : o1.length = b.length + 1 := by rw [h3]; rfl
           cbv
           refine trim_s h h1 h2 (by omega) fun z2 hz2 => ?_
           have hl2 := dg_len_val BW2 h2
           cbv
           refine cmp_s h hz2 hrs2 (dg_ok BW2 _) (dg_ok BW2 _) (dg_can BW2 _) (dg_can BW2 _) (by omega) (by omega) fun c h5 h6 => ?_
           rw [dg_val BW2, dg_val BW2, h4] at h5 h6
           rw [Nat.mul_comm] at h5 h6
           cbv
           refine h.dec rfl (fun hp => ?_) (fun hp => ?_)
           · have : mid * val BW b ≤ rr := by (simp only [inR, cmpP, loOk, hiOk, Int.ofNat_eq_natCast, Int.negSucc_eq, IntKind.bits, Int.toNat_natCast, ge_iff_le, gt_iff_lt, ne_eq, wl_len, hl_len, natCast_fold, not_true_eq_false, not_false_eq_true] at * <;> omega)
             cbv
             refine hR2 _ (mz, hiz, mid, hi) ⟨hmz, hhiz, ⟨this, hbs.h, hm1, hb2⟩⟩ (by simp only; omega) (by (refine Wk.of [(32, some 32)] rfl ?_ ?_; (· (repeat (first | exact trivial | (refine And.intro ?_ ?_; (· first | exact trivial | exact Or.inl ⟨_, rfl, rfl⟩ | exact ⟨_, rfl, rfl⟩ | exact Or.inr ⟨rfl, rfl, by decide⟩))))); (· (repeat (first | exact trivial | (refine And.intro ?_ ?_; (· first | exact trivial | exact Or.inl rfl | rfl | exact Or.inr ⟨_, _, _, _, rfl, rfl, rfl, renNo rfl⟩ | exact ⟨ne_no rfl, Or.inl ⟨_, rfl, rfl⟩⟩ | exact ⟨ne_no rfl, Or.inr ⟨rfl, _, rfl⟩⟩ | exact ⟨_, rfl, rfl, ne_no rfl⟩)))))))
           · have : rr < mid * val BW b := by (simp only [inR, cmpP, loOk, hiOk, Int.ofNat_eq_natCast, Int.negSucc_eq, IntKind.bits, Int.toNat_natCast, ge_iff_le, gt_iff_lt, ne_eq, wl_len, hl_len, natCast_fold, not_true_eq_false, not_false_eq_true] at * <;> omega)
             cbv
             refine hR2 _ (loz, mz, lo, mid) ⟨hloz, hmz, ⟨hbs.l, this, hm2, hm3⟩⟩ (by simp only; omega) (by (refine Wk.of [(32, some 32)] rfl ?_ ?_; (· (repeat (first | exact trivial | (refine And.intro ?_ ?_; (· first | exact trivial | exact Or.inl ⟨_, rfl, rfl⟩ | exact ⟨_, rfl, rfl⟩ | exact Or.inr ⟨rfl, rfl, by decide⟩))))); (· (repeat (first | exact trivial | (refine And.intro ?_ ?_; (· first | exact trivial | exact Or.inl rfl | rfl | exact Or.inr ⟨_, _, _, _, rfl, rfl, rfl, renNo rfl⟩ | exact ⟨ne_no rfl, Or.inl ⟨_, rfl, rfl⟩⟩ | exact ⟨ne_no rfl, Or.inr ⟨rfl, _, rfl⟩⟩ | exact ⟨_, rfl, rfl, ne_no rfl⟩)))))))
         · have hlq : rr / val BW b = lo := hbs.end (by (simp only [inR, cmpP, loOk, hiOk, Int.ofNat_eq_natCast, Int.negSucc_eq, IntKind.bits, Int.toNat_natCast, ge_iff_le, gt_iff_lt, ne_eq, wl_len, hl_len, natCast_fold, not_true_eq_false, not_false_eq_true] at * <;> omega))
           have hll := hbs.l
           have hrm : rr % val BW b = rr - lo * val BW b := by
             have := Nat.div_add_mod rr (val BW b)
             rw [hlq, Nat.mul_comm] at this
             omega
           rw [hlq] at hs
           rw [hrm] at hs
           have hlB : lo < BW := by rw [BW_eq]; omega
           cbv
           (refine Good.convi ‹_› ?_ ?_; (· (simp only [inR, cmpP, loOk, hiOk, Int.ofNat_eq_natCast, Int.negSucc_eq, IntKind.bits, Int.toNat_natCast, ge_iff_le, gt_iff_lt, ne_eq, wl_len, hl_len, natCast_fold, not_true_eq_false, not_false_eq_true] at * <;> omega)); cbv)
           refine h.inb' at' (by (simp only [inR, cmpP, loOk, hiOk, Int.ofNat_eq_natCast, Int.negSucc_eq, IntKind.bits, Int.toNat_natCast, ge_iff_le, gt_iff_lt, ne_eq, wl_len, hl_len, natCast_fold, not_true_eq_false, not_false_eq_true] at * <;> omega)) (by omega) fun j2 hj2 => ?_
           cbv
           refine h.put' _ _ (by rw [hj2, hos]; exact wl_get hgy) rfl (by rfl) fun os2 hos2 => ?_
           cbv
           (refine Good.convi ‹_› ?_ ?_; (· (simp only [inR, cmpP, loOk, hiOk, Int.ofNat_eq_natCast, Int.negSucc_eq, IntKind.bits, Int.toNat_natCast, ge_iff_le, gt_iff_lt, ne_eq, wl_len, hl_len, natCast_fold, not_true_eq_false, not_false_eq_true] at * <;> omega)); cbv)
           refine mul_s h hy (b := [lo]) (by rw [hloz]; rfl) hb (Ok.of hlB Ok.nil) (by omega) (by simp) fun o1 z1 h1 h2 h3 h4 => ?_
           rw [val_one] at h4
           have h3' : o1.length = b.length + 1 := by rw [h3]; rfl
           cbv
           refine trim_s h h1 h2 (by omega) fun z2 hz2 => ?_
           have hl2 := dg_len_val BW2 h2
           cbv
           refine sub_s h hrs2 hz2 (dg_ok BW2 _) (dg_ok BW2 _) (by omega) (by omega) (by rw [dg_val BW2, dg_val BW2, h4, Nat.mul_comm]; exact hll) fun o3 z3 h5 h6 h7 h8 => ?_
           rw [dg_val BW2, dg_val BW2, h4, Nat.mul_comm] at h8
           cbv
           refine trim_s h h5 h6 (by omega) fun z4 hz4 => ?_
           rw [h8] at hz4
           cbv
           (refine Good.add' ‹_› ?_ ?_; (· (simp only [inR, cmpP, loOk, hiOk, Int.ofNat_eq_natCast, Int.negSucc_eq, IntKind.bits, Int.toNat_natCast, ge_iff_le, gt_iff_lt, ne_eq, wl_len, hl_len, natCast_fold, not_true_eq_false, not_false_eq_true] at * <;> omega)); intro _ _; cbv)
           rename_i k1 hk1
           refine hR _ (os2, k1, z4, 1, q.set at' lo, k + 1, rr - lo * val BW b) ⟨?_, by (simp only [inR, cmpP, loOk, hiOk, Int.ofNat_eq_natCast, Int.negSucc_eq, IntKind.bits, Int.toNat_natCast, ge_iff_le, gt_iff_lt, ne_eq, wl_len, hl_len, natCast_fold, not_true_eq_false, not_false_eq_true] at * <;> omega), hz4, hs, fun _ => rfl⟩ (by simp only; omega) (by (refine Wk.of [(32, some 32)] rfl ?_ ?_; (· (repeat (first | exact trivial | (refine And.intro ?_ ?_; (· first | exact trivial | exact Or.inl ⟨_, rfl, rfl⟩ | exact ⟨_, rfl, rfl⟩ | exact Or.inr ⟨rfl, rfl, by decide⟩))))); (· (repeat (first | exact trivial | (refine And.intro ?_ ?_; (· first | exact trivial | exact Or.inl rfl | rfl | exact Or.inr ⟨_, _, _, _, rfl, rfl, rfl, renNo rfl⟩ | exact ⟨ne_no rfl, Or.inl ⟨_, rfl, rfl⟩⟩ | exact ⟨ne_no rfl, Or.inr ⟨rfl, _, rfl⟩⟩ | exact ⟨_, rfl, rfl, ne_no rfl⟩)))))))
           rw [hos2, hj2, hloz, hos, ← wl_set]; rfl
        )
      · have hbs : BS 0 4294967296 rr (val BW b) := by
          refine ⟨by omega, ?_, by omega, by omega⟩
          have := (Nat.div_lt_iff_lt_mul hb0).1 hqd
          rwa [BW_eq] at this
        (cbv
         refine h.loop' (Int × Int × Nat × Nat) (fun p => p.1 = (p.2.2.1 : Int) ∧ p.2.1 = (p.2.2.2 : Int) ∧ BS p.2.2.1 p.2.2.2 rr (val BW b))
           (fun p => ⟨[(0, vs t xs), (1, vs t' ys), (4, .ow 32), (5, vs 1 rs2), (34, vi .i64 la), (35, vi .i64 kz), (8, vi .i64 kz), (9, vi .i64 atz), (10, vi .u64 p.1), (11, vi .u64 p.2.1)], [(32, .ar 56 1 os)]⟩) (fun p => p.2.2.2 - p.2.2.1) (0, 4294967296, 0, 4294967296) ⟨rfl, rfl, hbs⟩ (by (refine Wk.of [(32, some 32)] rfl ?_ ?_; (· (repeat (first | exact trivial | (refine And.intro ?_ ?_; (· first | exact trivial | exact Or.inl ⟨_, rfl, rfl⟩ | exact ⟨_, rfl, rfl⟩ | exact Or.inr ⟨rfl, rfl, by decide⟩))))); (· (repeat (first | exact trivial | (refine And.intro ?_ ?_; (· first | exact trivial | exact Or.inl rfl | rfl | exact Or.inr ⟨_, _, _, _, rfl, rfl, rfl, renNo rfl⟩ | exact ⟨ne_no rfl, Or.inl ⟨_, rfl, rfl⟩⟩ | exact ⟨ne_no rfl, Or.inr ⟨rfl, _, rfl⟩⟩ | exact ⟨_, rfl, rfl, ne_no rfl⟩))))))) ?_
         clear hbs
         rintro ⟨loz, hiz, lo, hi⟩ R2 ⟨hloz, hhiz, hbs⟩ hR2
         simp only at hloz hhiz hbs
         have hb1 := hbs.lt
         have hb2 := hbs.hi
         cbv
         (refine Good.sub' ‹_› ?_ ?_; (· (simp only [inR, cmpP, loOk, hiOk, Int.ofNat_eq_natCast, Int.negSucc_eq, IntKind.bits, Int.toNat_natCast, ge_iff_le, gt_iff_lt, ne_eq, wl_len, hl_len, natCast_fold, not_true_eq_false, not_false_eq_true] at * <;> omega)); intro _ _; cbv)
         refine h.dec rfl (fun hp => ?_) (fun hp => ?_)
         · obtain ⟨mid, hmid⟩ : ∃ mid, mid = (lo + hi) / 2 := ⟨_, rfl⟩
           have hgap : lo + 1 < hi := by (simp only [inR, cmpP, loOk, hiOk, Int.ofNat_eq_natCast, Int.negSucc_eq, IntKind.bits, Int.toNat_natCast, ge_iff_le, gt_iff_lt, ne_eq, wl_len, hl_len, natCast_fold, not_true_eq_false, not_false_eq_true] at * <;> omega)
           cbv
           (refine Good.add' ‹_› ?_ ?_; (· (simp only [inR, cmpP, loOk, hiOk, Int.ofNat_eq_natCast, Int.negSucc_eq, IntKind.bits, Int.toNat_natCast, ge_iff_le, gt_iff_lt, ne_eq, wl_len, hl_len, natCast_fold, not_true_eq_false, not_false_eq_true] at * <;> omega)); intro _ _; cbv)
           refine h.quo' (by (simp only [inR, cmpP, loOk, hiOk, Int.ofNat_eq_natCast, Int.negSucc_eq, IntKind.bits, Int.toNat_natCast, ge_iff_le, gt_iff_lt, ne_eq, wl_len, hl_len, natCast_fold, not_true_eq_false, not_false_eq_true] at * <;> omega)) (by omega) (by (simp only [inR, cmpP, loOk, hiOk, Int.ofNat_eq_natCast, Int.negSucc_eq, IntKind.bits, Int.toNat_natCast, ge_iff_le, gt_iff_lt, ne_eq, wl_len, hl_len, natCast_fold, not_true_eq_false, not_false_eq_true] at * <;> omega)) fun mz hmz => ?_
           have hmz : mz = (mid : Int) := by (simp only [inR, cmpP, loOk, hiOk, Int.ofNat_eq_natCast, Int.negSucc_eq, IntKind.bits, Int.toNat_natCast, ge_iff_le, gt_iff_lt, ne_eq, wl_len, hl_len, natCast_fold, not_true_eq_false, not_false_eq_true] at * <;> omega)
           have hmB : mid < BW := by rw [BW_eq]; omega
           have hm1 : mid < hi := by omega
           have hm2 : lo < mid := by omega
           have hm3 : mid ≤ 4294967296 := by omega
           cbv
           (refine Good.convi ‹_› ?_ ?_; (· (simp only [inR, cmpP, loOk, hiOk, Int.ofNat_eq_natCast, Int.negSucc_eq, IntKind.bits, Int.toNat_natCast, ge_iff_le, gt_iff_lt, ne_eq, wl_len, hl_len, natCast_fold, not_true_eq_false, not_false_eq_true] at * <;> omega)); cbv)
           have hmo : Ok BW [mid] := Ok.of hmB Ok.nil
           refine mul_s h hy (b := [mid]) (by rw [hmz]; rfl) hb hmo (by omega) (by simp) fun o1 z1 h1 h2 h3 h4 => ?_
           rw [val_one] at h4
           have h3' : o1.length = b.length + 1 := by rw [h3]; rfl
           cbv
           refine trim_s h h1 h2 (by omega) fun z2 hz2 => ?_
           have hl2 := dg_len_val BW2 h2
           cbv
           refine cmp_s h hz2 hrs2 (dg_ok BW2 _) (dg_ok BW2 _) (dg_can BW2 _) (dg_can BW2 _) (by omega) (by omega) fun c h5 h6 => ?_
           rw [dg_val BW2, dg_val BW2, h4] at h5 h6
           rw [Nat.mul_comm] at h5 h6
           cbv
           refine h.dec rfl (fun hp => ?_) (fun hp => ?_)
           · have : mid * val BW b ≤ rr := by (simp only [inR, cmpP, loOk, hiOk, Int.ofNat_eq_natCast, Int.negSucc_eq, IntKind.bits, Int.toNat_natCast, ge_iff_le, gt_iff_lt, ne_eq, wl_len, hl_len, natCast_fold, not_true_eq_false, not_false_eq_true] at * <;> omega)
             cbv
             refine hR2 _ (mz, hiz, mid, hi) ⟨hmz, hhiz, ⟨this, hbs.h, hm1, hb2⟩⟩ (by simp only; omega) (by (refine Wk.of [(32, some 32)] rfl ?_ ?_; (· (repeat (first | exact trivial | (refine And.intro ?_ ?_; (· first | exact trivial | exact Or.inl ⟨_, rfl, rfl⟩ | exact ⟨_, rfl, rfl⟩ | exact Or.inr ⟨rfl, rfl, by decide⟩))))); (· (repeat (first | exact trivial | (refine And.intro ?_ ?_; (· first | exact trivial | exact Or.inl rfl | rfl | exact Or.inr ⟨_, _, _, _, rfl, rfl, rfl, renNo rfl⟩ | exact ⟨ne_no rfl, Or.inl ⟨_, rfl, rfl⟩⟩ | exact ⟨ne_no rfl, Or.inr ⟨rfl, _, rfl⟩⟩ | exact ⟨_, rfl, rfl, ne_no rfl⟩)))))))
           · have : rr < mid * val BW b := by (simp only [inR, cmpP, loOk, hiOk, Int.ofNat_eq_natCast, Int.negSucc_eq, IntKind.bits, Int.toNat_natCast, ge_iff_le, gt_iff_lt, ne_eq, wl_len, hl_len, natCast_fold, not_true_eq_false, not_false_eq_true] at * <;> omega)
             cbv
             refine hR2 _ (loz, mz, lo, mid) ⟨hloz, hmz, ⟨hbs.l, this, hm2, hm3⟩⟩ (by simp only; omega) (by (refine Wk.of [(32, some 32)] rfl ?_ ?_; (· (repeat (first | exact trivial | (refine And.intro ?_ ?_; (· first | exact trivial | exact Or.inl ⟨_, rfl, rfl⟩ | exact ⟨_, rfl, rfl⟩ | exact Or.inr ⟨rfl, rfl, by decide⟩))))); (· (repeat (first | exact trivial | (refine And.intro ?_ ?_; (· first | exact trivial | exact Or.inl rfl | rfl | exact Or.inr ⟨_, _, _, _, rfl, rfl, rfl, renNo rfl⟩ | exact ⟨ne_no rfl, Or.inl ⟨_, rfl, rfl⟩⟩ | exact ⟨ne_no rfl, Or.inr ⟨rfl, _, rfl⟩⟩ | exact ⟨_, rfl, rfl, ne_no rfl⟩)))))))
         · have hlq : rr / val BW b = lo := hbs.end (by (simp only [inR, cmpP, loOk, hiOk, Int.ofNat_eq_natCast, Int.negSucc_eq, IntKind.bits, Int.toNat_natCast, ge_iff_le, gt_iff_lt, ne_eq, wl_len, hl_len, natCast_fold, not_true_eq_false, not_false_eq_true] at * <;> omega))
           have hll := hbs.l
           have hrm : rr % val BW b = rr - lo * val BW b := by
             have := Nat.div_add_mod rr (val BW b)
             rw [hlq, Nat.mul_comm] at this
             omega
           rw [hlq] at hs
           rw [hrm] at hs
           have hlB : lo < BW := by rw [BW_eq]; omega
           cbv
           (refine Good.convi ‹_› ?_ ?_; (· (simp only [inR, cmpP, loOk, hiOk, Int.ofNat_eq_natCast, Int.negSucc_eq, IntKind.bits, Int.toNat_natCast, ge_iff_le, gt_iff_lt, ne_eq, wl_len, hl_len, natCast_fold, not_true_eq_false, not_false_eq_true] at * <;> omega)); cbv)
           refine h.inb' at' (by (simp only [inR, cmpP, loOk, hiOk, Int.ofNat_eq_natCast, Int.negSucc_eq, IntKind.bits, Int.toNat_natCast, ge_iff_le, gt_iff_lt, ne_eq, wl_len, hl_len, natCast_fold, not_true_eq_false, not_false_eq_true] at * <;> omega)) (by omega) fun j2 hj2 => ?_
           cbv
           refine h.put' _ _ (by rw [hj2, hos]; exact wl_get hgy) rfl (by rfl) fun os2 hos2 => ?_
           cbv
           (refine Good.convi ‹_› ?_ ?_; (· (simp only [inR, cmpP, loOk, hiOk, Int.ofNat_eq_natCast, Int.negSucc_eq, IntKind.bits, Int.toNat_natCast, ge_iff_le, gt_iff_lt, ne_eq, wl_len, hl_len, natCast_fold, not_true_eq_false, not_false_eq_true] at * <;> omega)); cbv)
           refine mul_s h hy (b := [lo]) (by rw [hloz]; rfl) hb (Ok.of hlB Ok.nil) (by omega) (by simp) fun o1 z1 h1 h2 h3 h4 => ?_
           rw [val_one] at h4
           have h3' : o1.length = b.length + 1 := by rw [h3]; rfl
           cbv
           refine trim_s h h1 h2 (by omega) fun z2 hz2 => ?_
           have hl2 := dg_len_val BW2 h2
           cbv
           refine sub_s h hrs2 hz2 (dg_ok BW2 _) (dg_ok BW2 _) (by omega) (by omega) (by rw [dg_val BW2, dg_val BW2, h4, Nat.mul_comm]; exact hll) fun o3 z3 h5 h6 h7 h8 => ?_
           rw [dg_val BW2, dg_val BW2, h4, Nat.mul_comm] at h8
           cbv
           refine trim_s h h5 h6 (by omega) fun z4 hz4 => ?_
           rw [h8] at hz4
           cbv
           (refine Good.add' ‹_› ?_ ?_; (· (simp only [inR, cmpP, loOk, hiOk, Int.ofNat_eq_natCast, Int.negSucc_eq, IntKind.bits, Int.toNat_natCast, ge_iff_le, gt_iff_lt, ne_eq, wl_len, hl_len, natCast_fold, not_true_eq_false, not_false_eq_true] at * <;> omega)); intro _ _; cbv)
           rename_i k1 hk1
           refine hR _ (os2, k1, z4, 1, q.set at' lo, k + 1, rr - lo * val BW b) ⟨?_, by (simp only [inR, cmpP, loOk, hiOk, Int.ofNat_eq_natCast, Int.negSucc_eq, IntKind.bits, Int.toNat_natCast, ge_iff_le, gt_iff_lt, ne_eq, wl_len, hl_len, natCast_fold, not_true_eq_false, not_false_eq_true] at * <;> omega), hz4, hs, fun _ => rfl⟩ (by simp only; omega) (by (refine Wk.of [(32, some 32)] rfl ?_ ?_; (· (repeat (first | exact trivial | (refine And.intro ?_ ?_; (· first | exact trivial | exact Or.inl ⟨_, rfl, rfl⟩ | exact ⟨_, rfl, rfl⟩ | exact Or.inr ⟨rfl, rfl, by decide⟩))))); (· (repeat (first | exact trivial | (refine And.intro ?_ ?_; (· first | exact trivial | exact Or.inl rfl | rfl | exact Or.inr ⟨_, _, _, _, rfl, rfl, rfl, renNo rfl⟩ | exact ⟨ne_no rfl, Or.inl ⟨_, rfl, rfl⟩⟩ | exact ⟨ne_no rfl, Or.inr ⟨rfl, _, rfl⟩⟩ | exact ⟨_, rfl, rfl, ne_no rfl⟩)))))))
           rw [hos2, hj2, hloz, hos, ← wl_set]; rfl
        )
    · have hka : k = a.length := by (simp only [inR, cmpP, loOk, hiOk, Int.ofNat_eq_natCast, Int.negSucc_eq, IntKind.bits, Int.toNat_natCast, ge_iff_le, gt_iff_lt, ne_eq, wl_len, hl_len, natCast_fold, not_true_eq_false, not_false_eq_true] at * <;> omega)
      have hv := hm'.v
      rw [hka, Nat.sub_self, List.drop_zero, List.drop_zero] at hv
      have hd1 : val BW q = val BW a / val BW b := by rw [hv, Nat.mul_add_div hb0, Nat.div_eq_of_lt hrlt, Nat.add_zero]
      have hd2 : r = val BW a % val BW b := by rw [hv, Nat.mul_add_mod, Nat.mod_eq_of_lt hrlt]
      cbv
      refine trim_s h hos hm'.ok (by omega) fun us hu => ?_
      cbv
      have e : rs' = rs := by rw [hr, ← hd2, hrs']
      rw [hu, hd1, ← hq, e]
      refine hQ _ ⟨SubV.refl _, SubD.one ?_, trivial⟩
      rcases Nat.eq_zero_or_pos k with hk0 | hk0
      · left
        have ha0 : a = [] := List.eq_nil_of_length_eq_zero (by omega)
        have : val BW a = 0 := by rw [ha0]; rfl
        rw [hr, this, Nat.zero_mod]; rfl
      · exact .inr (htr hk0)
theorem div_s {π : Pi} (h : Good TT π) {K : List DV → Prop} {t t' : Nat} {a b : List Nat} {xs ys : List (List D)} (hx : xs = wl a) (hy : ys = wl b) (ha : Ok BW a) (hb : Ok BW b) (hcb : Can b) (hb0 : 0 < val BW b) (hla : a.length ≤ 100000) (hlb : b.length ≤ 100000)
    (hk : ∀ qs rs, qs = wl (dg BW (val BW a / val BW b)) → rs = wl (dg BW (val BW a % val BW b)) → K [.one (.sl 1 1 qs), .one (.sl 1 1 rs)]) : π.call 121 [.one (.sl t 1 xs), .one (.sl t' 1 ys)] K :=
  h.call' _ (div_c ha hb hcb hb0 hla hlb hx hy rfl rfl) (hk _ _ rfl rfl)
end Go.Proofs.YtpmlocilhhjifaaGreat.Eng
