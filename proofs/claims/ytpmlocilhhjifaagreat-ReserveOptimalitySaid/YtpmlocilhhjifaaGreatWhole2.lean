/- Package whole: mul. -/
import Derived.Test.YtpmlocilhhjifaaGreatWhole1
set_option maxRecDepth 100000
set_option linter.unusedSimpArgs false
set_option linter.unusedVariables false
set_option pp.maxSteps 200
namespace Go.Proofs.YtpmlocilhhjifaaGreat.Eng
open Go.RowKit
theorem wrap_u32 {a : Nat} : IntKind.wrap .u32 (a : Int) = ((a % BW : Nat) : Int) := by
  rw [wrap_u rfl, BW_eq]; simp only [IntKind.bits]; omega
/-- What mul's two loops hold. -/
structure MulI (a b o : List Nat) (i k carry x : Nat) : Prop where
  ok : Ok BW o
  len : o.length = a.length + b.length
  c : carry < BW
  tail : ∀ j y, i + b.length ≤ j → o[j]? = some y → y = 0
  v : val BW o + BW ^ (i + k) * carry = val BW (a.take i) * val BW b + BW ^ i * (x * val BW (b.take k))
theorem MulI.step {a b o : List Nat} {i k carry x y z : Nat} (h : MulI a b o i k carry x) (hx : x < BW) (hy : b[k]? = some y) (hz : o[i + k]? = some z) (hb : Ok BW b) :
    carry + (x * y + z) < BW * BW ∧ MulI a b (o.set (i + k) ((carry + (x * y + z)) % BW)) i (k + 1) ((carry + (x * y + z)) / BW) x := by
  have hy1 := hb.get hy
  have hz1 := h.ok.get hz
  have hc := h.c
  have hkb : k < b.length := (List.getElem?_eq_some_iff.1 hy).1
  have h1 : carry + (x * y + z) < BW * BW := by
    have : x * y ≤ (BW - 1) * (BW - 1) := Nat.mul_le_mul (by omega) (by omega)
    simp only [BW_eq] at *
    omega
  refine ⟨h1, ⟨h.ok.set (Nat.mod_lt _ BW0), by rw [List.length_set]; exact h.len, Nat.div_lt_of_lt_mul h1, fun j w hj hw => ?_, ?_⟩⟩
  · rw [List.getElem?_set_ne (by omega)] at hw
    exact h.tail j w hj hw
  · have e1 := val_set BW o (i + k) ((carry + (x * y + z)) % BW) z hz
    have e2 := val_take_succ BW hy
    have e3 := h.v
    have e4 := Nat.div_add_mod (carry + (x * y + z)) BW
    generalize (carry + (x * y + z)) % BW = m at *
    generalize (carry + (x * y + z)) / BW = q at *
    rw [e2]
    rw [← Nat.add_assoc i k 1, Nat.pow_succ]
    generalize val BW (o.set (i + k) m) = vo' at *
    generalize val BW o = vo at *
    rw [Nat.pow_add] at *
    generalize BW ^ i = P at *
    generalize BW ^ k = R at *
    grind
theorem MulI.next {a b o : List Nat} {i carry x : Nat} (h : MulI a b o i b.length carry x) (hx : a[i]? = some x) :
    MulI a b (o.set (i + b.length) carry) (i + 1) 0 0 0 := by
  have hi : i < a.length := (List.getElem?_eq_some_iff.1 hx).1
  obtain ⟨z, hz⟩ := lt_get (ws := o) (i := i + b.length) (by rw [h.len]; omega)
  have hz0 := h.tail _ z (Nat.le_refl _) hz
  subst hz0
  refine ⟨h.ok.set h.c, by rw [List.length_set]; exact h.len, BW0, fun j w hj hw => ?_, ?_⟩
  · rw [List.getElem?_set_ne (by omega)] at hw
    exact h.tail j w (by omega) hw
  · have e1 := val_set BW o (i + b.length) carry 0 hz
    have e2 := val_take_succ BW hx
    have e3 := h.v
    rw [List.take_length] at e3
    rw [e2]
    simp only [List.take_zero, val]
    grind
theorem mul_c {t t' : Nat} {a b : List Nat} {xs ys zs : List (List D)} (ha : Ok BW a) (hb : Ok BW b) (hla : a.length ≤ 1000000) (hlb : b.length ≤ 1000000) (hx : xs = wl a) (hy : ys = wl b) (hz : zs = wl (pd BW (a.length + b.length) (val BW a * val BW b))) :
    TT 69 [.one (.sl t 1 xs), .one (.sl t' 1 ys)] [.one (.sl 1 1 zs)] := by
  refine con Tryz.func69 rfl (by kernel_rfl) (by kernel_rfl) fun π Q h hQ => ?_
  have hlx : xs.length = a.length := by rw [hx, wl_len]
  have hly : ys.length = b.length := by rw [hy, wl_len]
  cbv
  (refine Good.len' ‹_› ?_; intro _ _; cbv; refine Good.len' ‹_› ?_; intro _ _; cbv; refine Good.add' ‹_› ?_ ?_; (· (simp only [inR, cmpP, loOk, hiOk, Int.ofNat_eq_natCast, Int.negSucc_eq, IntKind.bits, Int.toNat_natCast, ge_iff_le, gt_iff_lt, ne_eq, wl_len, hl_len, natCast_fold, not_true_eq_false, not_false_eq_true] at * <;> omega)); intro _ _; cbv)
  refine h.mks' (a.length + b.length) (by (simp only [inR, cmpP, loOk, hiOk, Int.ofNat_eq_natCast, Int.negSucc_eq, IntKind.bits, Int.toNat_natCast, ge_iff_le, gt_iff_lt, ne_eq, wl_len, hl_len, natCast_fold, not_true_eq_false, not_false_eq_true] at * <;> omega)) (by (simp only [inR, cmpP, loOk, hiOk, Int.ofNat_eq_natCast, Int.negSucc_eq, IntKind.bits, Int.toNat_natCast, ge_iff_le, gt_iff_lt, ne_eq, wl_len, hl_len, natCast_fold, not_true_eq_false, not_false_eq_true] at * <;> omega)) (by omega) (by simp [maxLen]; omega) (by simp) fun os0 hos0 => ?_
  have hos0 : os0 = wl (List.replicate (a.length + b.length) 0) := by rw [hos0, ← wl_rep]; rfl
  cbv
  (refine Good.len' ‹_› ?_; intro _ _; cbv)
  rename_i la hla'
  refine h.loop' (List (List D) × Int × List Nat × Nat) (fun p => p.1 = wl p.2.2.1 ∧ p.2.1 = (p.2.2.2 : Int) ∧ p.2.2.2 ≤ a.length ∧ MulI a b p.2.2.1 p.2.2.2 0 0 0)
    (fun p => ⟨[(0, vs t xs), (1, vs t' ys), (5, .ow 16), (17, vs t xs), (18, vi .i64 la), (19, vi .i64 p.2.1)], [(16, .ar 56 1 p.1)]⟩) (fun p => a.length - p.2.2.2)
    (os0, 0, List.replicate (a.length + b.length) 0, 0) ⟨hos0, rfl, Nat.zero_le _, ⟨Ok.rep BW0, by simp, BW0, fun j y _ hj => List.eq_of_mem_replicate (List.mem_of_getElem? hj), by simp [val, val_rep0]⟩⟩ (by (refine Wk.of [(16, some 16)] rfl ?_ ?_; (· (repeat (first | exact trivial | (refine And.intro ?_ ?_; (· first | exact trivial | exact Or.inl ⟨_, rfl, rfl⟩ | exact ⟨_, rfl, rfl⟩ | exact Or.inr ⟨rfl, rfl, by decide⟩))))); (· (repeat (first | exact trivial | (refine And.intro ?_ ?_; (· first | exact trivial | exact Or.inl rfl | rfl | exact Or.inr ⟨_, _, _, _, rfl, rfl, rfl, renNo rfl⟩ | exact ⟨ne_no rfl, Or.inl ⟨_, rfl, rfl⟩⟩ | exact ⟨ne_no rfl, Or.inr ⟨rfl, _, rfl⟩⟩ | exact ⟨_, rfl, rfl, ne_no rfl⟩))))))) ?_
  rintro ⟨os, iz, o, i⟩ R ⟨hos, hiz, hi, hm⟩ hR
  simp only at hos hiz hi hm
  have hlo : o.length = a.length + b.length := hm.len
  have hlos : os.length = o.length := by rw [hos, wl_len]
  cbv
  refine h.dec rfl (fun hp => ?_) (fun hp => ?_)
  · have hia : i < a.length := by (simp only [inR, cmpP, loOk, hiOk, Int.ofNat_eq_natCast, Int.negSucc_eq, IntKind.bits, Int.toNat_natCast, ge_iff_le, gt_iff_lt, ne_eq, wl_len, hl_len, natCast_fold, not_true_eq_false, not_false_eq_true] at * <;> omega)
    obtain ⟨x, hgx⟩ := lt_get hia
    have hx1 := ha.get hgx
    cbv
    refine h.get' i _ hiz (by rw [hx]; exact wl_get hgx) ?_
    cbv
    (refine Good.len' ‹_› ?_; intro _ _; cbv)
    rename_i lb hlb'
    refine h.loop' (List (List D) × Int × Int × List Nat × Nat × Nat) (fun p => p.1 = wl p.2.2.2.1 ∧ p.2.1 = (p.2.2.2.2.1 : Int) ∧ p.2.2.1 = (p.2.2.2.2.2 : Int) ∧ p.2.2.2.2.1 ≤ b.length ∧ MulI a b p.2.2.2.1 i p.2.2.2.2.1 p.2.2.2.2.2 x)
      (fun p => ⟨[(0, vs t xs), (1, vs t' ys), (5, .ow 16), (17, vs t xs), (18, vi .i64 la), (19, vi .i64 iz), (6, vi .i64 iz), (7, vi .u32 x), (8, vi .u64 p.2.2.1), (24, vs t' ys), (25, vi .i64 lb), (26, vi .i64 p.2.1)], [(16, .ar 56 1 p.1)]⟩) (fun p => b.length - p.2.2.2.2.1)
      (os, 0, 0, o, 0, 0) ⟨hos, rfl, rfl, Nat.zero_le _, ⟨hm.ok, hm.len, hm.c, hm.tail, by have := hm.v; simp [val] at this ⊢; exact this⟩⟩ (by (refine Wk.of [(16, some 16)] rfl ?_ ?_; (· (repeat (first | exact trivial | (refine And.intro ?_ ?_; (· first | exact trivial | exact Or.inl ⟨_, rfl, rfl⟩ | exact ⟨_, rfl, rfl⟩ | exact Or.inr ⟨rfl, rfl, by decide⟩))))); (· (repeat (first | exact trivial | (refine And.intro ?_ ?_; (· first | exact trivial | exact Or.inl rfl | rfl | exact Or.inr ⟨_, _, _, _, rfl, rfl, rfl, renNo rfl⟩ | exact ⟨ne_no rfl, Or.inl ⟨_, rfl, rfl⟩⟩ | exact ⟨ne_no rfl, Or.inr ⟨rfl, _, rfl⟩⟩ | exact ⟨_, rfl, rfl, ne_no rfl⟩))))))) ?_
    clear hm hlo hos hlos
    rintro ⟨os, kz, cz, o, k, c⟩ R2 ⟨hos, hkz, hcz, hk, hm⟩ hR2
    simp only at hos hkz hcz hk hm
    have hlo : o.length = a.length + b.length := hm.len
    have hlos : os.length = o.length := by rw [hos, wl_len]
    cbv
    refine h.dec rfl (fun hp => ?_) (fun hp => ?_)
    · have hkb : k < b.length := by (simp only [inR, cmpP, loOk, hiOk, Int.ofNat_eq_natCast, Int.negSucc_eq, IntKind.bits, Int.toNat_natCast, ge_iff_le, gt_iff_lt, ne_eq, wl_len, hl_len, natCast_fold, not_true_eq_false, not_false_eq_true] at * <;> omega)
      obtain ⟨y, hgy⟩ := lt_get hkb
      have hy1 := hb.get hgy
      obtain ⟨z, hgz⟩ := lt_get (ws := o) (i := i + k) (by omega)
      have hz1 := hm.ok.get hgz
      obtain ⟨hv, hm'⟩ := hm.step hx1 hgy hgz hb
      have hc1 := hm.c
      rw [BW_eq] at hx1 hy1 hz1 hc1
      have hv' : c + (x * y + z) < 18446744073709551616 := hv
      cbv
      refine h.get' k _ hkz (by rw [hy]; exact wl_get hgy) ?_
      cbv
      (refine Good.convi ‹_› ?_ ?_; (· (simp only [inR, cmpP, loOk, hiOk, Int.ofNat_eq_natCast, Int.negSucc_eq, IntKind.bits, Int.toNat_natCast, ge_iff_le, gt_iff_lt, ne_eq, wl_len, hl_len, natCast_fold, not_true_eq_false, not_false_eq_true] at * <;> omega)); cbv; refine Good.convi ‹_› ?_ ?_; (· (simp only [inR, cmpP, loOk, hiOk, Int.ofNat_eq_natCast, Int.negSucc_eq, IntKind.bits, Int.toNat_natCast, ge_iff_le, gt_iff_lt, ne_eq, wl_len, hl_len, natCast_fold, not_true_eq_false, not_false_eq_true] at * <;> omega)); cbv; refine Good.mul' ‹_› ?_ ?_; (· (simp only [inR, cmpP, loOk, hiOk, Int.ofNat_eq_natCast, Int.negSucc_eq, IntKind.bits, Int.toNat_natCast, ge_iff_le, gt_iff_lt, ne_eq, wl_len, hl_len, natCast_fold, not_true_eq_false, not_false_eq_true] at * <;> omega)); intro _ _; cbv; refine Good.add' ‹_› ?_ ?_; (· (simp only [inR, cmpP, loOk, hiOk, Int.ofNat_eq_natCast, Int.negSucc_eq, IntKind.bits, Int.toNat_natCast, ge_iff_le, gt_iff_lt, ne_eq, wl_len, hl_len, natCast_fold, not_true_eq_false, not_false_eq_true] at * <;> omega)); intro _ _; cbv)
      refine h.inb' (i + k) (by (simp only [inR, cmpP, loOk, hiOk, Int.ofNat_eq_natCast, Int.negSucc_eq, IntKind.bits, Int.toNat_natCast, ge_iff_le, gt_iff_lt, ne_eq, wl_len, hl_len, natCast_fold, not_true_eq_false, not_false_eq_true] at * <;> omega)) (by omega) fun j hj => ?_
      cbv
      refine h.getN' _ (by rw [hj, hos]; exact wl_get hgz) ?_
      cbv
      (refine Good.convi ‹_› ?_ ?_; (· (simp only [inR, cmpP, loOk, hiOk, Int.ofNat_eq_natCast, Int.negSucc_eq, IntKind.bits, Int.toNat_natCast, ge_iff_le, gt_iff_lt, ne_eq, wl_len, hl_len, natCast_fold, not_true_eq_false, not_false_eq_true] at * <;> omega)); cbv; refine Good.add' ‹_› ?_ ?_; (· (simp only [inR, cmpP, loOk, hiOk, Int.ofNat_eq_natCast, Int.negSucc_eq, IntKind.bits, Int.toNat_natCast, ge_iff_le, gt_iff_lt, ne_eq, wl_len, hl_len, natCast_fold, not_true_eq_false, not_false_eq_true] at * <;> omega)); intro _ _; cbv; refine Good.add' ‹_› ?_ ?_; (· (simp only [inR, cmpP, loOk, hiOk, Int.ofNat_eq_natCast, Int.negSucc_eq, IntKind.bits, Int.toNat_natCast, ge_iff_le, gt_iff_lt, ne_eq, wl_len, hl_len, natCast_fold, not_true_eq_false, not_false_eq_true] at * <;> omega)); intro _ _; cbv; refine Good.add' ‹_› ?_ ?_; (· (simp only [inR, cmpP, loOk, hiOk, Int.ofNat_eq_natCast, Int.negSucc_eq, IntKind.bits, Int.toNat_natCast, ge_iff_le, gt_iff_lt, ne_eq, wl_len, hl_len, natCast_fold, not_true_eq_false, not_false_eq_true] at * <;> omega)); intro _ _; cbv)
      refine h.conv' fun c1 hc1 => ?_
      cbv
      refine h.shr' 32 (by omega) (by decide) fun c2 hc2 => ?_
      cbv
      refine h.inb' (i + k) (by (simp only [inR, cmpP, loOk, hiOk, Int.ofNat_eq_natCast, Int.negSucc_eq, IntKind.bits, Int.toNat_natCast, ge_iff_le, gt_iff_lt, ne_eq, wl_len, hl_len, natCast_fold, not_true_eq_false, not_false_eq_true] at * <;> omega)) (by omega) fun j2 hj2 => ?_
      cbv
      refine h.put' _ _ (by rw [hj2, hos]; exact wl_get hgz) rfl (by rfl) fun os2 hos2 => ?_
      cbv
      (refine Good.add' ‹_› ?_ ?_; (· (simp only [inR, cmpP, loOk, hiOk, Int.ofNat_eq_natCast, Int.negSucc_eq, IntKind.bits, Int.toNat_natCast, ge_iff_le, gt_iff_lt, ne_eq, wl_len, hl_len, natCast_fold, not_true_eq_false, not_false_eq_true] at * <;> omega)); intro _ _; cbv)
      rename_i v1 hv1 s1 hs1 v2 hv2 v3 hv3 s2 hs2 k1 hk1
      have hv3 : v3 = ((c + (x * y + z) : Nat) : Int) := by (simp only [inR, cmpP, loOk, hiOk, Int.ofNat_eq_natCast, Int.negSucc_eq, IntKind.bits, Int.toNat_natCast, ge_iff_le, gt_iff_lt, ne_eq, wl_len, hl_len, natCast_fold, not_true_eq_false, not_false_eq_true] at * <;> omega)
      refine hR2 _ (os2, k1, c2, o.set (i + k) ((c + (x * y + z)) % BW), k + 1, (c + (x * y + z)) / BW) ⟨?_, by (simp only [inR, cmpP, loOk, hiOk, Int.ofNat_eq_natCast, Int.negSucc_eq, IntKind.bits, Int.toNat_natCast, ge_iff_le, gt_iff_lt, ne_eq, wl_len, hl_len, natCast_fold, not_true_eq_false, not_false_eq_true] at * <;> omega), ?_, by (simp only [inR, cmpP, loOk, hiOk, Int.ofNat_eq_natCast, Int.negSucc_eq, IntKind.bits, Int.toNat_natCast, ge_iff_le, gt_iff_lt, ne_eq, wl_len, hl_len, natCast_fold, not_true_eq_false, not_false_eq_true] at * <;> omega), hm'⟩ (by simp only; omega) (by (refine Wk.of [(16, some 16)] rfl ?_ ?_; (· (repeat (first | exact trivial | (refine And.intro ?_ ?_; (· first | exact trivial | exact Or.inl ⟨_, rfl, rfl⟩ | exact ⟨_, rfl, rfl⟩ | exact Or.inr ⟨rfl, rfl, by decide⟩))))); (· (repeat (first | exact trivial | (refine And.intro ?_ ?_; (· first | exact trivial | exact Or.inl rfl | rfl | exact Or.inr ⟨_, _, _, _, rfl, rfl, rfl, renNo rfl⟩ | exact ⟨ne_no rfl, Or.inl ⟨_, rfl, rfl⟩⟩ | exact ⟨ne_no rfl, Or.inr ⟨rfl, _, rfl⟩⟩ | exact ⟨_, rfl, rfl, ne_no rfl⟩)))))))
      · rw [hos2, hj2, hc1, hv3, wrap_u32, hos, ← wl_set]; rfl
      · show c2 = _
        rw [hc2, hv3]; show _ = (((c + (x * y + z)) / BW : Nat) : Int); rw [BW_eq]; omega
    · have hkb : k = b.length := by (simp only [inR, cmpP, loOk, hiOk, Int.ofNat_eq_natCast, Int.negSucc_eq, IntKind.bits, Int.toNat_natCast, ge_iff_le, gt_iff_lt, ne_eq, wl_len, hl_len, natCast_fold, not_true_eq_false, not_false_eq_true] at * <;> omega)
      have hm' := (hkb ▸ hm).next hgx
      have hc1 := hm.c
      rw [BW_eq] at hc1
      obtain ⟨z, hgz⟩ := lt_get (ws := o) (i := i + b.length) (by omega)
      cbv
      (refine Good.len' ‹_› ?_; intro _ _; cbv; refine Good.add' ‹_› ?_ ?_; (· (simp only [inR, cmpP, loOk, hiOk, Int.ofNat_eq_natCast, Int.negSucc_eq, IntKind.bits, Int.toNat_natCast, ge_iff_le, gt_iff_lt, ne_eq, wl_len, hl_len, natCast_fold, not_true_eq_false, not_false_eq_true] at * <;> omega)); intro _ _; cbv; refine Good.convi ‹_› ?_ ?_; (· (simp only [inR, cmpP, loOk, hiOk, Int.ofNat_eq_natCast, Int.negSucc_eq, IntKind.bits, Int.toNat_natCast, ge_iff_le, gt_iff_lt, ne_eq, wl_len, hl_len, natCast_fold, not_true_eq_false, not_false_eq_true] at * <;> omega)); cbv)
      refine h.inb' (i + b.length) (by (simp only [inR, cmpP, loOk, hiOk, Int.ofNat_eq_natCast, Int.negSucc_eq, IntKind.bits, Int.toNat_natCast, ge_iff_le, gt_iff_lt, ne_eq, wl_len, hl_len, natCast_fold, not_true_eq_false, not_false_eq_true] at * <;> omega)) (by omega) fun j2 hj2 => ?_
      cbv
      refine h.put' _ _ (by rw [hj2, hos]; exact wl_get hgz) rfl (by rfl) fun os2 hos2 => ?_
      cbv
      (refine Good.add' ‹_› ?_ ?_; (· (simp only [inR, cmpP, loOk, hiOk, Int.ofNat_eq_natCast, Int.negSucc_eq, IntKind.bits, Int.toNat_natCast, ge_iff_le, gt_iff_lt, ne_eq, wl_len, hl_len, natCast_fold, not_true_eq_false, not_false_eq_true] at * <;> omega)); intro _ _; cbv)
      rename_i lb2 hlb2 s2 hs2 i1 hi1
      refine hR _ (os2, i1, o.set (i + b.length) c, i + 1) ⟨?_, by (simp only [inR, cmpP, loOk, hiOk, Int.ofNat_eq_natCast, Int.negSucc_eq, IntKind.bits, Int.toNat_natCast, ge_iff_le, gt_iff_lt, ne_eq, wl_len, hl_len, natCast_fold, not_true_eq_false, not_false_eq_true] at * <;> omega), by (simp only [inR, cmpP, loOk, hiOk, Int.ofNat_eq_natCast, Int.negSucc_eq, IntKind.bits, Int.toNat_natCast, ge_iff_le, gt_iff_lt, ne_eq, wl_len, hl_len, natCast_fold, not_true_eq_false, not_false_eq_true] at * <;> omega), hm'⟩ (by simp only; omega) (by (refine Wk.of [(16, some 16)] rfl ?_ ?_; (· (repeat (first | exact trivial | (refine And.intro ?_ ?_; (· first | exact trivial | exact Or.inl ⟨_, rfl, rfl⟩ | exact ⟨_, rfl, rfl⟩ | exact Or.inr ⟨rfl, rfl, by decide⟩))))); (· (repeat (first | exact trivial | (refine And.intro ?_ ?_; (· first | exact trivial | exact Or.inl rfl | rfl | exact Or.inr ⟨_, _, _, _, rfl, rfl, rfl, renNo rfl⟩ | exact ⟨ne_no rfl, Or.inl ⟨_, rfl, rfl⟩⟩ | exact ⟨ne_no rfl, Or.inr ⟨rfl, _, rfl⟩⟩ | exact ⟨_, rfl, rfl, ne_no rfl⟩)))))))
      rw [hos2, hj2, hcz, hos, ← wl_set]; rfl
  · cbv
    have hia : i = a.length := by (simp only [inR, cmpP, loOk, hiOk, Int.ofNat_eq_natCast, Int.negSucc_eq, IntKind.bits, Int.toNat_natCast, ge_iff_le, gt_iff_lt, ne_eq, wl_len, hl_len, natCast_fold, not_true_eq_false, not_false_eq_true] at * <;> omega)
    have : zs = os := by
      have hv := hm.v
      rw [hia, List.take_length, Nat.mul_zero, Nat.zero_mul, Nat.mul_zero, Nat.add_zero, Nat.add_zero] at hv
      rw [hz, hos, ← hv, ← hm.len, pd_of BW0 hm.ok]
    rw [← this]
    exact hQ
theorem mul_s {π : Pi} (h : Good TT π) {t t' : Nat} {a b : List Nat} {xs ys : List (List D)} {K : List DV → Prop} (hx : xs = wl a) (hy : ys = wl b) (ha : Ok BW a) (hb : Ok BW b) (hla : a.length ≤ 1000000) (hlb : b.length ≤ 1000000)
    (hk : ∀ o zs, zs = wl o → Ok BW o → o.length = a.length + b.length → val BW o = val BW a * val BW b → K [.one (.sl 1 1 zs)]) : π.call 69 [.one (.sl t 1 xs), .one (.sl t' 1 ys)] K := by
  refine h.call' _ (mul_c ha hb hla hlb hx hy rfl) (hk _ _ rfl (pd_ok BW0 _ _) (pd_len _ _ _) (pd_val BW0 _ _ ?_))
  rw [Nat.pow_add]
  exact Nat.mul_lt_mul'' (val_lt ha) (val_lt hb)
end Go.Proofs.YtpmlocilhhjifaaGreat.Eng
