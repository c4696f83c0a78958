/- Package whole: the small ones. -/
import Derived.Test.YtpmlocilhhjifaaGreatWClo
set_option maxRecDepth 100000
set_option linter.unusedSimpArgs false
set_option linter.unusedVariables false
set_option pp.maxSteps 200
namespace Go.Proofs.YtpmlocilhhjifaaGreat.Eng
open Go.RowKit
def sgnV (i : Int) : Int := if i < 0 then -1 else if i = 0 then 0 else 1
theorem sgnV_pos {i : Int} (h : 0 < i) : sgnV i = 1 := by unfold sgnV; rw [if_neg (by omega), if_neg (by omega)]
theorem sgnV_neg {i : Int} (h : i < 0) : sgnV i = -1 := by unfold sgnV; rw [if_pos h]
theorem sgnV_lt (i : Int) : sgnV i < 0 ↔ i < 0 := by unfold sgnV; split <;> (try split) <;> omega
theorem sgnV_eq (i : Int) : sgnV i = 0 ↔ i = 0 := by unfold sgnV; split <;> (try split) <;> omega
theorem sgnV_gt (i : Int) : 0 < sgnV i ↔ 0 < i := by unfold sgnV; split <;> (try split) <;> omega
theorem sgnV_cases (i : Int) : (i < 0 ∧ sgnV i = -1) ∨ (i = 0 ∧ sgnV i = 0) ∨ (0 < i ∧ sgnV i = 1) := by
  rcases Int.lt_trichotomy i 0 with h | h | h
  · exact .inl ⟨h, sgnV_neg h⟩
  · exact .inr (.inl ⟨h, by rw [h]; rfl⟩)
  · exact .inr (.inr ⟨h, sgnV_pos h⟩)
theorem sg_f (n : Nat) : sg false n = n := rfl
theorem sg_t (n : Nat) : sg true n = -(n : Int) := rfl
/-- An argument in any form. -/
abbrev za (s : Bool) (t : Nat) (xs : List (List D)) : DV := .ag [.sc (.bool s), .sl t 1 xs]
theorem sg_zero {s : Bool} {n : Nat} : sg s n = 0 ↔ n = 0 := by cases s <;> simp [sg]
theorem sign_c {t l : Nat} {s : Bool} {xs : List (List D)} {i c : Int} (hz : Zr s xs i l) (hl : l ≤ 1000000) (hc : c = sgnV i) : TT 42 [za s t xs] [.one (.sc (.int .i64 c))] := by
  refine con Tryz.func42 rfl (by kernel_rfl) (by kernel_rfl) fun π Q h hQ => ?_
  obtain ⟨ws, hx, ho, hw, hi⟩ := hz
  cbv
  refine trim_s h hx ho (by omega) fun ys hy => ?_
  have hlen : ys.length = (dg BW (val BW ws)).length := by rw [hy, wl_len]
  cbv
  (refine Good.len' ‹_› ?_; intro _ _; cbv)
  refine h.dec rfl (fun hp => ?_) (fun hp => ?_)
  · cbv
    have h0 : val BW ws = 0 := (dg_nil BW2).1 (List.eq_nil_of_length_eq_zero (by (simp only [inR, cmpP, loOk, hiOk, Int.ofNat_eq_natCast, Int.negSucc_eq, IntKind.bits, Int.toNat_natCast, ge_iff_le, gt_iff_lt, ne_eq, wl_len, hl_len, natCast_fold, not_true_eq_false, not_false_eq_true] at * <;> omega)))
    have : c = 0 := by rw [hc, hi, sg_zero.2 h0]; rfl
    rw [this] at hQ
    exact hQ
  · have h0 : val BW ws ≠ 0 := fun h0 => by rw [h0, dg_zero, List.length_nil] at hlen; (simp only [inR, cmpP, loOk, hiOk, Int.ofNat_eq_natCast, Int.negSucc_eq, IntKind.bits, Int.toNat_natCast, ge_iff_le, gt_iff_lt, ne_eq, wl_len, hl_len, natCast_fold, not_true_eq_false, not_false_eq_true] at * <;> omega)
    cases s
    · cbv
      have : c = 1 := by rw [hc, hi, sg_f]; exact sgnV_pos (by omega)
      rw [this] at hQ
      exact hQ
    · cbv
      have : c = -1 := by rw [hc, hi, sg_t]; exact sgnV_neg (by omega)
      rw [this] at hQ
      exact hQ
theorem fromInt64_c {n : Int} {b : Bool} {ys : List (List D)} (hn : inR .i64 n) (hz : Zc b ys n) : TT 41 [.one (.sc (.int .i64 n))] [za b 1 ys] := by
  refine con Tryz.func41 rfl (by kernel_rfl) (by kernel_rfl) fun π Q h hQ => ?_
  simp only [inR] at hn
  cbv
  refine h.conv' fun u hu => ?_
  rw [wrap_u rfl] at hu
  simp only [IntKind.bits] at hu
  have fin : ∀ (a b : Nat) (s : Bool), a < BW → b < BW → sg s (val BW [a, b]) = n → ∀ K : List DV → Prop, (∀ b ys, Zc b ys n → K [za b 1 ys]) → π.call 63 [.one (.sc (.bool s)), .one (.sl 1 1 [[D.sc (.int .u32 (a : Int))], [D.sc (.int .u32 (b : Int))]])] K :=
    fun a b s ha hb hs K hK => made_s h (ws := [a, b]) rfl (Ok.of ha (Ok.of hb Ok.nil)) (by simp) (by rw [hs]; exact hK)
  cbv
  refine h.dec rfl (fun hp => ?_) (fun hp => ?_)
  · cbv
    refine h.subw fun v hv => ?_
    rw [wrap_u rfl] at hv
    simp only [IntKind.bits] at hv
    cbv
    (refine Good.yes ‹_› ?_ ?_; (· omega); cbv)
    refine h.conv' fun lo hlo => ?_
    cbv
    refine h.shr' 32 (by omega) (by decide) fun c2 hc2 => ?_
    cbv
    refine h.conv' fun hi hhi => ?_
    rw [wrap_u rfl] at hlo hhi
    simp only [IntKind.bits] at hlo hhi
    cbv
    have e1 : lo = ((lo.toNat : Nat) : Int) := by omega
    have e2 : hi = ((hi.toNat : Nat) : Int) := by omega
    rw [e1, e2]
    refine fin _ _ true (by rw [BW_eq]; omega) (by rw [BW_eq]; omega) ?_ _ fun b' ys' hz' => ?_
    · simp only [val, sg, BW_eq]; (simp only [inR, cmpP, loOk, hiOk, Int.ofNat_eq_natCast, Int.negSucc_eq, IntKind.bits, Int.toNat_natCast, ge_iff_le, gt_iff_lt, ne_eq, wl_len, hl_len, natCast_fold, not_true_eq_false, not_false_eq_true] at * <;> omega)
    · cbv
      rw [hz'.1.trans hz.1.symm, hz'.2.trans hz.2.symm]
      exact hQ
  · cbv
    (refine Good.no ‹_› rfl ?_ ?_; (· omega); cbv)
    refine h.conv' fun lo hlo => ?_
    cbv
    refine h.shr' 32 (by omega) (by decide) fun c2 hc2 => ?_
    cbv
    refine h.conv' fun hi hhi => ?_
    rw [wrap_u rfl] at hlo hhi
    simp only [IntKind.bits] at hlo hhi
    cbv
    have e1 : lo = ((lo.toNat : Nat) : Int) := by omega
    have e2 : hi = ((hi.toNat : Nat) : Int) := by omega
    rw [e1, e2]
    refine fin _ _ false (by rw [BW_eq]; omega) (by rw [BW_eq]; omega) ?_ _ fun b' ys' hz' => ?_
    · simp only [val, sg, BW_eq]; (simp only [inR, cmpP, loOk, hiOk, Int.ofNat_eq_natCast, Int.negSucc_eq, IntKind.bits, Int.toNat_natCast, ge_iff_le, gt_iff_lt, ne_eq, wl_len, hl_len, natCast_fold, not_true_eq_false, not_false_eq_true] at * <;> omega)
    · cbv
      rw [hz'.1.trans hz.1.symm, hz'.2.trans hz.2.symm]
      exact hQ
section
variable {π : Pi} (h : Good TT π) {K : List DV → Prop}
include h
theorem sign_s {t l : Nat} {s : Bool} {xs : List (List D)} {i : Int} (hz : Zr s xs i l) (hl : l ≤ 1000000) (hk : ∀ c, c = sgnV i → K [.one (.sc (.int .i64 c))]) : π.call 42 [za s t xs] K := h.call' _ (sign_c hz hl rfl) (hk _ rfl)
theorem fromInt64_s {n : Int} (hn : inR .i64 n) (hk : ∀ b ys, Zc b ys n → K [za b 1 ys]) : π.call 41 [.one (.sc (.int .i64 n))] K := h.call' _ (fromInt64_c hn ⟨rfl, rfl⟩) (hk _ _ ⟨rfl, rfl⟩)
end
theorem sg_not (s : Bool) (n : Nat) : sg (!s) n = -sg s n := by cases s <;> simp [sg]
theorem neg_c {t l : Nat} {s b : Bool} {xs ys : List (List D)} {i : Int} (hz : Zr s xs i l) (hl : l ≤ 1000000) (hy : Zc b ys (-i)) : TT 65 [za s t xs] [za b 1 ys] := by
  refine con Tryz.func65 rfl (by kernel_rfl) (by kernel_rfl) fun π Q h hQ => ?_
  obtain ⟨ws, hx, ho, hw, hi⟩ := hz
  cases s <;> cbv <;> refine clone_s h hx (by omega) ?_ <;> cbv
  · refine made_s h hx ho (by omega) fun b' ys' hz' => ?_
    have : sg true (val BW ws) = -i := by rw [hi]; rfl
    rw [this] at hz'
    cbv
    (refine Good.chk' ‹_› rfl ?_; cbv)
    rw [hz'.1.trans hy.1.symm, hz'.2.trans hy.2.symm]
    exact hQ
  · refine made_s h hx ho (by omega) fun b' ys' hz' => ?_
    have : sg false (val BW ws) = -i := by rw [hi, sg_f, sg_t]; omega
    rw [this] at hz'
    cbv
    (refine Good.chk' ‹_› rfl ?_; cbv)
    rw [hz'.1.trans hy.1.symm, hz'.2.trans hy.2.symm]
    exact hQ
/-- What the sum of two numbers with signs is, by their magnitudes. -/
theorem sg_add {s s' : Bool} {m n : Nat} (h : s = s') : sg s m + sg s' n = sg s (m + n) := by subst h; cases s <;> simp [sg] <;> omega
theorem sg_sub {s s' : Bool} {m n : Nat} (h : s ≠ s') (hle : n ≤ m) : sg s m + sg s' n = sg s (m - n) := by
  cases s <;> cases s' <;> first | exact absurd rfl h | (simp only [sg]; omega)
theorem sg_sub' {s s' : Bool} {m n : Nat} (h : s ≠ s') (hle : m ≤ n) : sg s m + sg s' n = sg s' (n - m) := by
  cases s <;> cases s' <;> first | exact absurd rfl h | (simp only [sg]; omega)
theorem sg_mul {s s' : Bool} {m n : Nat} : sg s m * sg s' n = sg (s != s') (m * n) := by
  cases s <;> cases s' <;> simp [sg, Int.natCast_mul, Int.neg_mul, Int.mul_neg]
theorem Zc.eqs {s s' : Bool} {xs xs' : List (List D)} {i i' : Int} (h : Zc s xs i) (h' : Zc s' xs' i') (e : i = i') : za s 1 xs = za s' 1 xs' := by
  subst e; rw [h.1, h'.1, h.2, h'.2]
theorem add2_c {t t' l l' : Nat} {s s' b : Bool} {xs xs' ys : List (List D)} {i i' : Int} (hz : Zr s xs i l) (hz' : Zr s' xs' i' l') (hl : l ≤ 100000) (hl' : l' ≤ 100000) (hy : Zc b ys (i + i')) : TT 71 [za s t xs, za s' t' xs'] [za b 1 ys] := by
  refine con Tryz.func71 rfl (by kernel_rfl) (by kernel_rfl) fun π Q h hQ => ?_
  obtain ⟨ws, hx, ho, hw, hi⟩ := hz
  obtain ⟨ws', hx', ho', hw', hi'⟩ := hz'
  subst hi hi'
  have fin : ∀ (o : List Nat) (zs : List (List D)) (q : Bool), zs = wl o → Ok BW o → o.length ≤ 1000000 → sg q (val BW o) = sg s (val BW ws) + sg s' (val BW ws') → ∀ K : List DV → Prop, K [za b 1 ys] → π.call 63 [.one (.sc (.bool q)), .one (.sl 1 1 zs)] K :=
    fun o zs q hz ho hl hs K hK => made_s h hz ho hl fun b' ys' hz' => by
      have := hz'.eqs hy hs
      rw [show (DV.ag [.sc (.bool b'), .sl 1 1 ys'] : DV) = za b' 1 ys' from rfl, this]
      exact hK
  have l1 := dg_len_val BW2 ho
  have l2 := dg_len_val BW2 ho'
  cbv
  refine trim_s h hx ho (by omega) fun us hu => ?_
  cbv
  refine trim_s h hx' ho' (by omega) fun us' hu' => ?_
  cbv
  (refine Good.chk' ‹_› rfl ?_; cbv)
  refine h.beq' fun q hq => ?_
  by_cases hs : s = s'
  · have : q = true := by rw [hq]; simp [hs]
    subst this
    cbv
    skip
    refine add_s h hu hu' (dg_ok BW2 _) (dg_ok BW2 _) (by omega) (by omega) fun o zs h1 h2 h3 h4 => ?_
    cbv
    refine fin o zs s h1 h2 (by omega) ?_ _ ?_
    · rw [h4, dg_val BW2, dg_val BW2, sg_add hs]
    · cbv
      (refine Good.chk' ‹_› rfl ?_; cbv)
      exact hQ
  · have : q = false := by rw [hq]; simp [hs]
    subst this
    cbv
    skip
    refine cmp_s h hu hu' (dg_ok BW2 _) (dg_ok BW2 _) (dg_can BW2 _) (dg_can BW2 _) (by omega) (by omega) fun c h1 h2 => ?_
    rw [dg_val BW2, dg_val BW2] at h1 h2
    cbv
    refine h.dec rfl (fun hp => ?_) (fun hp => ?_)
    · have hle : val BW ws' ≤ val BW ws := by (simp only [inR, cmpP, loOk, hiOk, Int.ofNat_eq_natCast, Int.negSucc_eq, IntKind.bits, Int.toNat_natCast, ge_iff_le, gt_iff_lt, ne_eq, wl_len, hl_len, natCast_fold, not_true_eq_false, not_false_eq_true] at * <;> omega)
      cbv
      refine sub_s h hu hu' (dg_ok BW2 _) (dg_ok BW2 _) (by omega) (by omega) (by rw [dg_val BW2, dg_val BW2]; exact hle) fun o zs h1 h2 h3 h4 => ?_
      cbv
      refine fin o zs s h1 h2 (by omega) ?_ _ ?_
      · rw [h4, dg_val BW2, dg_val BW2, sg_sub hs hle]
      · cbv
        (refine Good.chk' ‹_› rfl ?_; cbv)
        exact hQ
    · have hle : val BW ws ≤ val BW ws' := by (simp only [inR, cmpP, loOk, hiOk, Int.ofNat_eq_natCast, Int.negSucc_eq, IntKind.bits, Int.toNat_natCast, ge_iff_le, gt_iff_lt, ne_eq, wl_len, hl_len, natCast_fold, not_true_eq_false, not_false_eq_true] at * <;> omega)
      cbv
      refine sub_s h hu' hu (dg_ok BW2 _) (dg_ok BW2 _) (by omega) (by omega) (by rw [dg_val BW2, dg_val BW2]; exact hle) fun o zs h1 h2 h3 h4 => ?_
      cbv
      refine fin o zs s' h1 h2 (by omega) ?_ _ ?_
      · rw [h4, dg_val BW2, dg_val BW2, sg_sub' hs hle]
      · cbv
        (refine Good.chk' ‹_› rfl ?_; cbv)
        exact hQ
theorem sub2_c {t t' l l' : Nat} {s s' b : Bool} {xs xs' ys : List (List D)} {i i' : Int} (hz : Zr s xs i l) (hz' : Zr s' xs' i' l') (hl : l ≤ 100000) (hl' : l' ≤ 100000) (hy : Zc b ys (i - i')) : TT 68 [za s t xs, za s' t' xs'] [za b 1 ys] := by
  refine con Tryz.func68 rfl (by kernel_rfl) (by kernel_rfl) fun π Q h hQ => ?_
  obtain ⟨ws', hx', ho', hw', hi'⟩ := hz'
  have key : ∀ q : Bool, q = (!s') → TT 71 [za s t xs, za q t' xs'] [za b 1 ys] := fun q hq => by
    refine add2_c hz (l' := l') (i' := -i') ⟨ws', hx', ho', hw', ?_⟩ hl hl' ?_
    · rw [hi', hq, sg_not]
    · rwa [show i + -i' = i - i' by omega]
  cases s'
  · cbv
    skip
    refine h.call' _ (key true rfl) ?_
    cbv
    skip
    exact hQ
  · cbv
    skip
    refine h.call' _ (key false rfl) ?_
    cbv
    skip
    exact hQ
theorem mul2_c {t t' l l' : Nat} {s s' b : Bool} {xs xs' ys : List (List D)} {i i' : Int} (hz : Zr s xs i l) (hz' : Zr s' xs' i' l') (hl : l ≤ 100000) (hl' : l' ≤ 100000) (hy : Zc b ys (i * i')) : TT 46 [za s t xs, za s' t' xs'] [za b 1 ys] := by
  refine con Tryz.func46 rfl (by kernel_rfl) (by kernel_rfl) fun π Q h hQ => ?_
  obtain ⟨ws, hx, ho, hw, hi⟩ := hz
  obtain ⟨ws', hx', ho', hw', hi'⟩ := hz'
  have l1 := dg_len_val BW2 ho
  have l2 := dg_len_val BW2 ho'
  cbv
  skip
  refine h.beq' fun q hq => ?_
  cbv
  refine trim_s h hx ho (by omega) fun us hu => ?_
  cbv
  refine trim_s h hx' ho' (by omega) fun us' hu' => ?_
  cbv
  refine mul_s h hu hu' (dg_ok BW2 _) (dg_ok BW2 _) (by omega) (by omega) fun o zs h1 h2 h3 h4 => ?_
  cbv
  refine made_s h h1 h2 (by omega) fun b' ys' hz' => ?_
  have : sg q (val BW o) = i * i' := by rw [h4, dg_val BW2, dg_val BW2, hi, hi', sg_mul, hq]; rfl
  have := hz'.eqs hy this
  rw [show (DV.ag [.sc (.bool b'), .sl 1 1 ys'] : DV) = za b' 1 ys' from rfl, this]
  cbv
  (refine Good.chk' ‹_› rfl ?_; cbv)
  exact hQ

section
variable {π : Pi} (h : Good TT π) {K : List DV → Prop} {t t' l l' : Nat} {s s' : Bool} {xs xs' : List (List D)} {i i' : Int}
include h
theorem neg_s (hz : Zr s xs i l) (hl : l ≤ 1000000) (hk : ∀ b ys, Zc b ys (-i) → K [za b 1 ys]) : π.call 65 [za s t xs] K := h.call' _ (neg_c hz hl ⟨rfl, rfl⟩) (hk _ _ ⟨rfl, rfl⟩)
theorem add2_s (hz : Zr s xs i l) (hz' : Zr s' xs' i' l') (hl : l ≤ 100000) (hl' : l' ≤ 100000) (hk : ∀ b ys, Zc b ys (i + i') → K [za b 1 ys]) : π.call 71 [za s t xs, za s' t' xs'] K := h.call' _ (add2_c hz hz' hl hl' ⟨rfl, rfl⟩) (hk _ _ ⟨rfl, rfl⟩)
theorem sub2_s (hz : Zr s xs i l) (hz' : Zr s' xs' i' l') (hl : l ≤ 100000) (hl' : l' ≤ 100000) (hk : ∀ b ys, Zc b ys (i - i') → K [za b 1 ys]) : π.call 68 [za s t xs, za s' t' xs'] K := h.call' _ (sub2_c hz hz' hl hl' ⟨rfl, rfl⟩) (hk _ _ ⟨rfl, rfl⟩)
theorem mul2_s (hz : Zr s xs i l) (hz' : Zr s' xs' i' l') (hl : l ≤ 100000) (hl' : l' ≤ 100000) (hk : ∀ b ys, Zc b ys (i * i') → K [za b 1 ys]) : π.call 46 [za s t xs, za s' t' xs'] K := h.call' _ (mul2_c hz hz' hl hl' ⟨rfl, rfl⟩) (hk _ _ ⟨rfl, rfl⟩)
end
theorem dg_len_sub (i i' : Int) : (dg BW (i - i').natAbs).length ≤ max (dg BW i.natAbs).length (dg BW i'.natAbs).length + 1 :=
  Nat.le_trans (dg_len_mono BW2 (show (i - i').natAbs ≤ i.natAbs + i'.natAbs by omega)) (dg_len_add BW2 _ _)
theorem Zr.len {l : Nat} {s : Bool} {xs : List (List D)} {i : Int} (h : Zr s xs i l) : (dg BW i.natAbs).length ≤ l := by
  obtain ⟨ws, hx, ho, hw, hi⟩ := h
  subst hi
  rw [sg_natAbs]
  exact Nat.le_trans (dg_len_val BW2 ho) hw
theorem cmp2_c {t t' l l' : Nat} {s s' : Bool} {xs xs' : List (List D)} {i i' c : Int} (hz : Zr s xs i l) (hz' : Zr s' xs' i' l') (hl : l ≤ 100000) (hl' : l' ≤ 100000) (hc : c = sgnV (i - i')) : TT 45 [za s t xs, za s' t' xs'] [.one (.sc (.int .i64 c))] := by
  refine con Tryz.func45 rfl (by kernel_rfl) (by kernel_rfl) fun π Q h hQ => ?_
  have h1 := hz.len
  have h2 := hz'.len
  have h3 := dg_len_sub i i'
  cbv
  refine sub2_s h hz hz' hl hl' fun b ys hb => ?_
  cbv
  refine sign_s h hb.r (by omega) fun c' hc' => ?_
  cbv
  rw [hc', ← hc]
  exact hQ
theorem cmp2_s {π : Pi} (h : Good TT π) {K : List DV → Prop} {t t' l l' : Nat} {s s' : Bool} {xs xs' : List (List D)} {i i' : Int} (hz : Zr s xs i l) (hz' : Zr s' xs' i' l') (hl : l ≤ 100000) (hl' : l' ≤ 100000) (hk : ∀ c, c = sgnV (i - i') → K [.one (.sc (.int .i64 c))]) : π.call 45 [za s t xs, za s' t' xs'] K := h.call' _ (cmp2_c hz hz' hl hl' rfl) (hk _ rfl)
end Go.Proofs.YtpmlocilhhjifaaGreat.Eng
