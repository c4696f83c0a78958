/- whole.Format. -/
import Derived.Test.YtpmlocilhhjifaaStr3
set_option maxRecDepth 100000
set_option linter.unusedSimpArgs false
set_option linter.unusedVariables false
set_option pp.maxSteps 200
namespace Go.Proofs.Ytpmlocilhhjifaa.Eng
open Go.RowKit
def bl (l : List UInt8) : List (List D) := l.map byteD
theorem bl_len (l : List UInt8) : (bl l).length = l.length := by simp [bl]
theorem bl_app (a b : List UInt8) : bl a ++ bl b = bl (a ++ b) := by simp [bl]
theorem bl_one {l : List UInt8} {y : List D} (h : y ∈ bl l) : y.length = 1 := by
  simp only [bl, List.mem_map] at h; obtain ⟨_, _, rfl⟩ := h; rfl
theorem rev_s {π : Pi} (h : Good TT π) {xs : List (List D)} {l : List UInt8} {K : List (List D) → Prop} (hx : xs = bl l) (hk : ∀ ys, ys = bl l.reverse → K ys) : π.turn 127 xs K := by
  subst hx
  exact h.mut' _ (rev_c l) (hk _ rfl)
set_option maxHeartbeats 4000000 in
theorem format_c {t l : Nat} {s : Bool} {xs : List (List D)} {i : Int} {st : ByteArray} (hz : Zr s xs i l) (hl' : l ≤ 100000) (hst : st = bs (fmtL i)) : TT 29 [za s t xs] [.one (.sc (.string st))] := by
  refine con Try.func29 rfl (by kernel_rfl) (by kernel_rfl) fun π Q h hQ => ?_
  obtain ⟨ws, hx, ho, hw, hi⟩ := hz
  have l0 := dg_len_val BW2 ho
  have l2 := dec10_len l0
  obtain ⟨n0, hn0⟩ : ∃ n0, n0 = val BW ws := ⟨_, rfl⟩
  rw [← hn0] at l0 l2
  have hia : i.natAbs = n0 := by rw [hi, sg_natAbs, hn0]
  have hneg : i < 0 ↔ (s = true ∧ 0 < n0) := by rw [hi, ← hn0]; cases s <;> simp [sg]
  cbv
  refine trim_s h hx ho (by omega) fun us hu => ?_
  rw [← hn0] at hu
  have hul : us.length = (dg BW n0).length := by rw [hu, wl_len]
  cbv
  (refine Good.len' ‹_› ?_; intro _ _; cbv)
  refine h.dec rfl (fun hp => ?_) (fun hp => ?_)
  · have h0 : n0 = 0 := (dg_nil BW2).1 (List.eq_nil_of_length_eq_zero (by (simp only [inR, cmpP, loOk, hiOk, Int.ofNat_eq_natCast, Int.negSucc_eq, IntKind.bits, Int.toNat_natCast, ge_iff_le, gt_iff_lt, ne_eq, wl_len, hl_len, natCast_fold, not_true_eq_false, not_false_eq_true] at * <;> omega)))
    have : st = ⟨#[48]⟩ := by
      rw [hst, fmtL, if_neg (fun h => by have := (hneg.1 h).2; omega), hia, dec, if_pos h0]; rfl
    rw [this] at hQ
    cbv
    skip
    exact hQ
  · have h0 : 0 < n0 := Nat.pos_of_ne_zero fun h0 => hp (by rw [h0, dg_zero, List.length_nil] at hul; (simp only [inR, cmpP, loOk, hiOk, Int.ofNat_eq_natCast, Int.negSucc_eq, IntKind.bits, Int.toNat_natCast, ge_iff_le, gt_iff_lt, ne_eq, wl_len, hl_len, natCast_fold, not_true_eq_false, not_false_eq_true] at * <;> omega))
    cbv
    refine h.loop' (Nat × List (List D) × List (List D) × Nat × List UInt8) (fun p => p.2.1 = wl (dg BW p.2.2.2.1) ∧ p.2.2.1 = bl p.2.2.2.2 ∧ p.2.2.2.1 ≤ n0 ∧ decP p.2.2.2.1 ++ p.2.2.2.2.reverse = decP n0)
      (fun p => ⟨[(1, .p 1 0 0 0), (3, vs p.1 p.2.1), (4, .ow 1000)], [(1, .bx [.sc (.bool s), .sl t 1 xs]), (1000, .ar 5 1 p.2.2.1)]⟩) (fun p => p.2.2.2.1) (t, us, [], n0, []) ⟨hu, rfl, Nat.le_refl _, by simp⟩ (by (refine Wk.of [(1, some 1), (1000, none)] rfl ?_ ?_; (· (repeat (first | exact trivial | (refine And.intro ?_ ?_; (· first | exact trivial | exact Or.inl ⟨_, rfl, rfl⟩ | exact ⟨_, rfl, rfl⟩ | exact Or.inr ⟨rfl, rfl, by decide⟩))))); (· (repeat (first | exact trivial | (refine And.intro ?_ ?_; (· first | exact trivial | exact Or.inl rfl | rfl | exact Or.inr ⟨_, _, _, _, rfl, rfl, rfl, renNo rfl⟩ | exact ⟨ne_no rfl, Or.inl ⟨_, rfl, rfl⟩⟩ | exact ⟨ne_no rfl, Or.inr ⟨rfl, _, rfl⟩⟩ | exact ⟨_, rfl, rfl, ne_no rfl⟩))))))) ?_
    clear hu hul
    rintro ⟨tu, us, bsx, m, sl⟩ R ⟨hu, hbs, hm, hd⟩ hR
    simp only at hu hbs hm hd
    have hul : us.length = (dg BW m).length := by rw [hu, wl_len]
    have lm : (dg BW m).length ≤ (dg BW n0).length := dg_len_mono BW2 hm
    have lsl : sl.length ≤ 10 * ws.length := by
      have := congrArg List.length hd
      rw [List.length_append, decP_len n0, List.length_reverse] at this
      omega
    have hbl : bsx.length = sl.length := by rw [hbs, bl_len]
    cbv
    (refine Good.len' ‹_› ?_; intro _ _; cbv)
    refine h.dec rfl (fun hp => ?_) (fun hp => ?_)
    · have hm0 : 0 < m := Nat.pos_of_ne_zero fun h0 => by rw [h0, dg_zero, List.length_nil] at hul; (simp only [inR, cmpP, loOk, hiOk, Int.ofNat_eq_natCast, Int.negSucc_eq, IntKind.bits, Int.toNat_natCast, ge_iff_le, gt_iff_lt, ne_eq, wl_len, hl_len, natCast_fold, not_true_eq_false, not_false_eq_true] at * <;> omega)
      have h10 : m % 10 < 10 := Nat.mod_lt _ (by decide)
      cbv
      refine small_s h hu (d := 10) (dg_ok BW2 _) (by omega) rfl (by decide) (by decide) fun qs r hqs hr => ?_
      rw [dg_val BW2] at hqs hr
      cbv
      (refine Good.convi ‹_› ?_ ?_; (· (simp only [inR, cmpP, loOk, hiOk, Int.ofNat_eq_natCast, Int.negSucc_eq, IntKind.bits, Int.toNat_natCast, ge_iff_le, gt_iff_lt, ne_eq, wl_len, hl_len, natCast_fold, not_true_eq_false, not_false_eq_true] at * <;> omega)); cbv; refine Good.add' ‹_› ?_ ?_; (· (simp only [inR, cmpP, loOk, hiOk, Int.ofNat_eq_natCast, Int.negSucc_eq, IntKind.bits, Int.toNat_natCast, ge_iff_le, gt_iff_lt, ne_eq, wl_len, hl_len, natCast_fold, not_true_eq_false, not_false_eq_true] at * <;> omega)); intro _ _; cbv)
      rename_i c2 hc2
      refine h.app' (by decide) (fun y hy => by simp at hy; rw [hy]; rfl) (by simp [maxLen]; omega) (by simp; omega) fun zs hzs => ?_
      have hzs : zs = bl (sl ++ [digC (m % 10)]) := by
        have : c2 = (((digC (m % 10)).toNat : Nat) : Int) := by rw [digC_toNat h10]; (simp only [inR, cmpP, loOk, hiOk, Int.ofNat_eq_natCast, Int.negSucc_eq, IntKind.bits, Int.toNat_natCast, ge_iff_le, gt_iff_lt, ne_eq, wl_len, hl_len, natCast_fold, not_true_eq_false, not_false_eq_true] at * <;> omega)
        rw [hzs, hbs, ← bl_app, this]; rfl
      cbv
      skip
      refine hR _ (1, qs, zs, m / 10, sl ++ [digC (m % 10)]) ⟨hqs, hzs, Nat.le_trans (Nat.div_le_self _ _) hm, ?_⟩ (Nat.div_lt_self hm0 (by decide)) (by (refine Wk.of [(1, some 1), (1000, some 26)] rfl ?_ ?_; (· (repeat (first | exact trivial | (refine And.intro ?_ ?_; (· first | exact trivial | exact Or.inl ⟨_, rfl, rfl⟩ | exact ⟨_, rfl, rfl⟩ | exact Or.inr ⟨rfl, rfl, by decide⟩))))); (· (repeat (first | exact trivial | (refine And.intro ?_ ?_; (· first | exact trivial | exact Or.inl rfl | rfl | exact Or.inr ⟨_, _, _, _, rfl, rfl, rfl, renNo rfl⟩ | exact ⟨ne_no rfl, Or.inl ⟨_, rfl, rfl⟩⟩ | exact ⟨ne_no rfl, Or.inr ⟨rfl, _, rfl⟩⟩ | exact ⟨_, rfl, rfl, ne_no rfl⟩)))))))
      show decP (m / 10) ++ (sl ++ [digC (m % 10)]).reverse = decP n0
      rw [← hd, decP_step hm0]; simp
    · have hm0 : m = 0 := (dg_nil BW2).1 (List.eq_nil_of_length_eq_zero (by (simp only [inR, cmpP, loOk, hiOk, Int.ofNat_eq_natCast, Int.negSucc_eq, IntKind.bits, Int.toNat_natCast, ge_iff_le, gt_iff_lt, ne_eq, wl_len, hl_len, natCast_fold, not_true_eq_false, not_false_eq_true] at * <;> omega)))
      rw [hm0, decP_zero, List.nil_append] at hd
      cases s
      · have hnn : ¬ i < 0 := fun h => by have := (hneg.1 h).1; cases this
        cbv
        refine rev_s h hbs fun zs hzs => ?_
        cbv
        refine h.ofb' _ hzs fun s1 hs1 => ?_
        have : s1 = st := by rw [hs1, hst, fmtL, if_neg hnn, hia, dec, if_neg (by omega), ← hd]; rfl
        rw [this]
        cbv
        skip
        exact hQ
      · have hnn : i < 0 := hneg.2 ⟨rfl, h0⟩
        cbv
        refine h.app' (by decide) (fun y hy => by simp at hy; rw [hy]; rfl) (by simp [maxLen]; omega) (by simp; omega) fun zs hzs => ?_
        have hzs : zs = bl (sl ++ [45]) := by rw [hzs, hbs, ← bl_app]; rfl
        cbv
        skip
        refine rev_s h hzs fun zs hzs => ?_
        cbv
        refine h.ofb' _ hzs fun s1 hs1 => ?_
        have : s1 = st := by rw [hs1, hst, fmtL, if_pos hnn, hia, dec, if_neg (by omega), ← hd]; simp; rfl
        rw [this]
        cbv
        skip
        exact hQ
theorem format_s {π : Pi} (h : Good TT π) {K : List DV → Prop} {t l : Nat} {s : Bool} {xs : List (List D)} {i : Int} (hz : Zr s xs i l) (hl : l ≤ 100000) (hk : ∀ st, st = bs (fmtL i) → K [.one (.sc (.string st))]) : π.call 29 [za s t xs] K := h.call' _ (format_c hz hl rfl) (hk _ rfl)
end Go.Proofs.Ytpmlocilhhjifaa.Eng
