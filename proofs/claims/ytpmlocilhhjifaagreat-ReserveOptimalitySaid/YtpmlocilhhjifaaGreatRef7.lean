/- The reference of chapter 1: Cmp, Same, Int, Div. -/
import Derived.Test.YtpmlocilhhjifaaGreatRef6
set_option maxRecDepth 100000
set_option linter.unusedSimpArgs false
set_option linter.unusedVariables false
set_option pp.maxSteps 200
namespace Go.Proofs.YtpmlocilhhjifaaGreat.Eng
open Go.RowKit
theorem rcmp2_c {t t' l l' : Nat} {s s' : Bool} {xs xs' : List (List D)} {i i' c : Int} (hz : Zr s xs i l) (hz' : Zr s' xs' i' l') (hl' : l ≤ 100000) (hl'' : l' ≤ 100000) (hc : c = sgnV (i - i')) : TT 107 [za s t xs, za s' t' xs'] [.one (.sc (.int .i64 c))] := by
  refine con Tryz.func107 rfl (by kernel_rfl) (by kernel_rfl) fun π Q h hQ => ?_
  have c1 := sgnV_cases i
  have c2 := sgnV_cases i'
  have c3 := sgnV_cases (i - i')
  cbv
  refine rsign_s h hz hl' fun a1 ha1 => ?_
  cbv
  refine rsign_s h hz' hl'' fun a2 ha2 => ?_
  cbv
  refine h.dec rfl (fun hp => ?_) (fun hp => ?_)
  · cbv
    (refine Good.chk' ‹_› rfl ?_; cbv)
    refine rsign_s h hz hl' fun a3 ha3 => ?_
    cbv
    refine rsign_s h hz' hl'' fun a4 ha4 => ?_
    cbv
    refine h.dec rfl (fun hp2 => ?_) (fun hp2 => ?_)
    · have : c = -1 := by (simp only [inR, cmpP, loOk, hiOk, Int.ofNat_eq_natCast, Int.negSucc_eq, IntKind.bits, Int.toNat_natCast, ge_iff_le, gt_iff_lt, ne_eq, wl_len, hl_len, natCast_fold, not_true_eq_false, not_false_eq_true] at * <;> omega)
      rw [this] at hQ
      cbv
      (refine Good.chk' ‹_› rfl ?_; cbv)
      exact hQ
    · have : c = 1 := by (simp only [inR, cmpP, loOk, hiOk, Int.ofNat_eq_natCast, Int.negSucc_eq, IntKind.bits, Int.toNat_natCast, ge_iff_le, gt_iff_lt, ne_eq, wl_len, hl_len, natCast_fold, not_true_eq_false, not_false_eq_true] at * <;> omega)
      rw [this] at hQ
      cbv
      (refine Good.chk' ‹_› rfl ?_; cbv)
      exact hQ
  · have hs : sgnV i = sgnV i' := by (simp only [inR, cmpP, loOk, hiOk, Int.ofNat_eq_natCast, Int.negSucc_eq, IntKind.bits, Int.toNat_natCast, ge_iff_le, gt_iff_lt, ne_eq, wl_len, hl_len, natCast_fold, not_true_eq_false, not_false_eq_true] at * <;> omega)
    obtain ⟨ws, hx, ho, hw, hi⟩ := hz
    obtain ⟨ws', hx', ho', hw', hi'⟩ := hz'
    have l1 := dgh_len (dg_len_val BW2 ho)
    have l2 := dgh_len (dg_len_val BW2 ho')
    cbv
    (refine Good.chk' ‹_› rfl ?_; cbv)
    refine halves_s h hx ho (by omega) fun us hu => ?_
    cbv
    refine halves_s h hx' ho' (by omega) fun us' hu' => ?_
    cbv
    refine rcmp_s h hu hu' (dg_ok BH2 _) (dg_ok BH2 _) (by omega) (by omega) fun d hd => ?_
    rw [dg_val BH2, dg_val BH2] at hd
    have hd2 : (d = -1 ∧ val BW ws < val BW ws') ∨ (d = 0 ∧ val BW ws = val BW ws') ∨ (d = 1 ∧ val BW ws' < val BW ws) := by
      rw [hd]; unfold cmpV
      split
      · left; exact ⟨rfl, by assumption⟩
      · split
        · right; right; exact ⟨rfl, by assumption⟩
        · right; left; exact ⟨rfl, by omega⟩
    cbv
    (refine Good.chk' ‹_› rfl ?_; cbv)
    refine rsign_s h ⟨ws, hx, ho, hw, hi⟩ hl' fun a3 ha3 => ?_
    have e1 : i = val BW ws ∨ i = -(val BW ws : Int) := by rw [hi]; cases s <;> simp [sg]
    have e2 : i' = val BW ws' ∨ i' = -(val BW ws' : Int) := by rw [hi']; cases s' <;> simp [sg]
    clear hi hi'
    cbv
    refine h.dec rfl (fun hp2 => ?_) (fun hp2 => ?_)
    · have hi0 : sgnV i < 0 := by (simp only [inR, cmpP, loOk, hiOk, Int.ofNat_eq_natCast, Int.negSucc_eq, IntKind.bits, Int.toNat_natCast, ge_iff_le, gt_iff_lt, ne_eq, wl_len, hl_len, natCast_fold, not_true_eq_false, not_false_eq_true] at * <;> omega)
      have : c = -d := by clear hp hp2 ha1 ha2 ha3 hd; (simp only [inR, cmpP, loOk, hiOk, Int.ofNat_eq_natCast, Int.negSucc_eq, IntKind.bits, Int.toNat_natCast, ge_iff_le, gt_iff_lt, ne_eq, wl_len, hl_len, natCast_fold, not_true_eq_false, not_false_eq_true] at * <;> omega)
      rw [this] at hQ
      cbv
      refine h.sub' (by (simp only [inR, cmpP, loOk, hiOk, Int.ofNat_eq_natCast, Int.negSucc_eq, IntKind.bits, Int.toNat_natCast, ge_iff_le, gt_iff_lt, ne_eq, wl_len, hl_len, natCast_fold, not_true_eq_false, not_false_eq_true] at * <;> omega)) fun e he => ?_
      have he : e = -d := by omega
      rw [he]
      cbv
      skip
      exact hQ
    · have hi0 : 0 ≤ sgnV i := by (simp only [inR, cmpP, loOk, hiOk, Int.ofNat_eq_natCast, Int.negSucc_eq, IntKind.bits, Int.toNat_natCast, ge_iff_le, gt_iff_lt, ne_eq, wl_len, hl_len, natCast_fold, not_true_eq_false, not_false_eq_true] at * <;> omega)
      have : c = d := by clear hp hp2 ha1 ha2 ha3 hd; (simp only [inR, cmpP, loOk, hiOk, Int.ofNat_eq_natCast, Int.negSucc_eq, IntKind.bits, Int.toNat_natCast, ge_iff_le, gt_iff_lt, ne_eq, wl_len, hl_len, natCast_fold, not_true_eq_false, not_false_eq_true] at * <;> omega)
      rw [this] at hQ
      cbv
      skip
      exact hQ
theorem rcmp2_s {π : Pi} (h : Good TT π) {K : List DV → Prop} {t t' l l' : Nat} {s s' : Bool} {xs xs' : List (List D)} {i i' : Int} (hz : Zr s xs i l) (hz' : Zr s' xs' i' l') (hl : l ≤ 100000) (hl' : l' ≤ 100000) (hk : ∀ c, c = sgnV (i - i') → K [.one (.sc (.int .i64 c))]) : π.call 107 [za s t xs, za s' t' xs'] K := h.call' _ (rcmp2_c hz hz' hl hl' rfl) (hk _ rfl)
theorem same_c {t t' : Nat} {s s' c : Bool} {xs xs' : List (List D)} {ws ws' : List Nat} (hx : xs = wl ws) (hx' : xs' = wl ws') (hl' : ws.length ≤ 1000000) (hl'' : ws'.length ≤ 1000000) (hc : c = decide (s = s' ∧ ws = ws')) : TT 53 [za s t xs, za s' t' xs'] [.one (.sc (.bool c))] := by
  refine con Tryz.func53 rfl (by kernel_rfl) (by kernel_rfl) fun π Q h hQ => ?_
  have hlx : xs.length = ws.length := by rw [hx, wl_len]
  have hlx' : xs'.length = ws'.length := by rw [hx', wl_len]
  cbv
  refine h.beq' fun q hq => ?_
  by_cases hs : s = s'
  · have : q = false := by rw [hq]; simp [hs]
    subst this
    cbv
    (refine Good.len' ‹_› ?_; intro _ _; cbv; refine Good.len' ‹_› ?_; intro _ _; cbv)
    refine h.dec rfl (fun hp => ?_) (fun hp => ?_)
    · have : c = false := by
        rw [hc, decide_eq_false_iff_not]
        rintro ⟨_, rfl⟩
        (simp only [inR, cmpP, loOk, hiOk, Int.ofNat_eq_natCast, Int.negSucc_eq, IntKind.bits, Int.toNat_natCast, ge_iff_le, gt_iff_lt, ne_eq, wl_len, hl_len, natCast_fold, not_true_eq_false, not_false_eq_true] at * <;> omega)
      rw [this] at hQ
      cbv
      skip
      exact hQ
    · have hll : ws.length = ws'.length := by (simp only [inR, cmpP, loOk, hiOk, Int.ofNat_eq_natCast, Int.negSucc_eq, IntKind.bits, Int.toNat_natCast, ge_iff_le, gt_iff_lt, ne_eq, wl_len, hl_len, natCast_fold, not_true_eq_false, not_false_eq_true] at * <;> omega)
      cbv
      skip
      refine h.loop' (Int × Nat) (fun p => p.1 = (p.2 : Int) ∧ p.2 ≤ ws.length ∧ ws.take p.2 = ws'.take p.2) (fun p => ⟨[(2, .p 2 0 0 0), (3, .p 3 0 0 0), (5, vi .i64 p.1)], [(2, .bx [.sc (.bool s), .sl t 1 xs]), (3, .bx [.sc (.bool s'), .sl t' 1 xs'])]⟩) (fun p => ws.length - p.2) (0, 0) ⟨rfl, Nat.zero_le _, rfl⟩ (by (refine Wk.of [(2, some 2), (3, some 3)] rfl ?_ ?_; (· (repeat (first | exact trivial | (refine And.intro ?_ ?_; (· first | exact trivial | exact Or.inl ⟨_, rfl, rfl⟩ | exact ⟨_, rfl, rfl⟩ | exact Or.inr ⟨rfl, rfl, by decide⟩))))); (· (repeat (first | exact trivial | (refine And.intro ?_ ?_; (· first | exact trivial | exact Or.inl rfl | rfl | exact Or.inr ⟨_, _, _, _, rfl, rfl, rfl, renNo rfl⟩ | exact ⟨ne_no rfl, Or.inl ⟨_, rfl, rfl⟩⟩ | exact ⟨ne_no rfl, Or.inr ⟨rfl, _, rfl⟩⟩ | exact ⟨_, rfl, rfl, ne_no rfl⟩))))))) ?_
      rintro ⟨iz, i⟩ R ⟨hiz, hi, hv⟩ hR
      simp only at hiz hi hv
      cbv
      (refine Good.len' ‹_› ?_; intro _ _; cbv)
      refine h.dec rfl (fun hp => ?_) (fun hp => ?_)
      · obtain ⟨x, hgx⟩ := lt_get (ws := ws) (i := i) (by (simp only [inR, cmpP, loOk, hiOk, Int.ofNat_eq_natCast, Int.negSucc_eq, IntKind.bits, Int.toNat_natCast, ge_iff_le, gt_iff_lt, ne_eq, wl_len, hl_len, natCast_fold, not_true_eq_false, not_false_eq_true] at * <;> omega))
        obtain ⟨y, hgy⟩ := lt_get (ws := ws') (i := i) (by (simp only [inR, cmpP, loOk, hiOk, Int.ofNat_eq_natCast, Int.negSucc_eq, IntKind.bits, Int.toNat_natCast, ge_iff_le, gt_iff_lt, ne_eq, wl_len, hl_len, natCast_fold, not_true_eq_false, not_false_eq_true] at * <;> omega))
        cbv
        refine h.get' i _ hiz (by rw [hx]; exact wl_get hgx) ?_
        cbv
        refine h.get' i _ hiz (by rw [hx']; exact wl_get hgy) ?_
        cbv
        refine h.dec rfl (fun hp2 => ?_) (fun hp2 => ?_)
        · have : c = false := by
            rw [hc, decide_eq_false_iff_not]
            rintro ⟨_, rfl⟩
            rw [hgx] at hgy
            have : x = y := Option.some.inj hgy
            (simp only [inR, cmpP, loOk, hiOk, Int.ofNat_eq_natCast, Int.negSucc_eq, IntKind.bits, Int.toNat_natCast, ge_iff_le, gt_iff_lt, ne_eq, wl_len, hl_len, natCast_fold, not_true_eq_false, not_false_eq_true] at * <;> omega)
          rw [this] at hQ
          cbv
          (refine Good.chk' ‹_› rfl ?_; cbv)
          exact hQ
        · have hxy : x = y := by (simp only [inR, cmpP, loOk, hiOk, Int.ofNat_eq_natCast, Int.negSucc_eq, IntKind.bits, Int.toNat_natCast, ge_iff_le, gt_iff_lt, ne_eq, wl_len, hl_len, natCast_fold, not_true_eq_false, not_false_eq_true] at * <;> omega)
          cbv
          (refine Good.chk' ‹_› rfl ?_; cbv; refine Good.add' ‹_› ?_ ?_; (· (simp only [inR, cmpP, loOk, hiOk, Int.ofNat_eq_natCast, Int.negSucc_eq, IntKind.bits, Int.toNat_natCast, ge_iff_le, gt_iff_lt, ne_eq, wl_len, hl_len, natCast_fold, not_true_eq_false, not_false_eq_true] at * <;> omega)); intro _ _; cbv)
          rename_i i1 hi1
          refine hR _ (i1, i + 1) ⟨by simp only; (simp only [inR, cmpP, loOk, hiOk, Int.ofNat_eq_natCast, Int.negSucc_eq, IntKind.bits, Int.toNat_natCast, ge_iff_le, gt_iff_lt, ne_eq, wl_len, hl_len, natCast_fold, not_true_eq_false, not_false_eq_true] at * <;> omega), by simp only; (simp only [inR, cmpP, loOk, hiOk, Int.ofNat_eq_natCast, Int.negSucc_eq, IntKind.bits, Int.toNat_natCast, ge_iff_le, gt_iff_lt, ne_eq, wl_len, hl_len, natCast_fold, not_true_eq_false, not_false_eq_true] at * <;> omega), ?_⟩ (by simp only; (simp only [inR, cmpP, loOk, hiOk, Int.ofNat_eq_natCast, Int.negSucc_eq, IntKind.bits, Int.toNat_natCast, ge_iff_le, gt_iff_lt, ne_eq, wl_len, hl_len, natCast_fold, not_true_eq_false, not_false_eq_true] at * <;> omega)) (by (refine Wk.of [(2, some 2), (3, some 3)] rfl ?_ ?_; (· (repeat (first | exact trivial | (refine And.intro ?_ ?_; (· first | exact trivial | exact Or.inl ⟨_, rfl, rfl⟩ | exact ⟨_, rfl, rfl⟩ | exact Or.inr ⟨rfl, rfl, by decide⟩))))); (· (repeat (first | exact trivial | (refine And.intro ?_ ?_; (· first | exact trivial | exact Or.inl rfl | rfl | exact Or.inr ⟨_, _, _, _, rfl, rfl, rfl, renNo rfl⟩ | exact ⟨ne_no rfl, Or.inl ⟨_, rfl, rfl⟩⟩ | exact ⟨ne_no rfl, Or.inr ⟨rfl, _, rfl⟩⟩ | exact ⟨_, rfl, rfl, ne_no rfl⟩)))))))
          show ws.take (i + 1) = ws'.take (i + 1)
          rw [take_succ_get hgx, take_succ_get hgy, hv, hxy]
      · have hi2 : i = ws.length := by (simp only [inR, cmpP, loOk, hiOk, Int.ofNat_eq_natCast, Int.negSucc_eq, IntKind.bits, Int.toNat_natCast, ge_iff_le, gt_iff_lt, ne_eq, wl_len, hl_len, natCast_fold, not_true_eq_false, not_false_eq_true] at * <;> omega)
        rw [hi2, List.take_length, hll, List.take_length] at hv
        have : c = true := by rw [hc, decide_eq_true_eq]; exact ⟨hs, hv⟩
        rw [this] at hQ
        cbv
        skip
        exact hQ
  · have : q = true := by rw [hq]; simp [hs]
    subst this
    have : c = false := by rw [hc, decide_eq_false_iff_not]; exact fun h => hs h.1
    rw [this] at hQ
    cbv
    skip
    exact hQ
theorem same_s {π : Pi} (h : Good TT π) {K : List DV → Prop} {t t' : Nat} {s s' : Bool} {xs xs' : List (List D)} {ws ws' : List Nat} (hx : xs = wl ws) (hx' : xs' = wl ws') (hl' : ws.length ≤ 1000000) (hl'' : ws'.length ≤ 1000000) (hk : ∀ c, c = decide (s = s' ∧ ws = ws') → K [.one (.sc (.bool c))]) : π.call 53 [za s t xs, za s' t' xs'] K := h.call' _ (same_c hx hx' hl' hl'' rfl) (hk _ rfl)
/-- Two canonical integers have the same form where they are one. -/
theorem same_z {π : Pi} (h : Good TT π) {K : List DV → Prop} {t t' : Nat} {s s' : Bool} {xs xs' : List (List D)} {i i' : Int} (hz : Zc s xs i) (hz' : Zc s' xs' i') (hl : (dg BW i.natAbs).length ≤ 1000000) (hl' : (dg BW i'.natAbs).length ≤ 1000000) (hk : ∀ c, c = decide (i = i') → K [.one (.sc (.bool c))]) : π.call 53 [za s t xs, za s' t' xs'] K := by
  refine same_s h hz.2 hz'.2 hl hl' fun c hc => hk c ?_
  rw [hc, hz.1, hz'.1]
  congr 1
  refine propext ⟨fun ⟨h1, h2⟩ => ?_, fun h => by subst h; exact ⟨rfl, rfl⟩⟩
  have := dg_inj BW2 h2
  have h3 : (i < 0) = (i' < 0) := by simpa using h1
  by_cases hi : i < 0
  · have : i' < 0 := h3 ▸ hi
    omega
  · have : ¬ i' < 0 := h3 ▸ hi
    omega
theorem rdivMod_c {t t' l l' : Nat} {s s' b b' : Bool} {xs xs' ys ys' : List (List D)} {i i' e : Int} (hz : Zr s xs i l) (hz' : Zr s' xs' i' l') (hl' : l ≤ 100000) (hl'' : l' ≤ 100000) (hy : Zc b ys (i / i')) (hy' : Zc b' ys' (remV i i')) (he : e = errV i') :
    TT 106 [za s t xs, za s' t' xs'] [za b 1 ys, za b' 1 ys', .one (.sc (.int .i64 e))] := by
  refine con Tryz.func106 rfl (by kernel_rfl) (by kernel_rfl) fun π Q h hQ => ?_
  obtain ⟨ws, hx, ho, hw, hi⟩ := hz
  obtain ⟨ws', hx', ho', hw', hi'⟩ := hz'
  subst hi hi'
  have l1 := dgh_len (dg_len_val BW2 ho)
  have l2 := dgh_len (dg_len_val BW2 ho')
  cbv
  refine halves_s h hx ho (by omega) fun us hu => ?_
  cbv
  refine halves_s h hx' ho' (by omega) fun us' hu' => ?_
  have hlu : us'.length = (dg BH (val BW ws')).length := by rw [hu', hl_len]
  cbv
  (refine Good.chk' ‹_› rfl ?_; cbv; refine Good.len' ‹_› ?_; intro _ _; cbv)
  refine h.dec rfl (fun hp => ?_) (fun hp => ?_)
  · have h0 : val BW ws' = 0 := (dg_nil BH2).1 (List.eq_nil_of_length_eq_zero (by (simp only [inR, cmpP, loOk, hiOk, Int.ofNat_eq_natCast, Int.negSucc_eq, IntKind.bits, Int.toNat_natCast, ge_iff_le, gt_iff_lt, ne_eq, wl_len, hl_len, natCast_fold, not_true_eq_false, not_false_eq_true] at * <;> omega)))
    have hz0 : sg s' (val BW ws') = 0 := sg_zero.2 h0
    rw [hz0] at hy hy' he
    have e1 := hy.eqs (i := sg s (val BW ws) / 0) (s' := false) (xs' := []) (i' := 0) ⟨rfl, rfl⟩ (Int.ediv_zero _)
    have e2 := hy'.eqs (s' := false) (xs' := []) (i' := 0) ⟨rfl, rfl⟩ (by simp [remV])
    cbv
    skip
    rw [e1, e2, show e = 7 from he] at hQ
    exact hQ
  · have h0 : 0 < val BW ws' := Nat.pos_of_ne_zero fun h0 => hp (by rw [h0, dg_zero, List.length_nil] at hlu; (simp only [inR, cmpP, loOk, hiOk, Int.ofNat_eq_natCast, Int.negSucc_eq, IntKind.bits, Int.toNat_natCast, ge_iff_le, gt_iff_lt, ne_eq, wl_len, hl_len, natCast_fold, not_true_eq_false, not_false_eq_true] at * <;> omega))
    have hnz : ¬ sg s' (val BW ws') = 0 := fun h => by have := sg_zero.1 h; omega
    rw [show e = 0 from by rw [he]; exact if_neg hnz] at hQ
    rw [remV, if_neg hnz] at hy'
    cbv
    refine rdiv_s h hu hu' (dg_ok BH2 _) (dg_ok BH2 _) (dg_can BH2 _) (by rw [dg_val BH2]; exact h0) (by omega) (by omega) fun qs rs hqs hrs => ?_
    rw [dg_val BH2, dg_val BH2] at hqs hrs
    obtain ⟨q, hq⟩ : ∃ q, q = val BW ws / val BW ws' := ⟨_, rfl⟩
    obtain ⟨r, hr⟩ : ∃ r, r = val BW ws % val BW ws' := ⟨_, rfl⟩
    rw [← hq] at hqs
    rw [← hr] at hrs
    have l3 : (dg BH q).length ≤ (dg BH (val BW ws)).length := dg_len_mono BH2 (by rw [hq]; exact Nat.div_le_self _ _)
    have hrl : r ≤ val BW ws' := by rw [hr]; exact Nat.le_of_lt (Nat.mod_lt _ h0)
    have l4 : (dg BH r).length ≤ (dg BH (val BW ws')).length := dg_len_mono BH2 hrl
    have l5 : (dg BH (val BW ws' - r)).length ≤ (dg BH (val BW ws')).length := dg_len_mono BH2 (Nat.sub_le _ _)
    have l6 := dg_len_add BH2 q 1
    have l7 : (dg BH 1).length ≤ 1 := dg_len BH2 (by decide)
    have hlr : rs.length = (dg BH r).length := by rw [hrs, hl_len]
    have plain : (s = false ∨ r = 0) → ∀ K : List DV → Prop, K [za b 1 ys] → ∀ K' : List DV → Prop, K' [za b' 1 ys'] → ∀ p, p = (s != s') → π.call 109 [.one (.sc (.bool p)), .one (.sl 1 1 qs)] K ∧ π.call 109 [.one (.sc (.bool false)), .one (.sl 1 1 rs)] K' := fun hs K hK K' hK' p hp => by
      obtain ⟨d1, d2⟩ := div_sg (s := s) (s' := s') h0 hq hr hs
      refine ⟨of_s h hqs (dg_ok BH2 _) (by omega) fun b1 y1 hz1 => ?_, of_s h hrs (dg_ok BH2 _) (by omega) fun b1 y1 hz1 => ?_⟩
      · rw [show za b1 1 y1 = za b 1 ys from za_eq hz1 hy (by rw [dg_val BH2, d1, hp])]
        exact hK
      · rw [show za b1 1 y1 = za b' 1 ys' from za_eq hz1 hy' (by rw [dg_val BH2, d2]; rfl)]
        exact hK'
    cases hs : s
    · rw [hs] at plain
      cbv
      skip
      refine h.beq' fun p hp => ?_
      have hp : p = (false != s') := hp
      cbv
      refine (plain (.inl rfl) _ ?_ (fun _ => True) trivial p hp).1
      cbv
      refine (plain (.inl rfl) (fun _ => True) trivial _ ?_ _ rfl).2
      cbv
      skip
      exact hQ
    · rw [hs] at plain
      cbv
      (refine Good.len' ‹_› ?_; intro _ _; cbv)
      refine h.dec rfl (fun hp => ?_) (fun hp => ?_)
      · have hr0 : 0 < r := Nat.pos_of_ne_zero fun h0 => by rw [h0] at hlr; rw [dg_zero, List.length_nil] at hlr; (simp only [inR, cmpP, loOk, hiOk, Int.ofNat_eq_natCast, Int.negSucc_eq, IntKind.bits, Int.toNat_natCast, ge_iff_le, gt_iff_lt, ne_eq, wl_len, hl_len, natCast_fold, not_true_eq_false, not_false_eq_true] at * <;> omega)
        subst hs
        obtain ⟨d1, d2⟩ := div_sg' (s' := s') h0 hq hr hr0
        cbv
        skip
        refine radd_s h hqs (b := [1]) rfl (dg_ok BH2 _) (Ok.of (by decide) Ok.nil) (by omega) (by simp) fun z hz => ?_
        rw [dg_val BH2, val_one] at hz
        cbv
        skip
        refine rsub_s h hu' hrs (dg_ok BH2 _) (dg_ok BH2 _) (by omega) (by omega) (by rw [dg_val BH2, dg_val BH2]; exact hrl) fun z2 hz2 => ?_
        rw [dg_val BH2, dg_val BH2] at hz2
        cbv
        skip
        refine h.beq' fun p hp => ?_
        have hp : p = (true != s') := hp
        cbv
        refine of_s h hz (dg_ok BH2 _) (by omega) fun b1 y1 hz1 => ?_
        rw [show za b1 1 y1 = za b 1 ys from za_eq hz1 hy (by rw [dg_val BH2, d1, hp])]
        cbv
        refine of_s h hz2 (dg_ok BH2 _) (by omega) fun b1 y1 hz1 => ?_
        rw [show za b1 1 y1 = za b' 1 ys' from za_eq hz1 hy' (by rw [dg_val BH2, d2]; rfl)]
        cbv
        skip
        exact hQ
      · have hr0 : r = 0 := (dg_nil BH2).1 (List.eq_nil_of_length_eq_zero (by (simp only [inR, cmpP, loOk, hiOk, Int.ofNat_eq_natCast, Int.negSucc_eq, IntKind.bits, Int.toNat_natCast, ge_iff_le, gt_iff_lt, ne_eq, wl_len, hl_len, natCast_fold, not_true_eq_false, not_false_eq_true] at * <;> omega)))
        cbv
        skip
        refine h.beq' fun p hp => ?_
        have hp : p = (true != s') := hp
        cbv
        refine (plain (.inr hr0) _ ?_ (fun _ => True) trivial p hp).1
        cbv
        refine (plain (.inr hr0) (fun _ => True) trivial _ ?_ _ rfl).2
        cbv
        skip
        exact hQ
theorem rdivMod_s {π : Pi} (h : Good TT π) {K : List DV → Prop} {t t' l l' : Nat} {s s' : Bool} {xs xs' : List (List D)} {i i' : Int} (hz : Zr s xs i l) (hz' : Zr s' xs' i' l') (hl : l ≤ 100000) (hl' : l' ≤ 100000)
    (hk : ∀ b ys b' ys' e, Zc b ys (i / i') → Zc b' ys' (remV i i') → e = errV i' → K [za b 1 ys, za b' 1 ys', .one (.sc (.int .i64 e))]) : π.call 106 [za s t xs, za s' t' xs'] K :=
  h.call' _ (rdivMod_c hz hz' hl hl' ⟨rfl, rfl⟩ ⟨rfl, rfl⟩ rfl) (hk _ _ _ _ _ ⟨rfl, rfl⟩ ⟨rfl, rfl⟩ rfl)
end Go.Proofs.YtpmlocilhhjifaaGreat.Eng
