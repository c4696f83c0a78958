/- Package whole: DivMod, GCD. -/
import Derived.Test.YtpmlocilhhjifaaGreatWhole5
set_option maxRecDepth 100000
set_option linter.unusedSimpArgs false
set_option linter.unusedVariables false
set_option pp.maxSteps 200
namespace Go.Proofs.YtpmlocilhhjifaaGreat.Eng
open Go.RowKit
theorem divU {a b q r : Int} (h : b ≠ 0) (e : b * q + r = a) (h0 : 0 ≤ r) (h1 : r < b.natAbs) : a / b = q ∧ a % b = r := by
  rcases Int.lt_or_lt_of_ne h with hb | hb
  · have h2 := (Int.ediv_emod_unique (a := a) (b := -b) (r := r) (q := -q) (by omega)).2 ⟨by rw [Int.neg_mul_neg]; omega, h0, by omega⟩
    rw [Int.ediv_neg, Int.emod_neg] at h2
    exact ⟨by omega, h2.2⟩
  · exact (Int.ediv_emod_unique hb).2 ⟨by omega, h0, by omega⟩
def remV (a b : Int) : Int := if b = 0 then 0 else a % b
def errV (b : Int) : Int := if b = 0 then 7 else 0
theorem div_sg {s s' : Bool} {m n q r : Nat} (hn : 0 < n) (hq : q = m / n) (hr : r = m % n) (h : s = false ∨ r = 0) : sg s m / sg s' n = sg (s != s') q ∧ sg s m % sg s' n = (r : Int) := by
  have e := Nat.div_add_mod m n
  have hlt := Nat.mod_lt m hn
  rw [← hq, ← hr] at e
  rw [← hr] at hlt
  have e' : (n : Int) * q + r = m := by rw [← Int.natCast_mul]; omega
  cases s <;> cases s' <;> simp only [sg] <;> refine divU (by omega) ?_ (by omega) (by omega)
  · simpa using e'
  · show -(n : Int) * -(q : Int) + r = m
    rw [Int.neg_mul_neg]; exact e'
  · rcases h with h | h
    · cases h
    · subst h
      show (n : Int) * -(q : Int) + _ = -(m : Int)
      rw [Int.mul_neg]; simp at e' ⊢; omega
  · rcases h with h | h
    · cases h
    · subst h
      show -(n : Int) * (q : Int) + _ = -(m : Int)
      rw [Int.neg_mul]; simp at e' ⊢; omega
theorem div_sg' {s' : Bool} {m n q r : Nat} (hn : 0 < n) (hq : q = m / n) (hr : r = m % n) (h : 0 < r) : sg true m / sg s' n = sg (true != s') (q + 1) ∧ sg true m % sg s' n = ((n - r : Nat) : Int) := by
  have e := Nat.div_add_mod m n
  have hlt := Nat.mod_lt m hn
  rw [← hq, ← hr] at e
  rw [← hr] at hlt
  have e' : (n : Int) * q + r = m := by rw [← Int.natCast_mul]; omega
  cases s' <;> simp only [sg] <;> refine divU (by omega) ?_ (by omega) (by omega)
  · have : ((n - r : Nat) : Int) = n - r := by omega
    rw [this]
    show (n : Int) * -((q + 1 : Nat) : Int) + _ = _
    rw [Int.mul_neg, Int.natCast_add, Int.mul_add]; simp; omega
  · have : ((n - r : Nat) : Int) = n - r := by omega
    rw [this]
    show -(n : Int) * ((q + 1 : Nat) : Int) + _ = _
    rw [Int.neg_mul, Int.natCast_add, Int.mul_add]; simp; omega
theorem dg_val_pos {ws : List Nat} : (dg BW (val BW ws)).length = 0 ↔ val BW ws = 0 := by
  rw [List.length_eq_zero_iff, dg_nil BW2]
theorem divMod_c {t t' l l' : Nat} {s s' b b' : Bool} {xs xs' ys ys' : List (List D)} {i i' e : Int} (hz : Zr s xs i l) (hz' : Zr s' xs' i' l') (hl : l ≤ 100000) (hl' : l' ≤ 100000) (hy : Zc b ys (i / i')) (hy' : Zc b' ys' (remV i i')) (he : e = errV i') :
    TT 99 [za s t xs, za s' t' xs'] [za b 1 ys, za b' 1 ys', .one (.sc (.int .i64 e))] := by
  refine con Tryz.func99 rfl (by kernel_rfl) (by kernel_rfl) fun π Q h hQ => ?_
  obtain ⟨ws, hx, ho, hw, hi⟩ := hz
  obtain ⟨ws', hx', ho', hw', hi'⟩ := hz'
  subst hi hi'
  have l1 := dg_len_val BW2 ho
  have l2 := dg_len_val BW2 ho'
  cbv
  refine trim_s h hx ho (by omega) fun us hu => ?_
  cbv
  refine trim_s h hx' ho' (by omega) fun us' hu' => ?_
  have hlu : us'.length = (dg BW (val BW ws')).length := by rw [hu', wl_len]
  cbv
  (refine Good.chk' ‹_› rfl ?_; cbv; refine Good.len' ‹_› ?_; intro _ _; cbv)
  refine h.dec rfl (fun hp => ?_) (fun hp => ?_)
  · have h0 : val BW ws' = 0 := dg_val_pos.1 (by (simp only [inR, cmpP, loOk, hiOk, Int.ofNat_eq_natCast, Int.negSucc_eq, IntKind.bits, Int.toNat_natCast, ge_iff_le, gt_iff_lt, ne_eq, wl_len, hl_len, natCast_fold, not_true_eq_false, not_false_eq_true] at * <;> omega))
    have hz0 : sg s' (val BW ws') = 0 := sg_zero.2 h0
    rw [hz0] at hy hy' he
    have e1 := hy.eqs (i := sg s (val BW ws) / 0) (s' := false) (xs' := []) (i' := 0) ⟨rfl, rfl⟩ (Int.ediv_zero _)
    have e2 := hy'.eqs (s' := false) (xs' := []) (i' := 0) ⟨rfl, rfl⟩ (by simp [remV])
    cbv
    (refine Good.chk' ‹_› rfl ?_; cbv)
    rw [e1, e2, show e = 7 from he] at hQ
    exact hQ
  · have h0 : 0 < val BW ws' := Nat.pos_of_ne_zero fun h0 => hp (by have := dg_val_pos.2 h0; (simp only [inR, cmpP, loOk, hiOk, Int.ofNat_eq_natCast, Int.negSucc_eq, IntKind.bits, Int.toNat_natCast, ge_iff_le, gt_iff_lt, ne_eq, wl_len, hl_len, natCast_fold, not_true_eq_false, not_false_eq_true] at * <;> omega))
    have hnz : ¬ sg s' (val BW ws') = 0 := fun h => by have := sg_zero.1 h; omega
    rw [show e = 0 from by rw [he]; exact if_neg hnz] at hQ
    rw [remV, if_neg hnz] at hy'
    cbv
    refine div_s h hu hu' (dg_ok BW2 _) (dg_ok BW2 _) (dg_can BW2 _) (by rw [dg_val BW2]; exact h0) (by omega) (by omega) fun qs rs hqs hrs => ?_
    rw [dg_val BW2, dg_val BW2] at hqs hrs
    obtain ⟨q, hq⟩ : ∃ q, q = val BW ws / val BW ws' := ⟨_, rfl⟩
    obtain ⟨r, hr⟩ : ∃ r, r = val BW ws % val BW ws' := ⟨_, rfl⟩
    rw [← hq] at hqs
    rw [← hr] at hrs
    have l3 : (dg BW q).length ≤ (dg BW (val BW ws)).length := dg_len_mono BW2 (by rw [hq]; exact Nat.div_le_self _ _)
    have l4 : (dg BW r).length ≤ (dg BW (val BW ws')).length := dg_len_mono BW2 (by rw [hr]; exact Nat.le_of_lt (Nat.mod_lt _ h0))
    have hlr : rs.length = (dg BW r).length := by rw [hrs, wl_len]
    have plain : (s = false ∨ r = 0) → ∀ K : List DV → Prop, K [za b 1 ys] → ∀ K' : List DV → Prop, K' [za b' 1 ys'] → ∀ p, p = (s != s') → π.call 63 [.one (.sc (.bool p)), .one (.sl 1 1 qs)] K ∧ π.call 63 [.one (.sc (.bool false)), .one (.sl 1 1 rs)] K' := fun hs K hK K' hK' p hp => by
      obtain ⟨d1, d2⟩ := div_sg (s := s) (s' := s') h0 hq hr hs
      refine ⟨made_s h hqs (dg_ok BW2 _) (by omega) fun b1 y1 hz1 => ?_, made_s h hrs (dg_ok BW2 _) (by omega) fun b1 y1 hz1 => ?_⟩
      · have := hz1.eqs hy (by rw [dg_val BW2, d1, hp])
        rw [show (DV.ag [.sc (.bool b1), .sl 1 1 y1] : DV) = za b1 1 y1 from rfl, this]
        exact hK
      · have := hz1.eqs hy' (by rw [dg_val BW2, d2]; rfl)
        rw [show (DV.ag [.sc (.bool b1), .sl 1 1 y1] : DV) = za b1 1 y1 from rfl, this]
        exact hK'
    cases hs : s
    · rw [hs] at plain
      cbv
      refine h.beq' fun p hp => ?_
      have hp : p = (false != s') := hp
      cbv
      refine (plain (.inl rfl) _ ?_ (fun _ => True) trivial p hp).1
      cbv
      refine (plain (.inl rfl) (fun _ => True) trivial _ ?_ _ rfl).2
      cbv
      skip
      exact hQ
    · rw [hs] at plain
      cbv
      (refine Good.len' ‹_› ?_; intro _ _; cbv)
      refine h.dec rfl (fun hp => ?_) (fun hp => ?_)
      · have hr0 : 0 < r := Nat.pos_of_ne_zero fun h0 => by rw [h0] at hlr; rw [dg_zero, List.length_nil] at hlr; (simp only [inR, cmpP, loOk, hiOk, Int.ofNat_eq_natCast, Int.negSucc_eq, IntKind.bits, Int.toNat_natCast, ge_iff_le, gt_iff_lt, ne_eq, wl_len, hl_len, natCast_fold, not_true_eq_false, not_false_eq_true] at * <;> omega)
        subst hs
        obtain ⟨d1, d2⟩ := div_sg' (s' := s') h0 hq hr hr0
        cbv
        refine add_s h hqs (b := [1]) rfl (dg_ok BW2 _) (Ok.of (by decide) Ok.nil) (by omega) (by simp) fun o z h1 h2 h3 h4 => ?_
        rw [dg_val BW2, val_one] at h4
        have h3' : o.length ≤ (dg BW q).length + 2 := by rw [h3]; simp; omega
        cbv
        refine sub_s h hu' hrs (dg_ok BW2 _) (dg_ok BW2 _) (by omega) (by omega) (by rw [dg_val BW2, dg_val BW2, hr]; exact Nat.le_of_lt (Nat.mod_lt _ h0)) fun o2 z2 h5 h6 h7 h8 => ?_
        rw [dg_val BW2, dg_val BW2] at h8
        cbv
        refine h.beq' fun p hp => ?_
        have hp : p = (true != s') := hp
        cbv
        refine made_s h h1 h2 (by omega) fun b1 y1 hz1 => ?_
        have e1 := hz1.eqs hy (by rw [h4, d1, hp])
        rw [show (DV.ag [.sc (.bool b1), .sl 1 1 y1] : DV) = za b1 1 y1 from rfl, e1]
        cbv
        refine made_s h h5 h6 (by omega) fun b1 y1 hz1 => ?_
        have e1 := hz1.eqs hy' (by rw [h8, d2]; rfl)
        rw [show (DV.ag [.sc (.bool b1), .sl 1 1 y1] : DV) = za b1 1 y1 from rfl, e1]
        cbv
        skip
        exact hQ
      · have hr0 : r = 0 := (dg_nil BW2).1 (List.eq_nil_of_length_eq_zero (by (simp only [inR, cmpP, loOk, hiOk, Int.ofNat_eq_natCast, Int.negSucc_eq, IntKind.bits, Int.toNat_natCast, ge_iff_le, gt_iff_lt, ne_eq, wl_len, hl_len, natCast_fold, not_true_eq_false, not_false_eq_true] at * <;> omega)))
        cbv
        refine h.beq' fun p hp => ?_
        have hp : p = (true != s') := hp
        cbv
        refine (plain (.inr hr0) _ ?_ (fun _ => True) trivial p hp).1
        cbv
        refine (plain (.inr hr0) (fun _ => True) trivial _ ?_ _ rfl).2
        cbv
        skip
        exact hQ
theorem divMod_s {π : Pi} (h : Good TT π) {K : List DV → Prop} {t t' l l' : Nat} {s s' : Bool} {xs xs' : List (List D)} {i i' : Int} (hz : Zr s xs i l) (hz' : Zr s' xs' i' l') (hl : l ≤ 100000) (hl' : l' ≤ 100000)
    (hk : ∀ b ys b' ys' e, Zc b ys (i / i') → Zc b' ys' (remV i i') → e = errV i' → K [za b 1 ys, za b' 1 ys', .one (.sc (.int .i64 e))]) : π.call 99 [za s t xs, za s' t' xs'] K :=
  h.call' _ (divMod_c hz hz' hl hl' ⟨rfl, rfl⟩ ⟨rfl, rfl⟩ rfl) (hk _ _ _ _ _ ⟨rfl, rfl⟩ ⟨rfl, rfl⟩ rfl)
theorem gcd_c {t t' l l' : Nat} {s s' b : Bool} {xs xs' ys : List (List D)} {i i' : Int} (hz : Zr s xs i l) (hz' : Zr s' xs' i' l') (hl : l ≤ 100000) (hl' : l' ≤ 100000) (hy : Zc b ys (Int.gcd i i' : Int)) :
    TT 98 [za s t xs, za s' t' xs'] [za b 1 ys] := by
  refine con Tryz.func98 rfl (by kernel_rfl) (by kernel_rfl) fun π Q h hQ => ?_
  obtain ⟨ws, hx, ho, hw, hi⟩ := hz
  obtain ⟨ws', hx', ho', hw', hi'⟩ := hz'
  have hg : Int.gcd i i' = Nat.gcd (val BW ws) (val BW ws') := by rw [Int.gcd, hi, hi', sg_natAbs, sg_natAbs]
  rw [hg] at hy
  have l1 := dg_len_val BW2 ho
  have l2 := dg_len_val BW2 ho'
  cbv
  refine trim_s h hx ho (by omega) fun us hu => ?_
  cbv
  refine trim_s h hx' ho' (by omega) fun us' hu' => ?_
  cbv
  (refine Good.chk' ‹_› rfl ?_; cbv)
  refine h.loop' (Nat × List (List D) × Nat × List (List D) × Nat × Nat) (fun p => p.2.1 = wl (dg BW p.2.2.2.2.1) ∧ p.2.2.2.1 = wl (dg BW p.2.2.2.2.2) ∧ Nat.gcd p.2.2.2.2.1 p.2.2.2.2.2 = Nat.gcd (val BW ws) (val BW ws') ∧ (dg BW p.2.2.2.2.1).length ≤ 100000 ∧ (dg BW p.2.2.2.2.2).length ≤ 100000)
    (fun p => ⟨[(4, .p 4 0 0 0), (5, vs p.1 p.2.1), (6, vs p.2.2.1 p.2.2.2.1)], [(4, .bx [.sc (.bool false), .sl 1 1 []])]⟩) (fun p => p.2.2.2.2.2) (t, us, t', us', val BW ws, val BW ws') ⟨hu, hu', rfl, Nat.le_trans l1 (Nat.le_trans hw hl), Nat.le_trans l2 (Nat.le_trans hw' hl')⟩ (by (refine Wk.of [(4, some 4)] rfl ?_ ?_; (· (repeat (first | exact trivial | (refine And.intro ?_ ?_; (· first | exact trivial | exact Or.inl ⟨_, rfl, rfl⟩ | exact ⟨_, rfl, rfl⟩ | exact Or.inr ⟨rfl, rfl, by decide⟩))))); (· (repeat (first | exact trivial | (refine And.intro ?_ ?_; (· first | exact trivial | exact Or.inl rfl | rfl | exact Or.inr ⟨_, _, _, _, rfl, rfl, rfl, renNo rfl⟩ | exact ⟨ne_no rfl, Or.inl ⟨_, rfl, rfl⟩⟩ | exact ⟨ne_no rfl, Or.inr ⟨rfl, _, rfl⟩⟩ | exact ⟨_, rfl, rfl, ne_no rfl⟩))))))) ?_
  clear hu hu'
  rintro ⟨tx, us, ty', us', m, n⟩ R ⟨hu, hu', hmn, hm, hn⟩ hR
  simp only at hu hu' hmn hm hn
  have hlu : us'.length = (dg BW n).length := by rw [hu', wl_len]
  cbv
  (refine Good.len' ‹_› ?_; intro _ _; cbv)
  refine h.dec rfl (fun hp => ?_) (fun hp => ?_)
  · have hn0 : 0 < n := Nat.pos_of_ne_zero fun h0 => by rw [h0] at hlu; rw [dg_zero, List.length_nil] at hlu; (simp only [inR, cmpP, loOk, hiOk, Int.ofNat_eq_natCast, Int.negSucc_eq, IntKind.bits, Int.toNat_natCast, ge_iff_le, gt_iff_lt, ne_eq, wl_len, hl_len, natCast_fold, not_true_eq_false, not_false_eq_true] at * <;> omega)
    cbv
    refine div_s h hu hu' (dg_ok BW2 _) (dg_ok BW2 _) (dg_can BW2 _) (by rw [dg_val BW2]; exact hn0) hm hn fun qs rs hqs hrs => ?_
    rw [dg_val BW2, dg_val BW2] at hrs
    have hlt := Nat.mod_lt m hn0
    cbv
    skip
    refine hR _ (ty', us', 1, rs, n, m % n) ⟨hu', hrs, ?_, hn, Nat.le_trans (dg_len_mono BW2 (Nat.le_of_lt hlt)) hn⟩ hlt (by (refine Wk.of [(4, some 4)] rfl ?_ ?_; (· (repeat (first | exact trivial | (refine And.intro ?_ ?_; (· first | exact trivial | exact Or.inl ⟨_, rfl, rfl⟩ | exact ⟨_, rfl, rfl⟩ | exact Or.inr ⟨rfl, rfl, by decide⟩))))); (· (repeat (first | exact trivial | (refine And.intro ?_ ?_; (· first | exact trivial | exact Or.inl rfl | rfl | exact Or.inr ⟨_, _, _, _, rfl, rfl, rfl, renNo rfl⟩ | exact ⟨ne_no rfl, Or.inl ⟨_, rfl, rfl⟩⟩ | exact ⟨ne_no rfl, Or.inr ⟨rfl, _, rfl⟩⟩ | exact ⟨_, rfl, rfl, ne_no rfl⟩)))))))
    rw [← hmn]
    show Nat.gcd n (m % n) = _
    rw [Nat.gcd_comm m n, Nat.gcd_rec n m, Nat.gcd_comm]
  · have hn0 : n = 0 := (dg_nil BW2).1 (List.eq_nil_of_length_eq_zero (by (simp only [inR, cmpP, loOk, hiOk, Int.ofNat_eq_natCast, Int.negSucc_eq, IntKind.bits, Int.toNat_natCast, ge_iff_le, gt_iff_lt, ne_eq, wl_len, hl_len, natCast_fold, not_true_eq_false, not_false_eq_true] at * <;> omega)))
    subst hn0
    rw [Nat.gcd_zero_right] at hmn
    cbv
    refine clone_s h hu (by omega) ?_
    cbv
    refine made_s h hu (dg_ok BW2 _) (by omega) fun b1 y1 hz1 => ?_
    have e1 := hz1.eqs hy (by rw [dg_val BW2, hmn]; rfl)
    rw [show (DV.ag [.sc (.bool b1), .sl 1 1 y1] : DV) = za b1 1 y1 from rfl, e1]
    cbv
    skip
    exact hQ
theorem gcd_s {π : Pi} (h : Good TT π) {K : List DV → Prop} {t t' l l' : Nat} {s s' : Bool} {xs xs' : List (List D)} {i i' : Int} (hz : Zr s xs i l) (hz' : Zr s' xs' i' l') (hl : l ≤ 100000) (hl' : l' ≤ 100000)
    (hk : ∀ b ys, Zc b ys (Int.gcd i i' : Int) → K [za b 1 ys]) : π.call 98 [za s t xs, za s' t' xs'] K := h.call' _ (gcd_c hz hz' hl hl' ⟨rfl, rfl⟩) (hk _ _ ⟨rfl, rfl⟩)
end Go.Proofs.YtpmlocilhhjifaaGreat.Eng
