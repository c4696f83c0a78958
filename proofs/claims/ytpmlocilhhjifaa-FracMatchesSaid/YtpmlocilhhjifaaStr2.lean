/- The reference's Parse. -/
import Derived.Test.YtpmlocilhhjifaaStr1
set_option maxRecDepth 100000
set_option linter.unusedSimpArgs false
set_option linter.unusedVariables false
set_option pp.maxSteps 200
namespace Go.Proofs.Ytpmlocilhhjifaa.Eng
open Go.RowKit
set_option maxHeartbeats 4000000 in
theorem rparse_c {s : ByteArray} {l0 : List UInt8} {b : Bool} {ys : List (List D)} {e0 : Int} (hs : s = bs l0) (hl' : l0.length ≤ 1000000) (hy : Zc b ys (prs l0).1) (he : e0 = (prs l0).2) : TT 31 [.one (.sc (.string s))] [za b 1 ys, .one (.sc (.int .i64 e0))] := by
  refine con Try.func31 rfl (by kernel_rfl) (by kernel_rfl) fun π Q h hQ => ?_
  have hsl : s.size = l0.length := by rw [hs]; rfl
  cbv
  refine scmp_s h hs (l' := []) rfl fun c hc => ?_
  by_cases hle : l0 = []
  · have : c = false := by rw [hc]; simp [hle]
    subst this
    have hpr : prs l0 = prD false l0 := if_neg (by rw [hle]; simp)
    rw [hpr] at hy he
    obtain ⟨l, hl'⟩ : ∃ l, l = l0 := ⟨_, rfl⟩
    obtain ⟨d, hdd⟩ : ∃ d, d = s := ⟨_, rfl⟩
    subst hl' hdd
    have hd := hs
    cbv
    skip
    ((have hdl : d.size = l.length := by rw [hd]; rfl
      refine h.slen' fun n0 hn0 => ?_
      have hn0 : n0 = (l.length : Int) := by rw [hn0, hdl]
      cbv
      refine h.dec rfl (fun hp => ?_) (fun hp => ?_)
      · have e : prD false l = (0, 5) := if_pos (by (simp only [inR, cmpP, loOk, hiOk, Int.ofNat_eq_natCast, Int.negSucc_eq, IntKind.bits, Int.toNat_natCast, ge_iff_le, gt_iff_lt, ne_eq, wl_len, hl_len, natCast_fold, not_true_eq_false, not_false_eq_true] at * <;> omega))
        rw [e] at hy he
        have e1 : DV.ag [.sc (.bool b), .sl 1 1 ys] = DV.ag [.sc (.bool false), .sl 1 1 []] := hy.eqs (s' := false) (xs' := []) (i' := 0) ⟨rfl, rfl⟩ rfl
        rw [e1, he] at hQ
        cbv
        skip
        exact hQ
      have hlen : l.length ≤ 1000 := by (simp only [inR, cmpP, loOk, hiOk, Int.ofNat_eq_natCast, Int.negSucc_eq, IntKind.bits, Int.toNat_natCast, ge_iff_le, gt_iff_lt, ne_eq, wl_len, hl_len, natCast_fold, not_true_eq_false, not_false_eq_true] at * <;> omega)
      cbv
      refine scmp_s h hd (l' := []) rfl fun c hc => ?_
      by_cases hl0 : l = []
      · have e : prD false l = (0, 3) := by unfold prD; rw [if_neg (by omega), if_pos (.inl hl0)]
        rw [e] at hy he
        have e1 : DV.ag [.sc (.bool b), .sl 1 1 ys] = DV.ag [.sc (.bool false), .sl 1 1 []] := hy.eqs (s' := false) (xs' := []) (i' := 0) ⟨rfl, rfl⟩ rfl
        rw [e1, he] at hQ
        have : c = true := by rw [hc]; simp [hl0]
        subst this
        cbv
        skip
        exact hQ
      have : c = false := by rw [hc]; simp [hl0]
      subst this
      have hlp : 0 < l.length := List.length_pos_iff.2 hl0
      obtain ⟨c0, hg0⟩ : ∃ c0, l[0]? = some c0 := ⟨l[0], List.getElem?_eq_getElem hlp⟩
      have hbad0 : ∀ q : (l[0]? = some 48 ∧ (false = true ∨ 1 < l.length)), prD false l = (0, 3) := fun q => by unfold prD; rw [if_neg (by omega), if_pos (.inr q)]
      cbv
      refine h.sidx' 0 c0 rfl (by rw [hd]; exact bs_get hg0) fun m0 hm0 => ?_
      cbv
     )
     refine h.dec rfl (fun hp => ?_) (fun hp => ?_)
     · have hc0 : c0 = 48 := u8_eq (n := 48) (by (simp only [inR, cmpP, loOk, hiOk, Int.ofNat_eq_natCast, Int.negSucc_eq, IntKind.bits, Int.toNat_natCast, ge_iff_le, gt_iff_lt, ne_eq, wl_len, hl_len, natCast_fold, not_true_eq_false, not_false_eq_true] at * <;> omega)) (by omega)
       rw [hc0] at hg0
       cbv
       refine h.slen' fun n1 hn1 => ?_
       have hn1 : n1 = (l.length : Int) := by rw [hn1, hdl]
       cbv
       refine h.dec rfl (fun hp2 => ?_) (fun hp2 => ?_)
       · rw [hbad0 ⟨hg0, .inr (by (simp only [inR, cmpP, loOk, hiOk, Int.ofNat_eq_natCast, Int.negSucc_eq, IntKind.bits, Int.toNat_natCast, ge_iff_le, gt_iff_lt, ne_eq, wl_len, hl_len, natCast_fold, not_true_eq_false, not_false_eq_true] at * <;> omega))⟩] at hy he
         have e1 : DV.ag [.sc (.bool b), .sl 1 1 ys] = DV.ag [.sc (.bool false), .sl 1 1 []] := hy.eqs (s' := false) (xs' := []) (i' := 0) ⟨rfl, rfl⟩ rfl
         rw [e1, he] at hQ
         cbv
         skip
         exact hQ
       · have hform : ¬ (l = [] ∨ (l[0]? = some 48 ∧ (false = true ∨ 1 < l.length))) := by
           rintro (h1 | ⟨_, h1 | h1⟩)
           · exact hl0 h1
           · cases h1
           · (simp only [inR, cmpP, loOk, hiOk, Int.ofNat_eq_natCast, Int.negSucc_eq, IntKind.bits, Int.toNat_natCast, ge_iff_le, gt_iff_lt, ne_eq, wl_len, hl_len, natCast_fold, not_true_eq_false, not_false_eq_true] at * <;> omega)
         (cbv
          refine h.loop' (Int × List (List D) × Nat × Nat) (fun p => p.1 = (p.2.2.2 : Int) ∧ p.2.1 = hl (dg BH (num (l.take p.2.2.2))) ∧ p.2.2.2 ≤ l.length ∧ (l.take p.2.2.2).all isDig = true ∧ (0 < p.2.2.2 → p.2.2.1 = 1))
            (fun p => ⟨[(2, .p 2 0 0 0), (4, .v (.one (.sc (.bool false)))), (5, .v (.one (.sc (.string d)))), (6, vs p.2.2.1 p.2.1), (7, vi .i64 p.1)], [(2, .bx [.sc (.bool false), .sl 1 1 []])]⟩) (fun p => l.length - p.2.2.2) (0, [], 3, 0) ⟨rfl, rfl, Nat.zero_le _, rfl, fun h => absurd h (Nat.lt_irrefl _)⟩ (by (refine Wk.of [(2, some 2)] rfl ?_ ?_; (· (repeat (first | exact trivial | (refine And.intro ?_ ?_; (· first | exact trivial | exact Or.inl ⟨_, rfl, rfl⟩ | exact ⟨_, rfl, rfl⟩ | exact Or.inr ⟨rfl, rfl, by decide⟩))))); (· (repeat (first | exact trivial | (refine And.intro ?_ ?_; (· first | exact trivial | exact Or.inl rfl | rfl | exact Or.inr ⟨_, _, _, _, rfl, rfl, rfl, renNo rfl⟩ | exact ⟨ne_no rfl, Or.inl ⟨_, rfl, rfl⟩⟩ | exact ⟨ne_no rfl, Or.inr ⟨rfl, _, rfl⟩⟩ | exact ⟨_, rfl, rfl, ne_no rfl⟩))))))) ?_
          rintro ⟨kz, ws, tw, k⟩ R ⟨hkz, hws, hk, hall, htw⟩ hR
          simp only at hkz hws hk hall htw
          have hnum := num_lt _ hall
          rw [List.length_take, Nat.min_eq_left hk] at hnum
          have hwl : (dg BH (num (l.take k))).length ≤ k := dg_len BH2 (Nat.lt_of_lt_of_le hnum (Nat.pow_le_pow_left (by decide) k))
          cbv
          refine h.slen' fun n1 hn1 => ?_
          have hn1 : n1 = (l.length : Int) := by rw [hn1, hdl]
          cbv
          refine h.dec rfl (fun hp => ?_) (fun hp => ?_)
          · obtain ⟨c, hgc⟩ : ∃ c, l[k]? = some c := ⟨l[k]'(by (simp only [inR, cmpP, loOk, hiOk, Int.ofNat_eq_natCast, Int.negSucc_eq, IntKind.bits, Int.toNat_natCast, ge_iff_le, gt_iff_lt, ne_eq, wl_len, hl_len, natCast_fold, not_true_eq_false, not_false_eq_true] at * <;> omega)), List.getElem?_eq_getElem _⟩
            have hc256 := c.toNat_lt
            cbv
            refine h.sidx' k c hkz (by rw [hd]; exact bs_get hgc) fun m hm => ?_
            cbv
            refine h.dec rfl (fun hp2 => ?_) (fun hp2 => ?_)
            · have hbad : l.all isDig = false := not_all hgc (by simp only [isDig]; have : ¬ 48 ≤ c.toNat := by (simp only [inR, cmpP, loOk, hiOk, Int.ofNat_eq_natCast, Int.negSucc_eq, IntKind.bits, Int.toNat_natCast, ge_iff_le, gt_iff_lt, ne_eq, wl_len, hl_len, natCast_fold, not_true_eq_false, not_false_eq_true] at * <;> omega)
                                                                 simp [this])
              (have e : prD false l = (0, 3) := by
                 unfold prD
                 rw [if_neg (by omega), if_neg hform, if_neg (by rw [hbad]; simp)]
               rw [e] at hy he
               have e1 : DV.ag [.sc (.bool b), .sl 1 1 ys] = DV.ag [.sc (.bool false), .sl 1 1 []] := hy.eqs (s' := false) (xs' := []) (i' := 0) ⟨rfl, rfl⟩ rfl
               rw [e1, he] at hQ
               cbv
               skip
               exact hQ
              )
            · cbv
              skip
              refine h.sidx' k c hkz (by rw [hd]; exact bs_get hgc) fun m2 hm2 => ?_
              cbv
              refine h.dec rfl (fun hp3 => ?_) (fun hp3 => ?_)
              · have hbad : l.all isDig = false := not_all hgc (by simp only [isDig]; have : ¬ c.toNat ≤ 57 := by (simp only [inR, cmpP, loOk, hiOk, Int.ofNat_eq_natCast, Int.negSucc_eq, IntKind.bits, Int.toNat_natCast, ge_iff_le, gt_iff_lt, ne_eq, wl_len, hl_len, natCast_fold, not_true_eq_false, not_false_eq_true] at * <;> omega)
                                                                   simp [this])
                (have e : prD false l = (0, 3) := by
                   unfold prD
                   rw [if_neg (by omega), if_neg hform, if_neg (by rw [hbad]; simp)]
                 rw [e] at hy he
                 have e1 : DV.ag [.sc (.bool b), .sl 1 1 ys] = DV.ag [.sc (.bool false), .sl 1 1 []] := hy.eqs (s' := false) (xs' := []) (i' := 0) ⟨rfl, rfl⟩ rfl
                 rw [e1, he] at hQ
                 cbv
                 skip
                 exact hQ
                )
              · have h48 : 48 ≤ c.toNat := by (simp only [inR, cmpP, loOk, hiOk, Int.ofNat_eq_natCast, Int.negSucc_eq, IntKind.bits, Int.toNat_natCast, ge_iff_le, gt_iff_lt, ne_eq, wl_len, hl_len, natCast_fold, not_true_eq_false, not_false_eq_true] at * <;> omega)
                have h57 : c.toNat ≤ 57 := by (simp only [inR, cmpP, loOk, hiOk, Int.ofNat_eq_natCast, Int.negSucc_eq, IntKind.bits, Int.toNat_natCast, ge_iff_le, gt_iff_lt, ne_eq, wl_len, hl_len, natCast_fold, not_true_eq_false, not_false_eq_true] at * <;> omega)
                have hst := num_step hgc
                have l1 : (dg BH (num (l.take k) * 10)).length ≤ k + 1 := by
                  refine dg_len BH2 ?_
                  rw [Nat.pow_succ]
                  exact Nat.mul_lt_mul'' (Nat.lt_of_lt_of_le hnum (Nat.pow_le_pow_left (by decide) k)) (by decide)
                cbv
                skip
                refine times_s h 10 hws (dg_ok BH2 _) (by omega) rfl (by omega) fun z1 q1 => ?_
                rw [dg_val BH2] at q1
                cbv
                refine h.sidx' k c hkz (by rw [hd]; exact bs_get hgc) fun m3 hm3 => ?_
                cbv
                (refine Good.sub' ‹_› ?_ ?_; (· (simp only [inR, cmpP, loOk, hiOk, Int.ofNat_eq_natCast, Int.negSucc_eq, IntKind.bits, Int.toNat_natCast, ge_iff_le, gt_iff_lt, ne_eq, wl_len, hl_len, natCast_fold, not_true_eq_false, not_false_eq_true] at * <;> omega)); intro _ _; cbv; refine Good.convi ‹_› ?_ ?_; (· (simp only [inR, cmpP, loOk, hiOk, Int.ofNat_eq_natCast, Int.negSucc_eq, IntKind.bits, Int.toNat_natCast, ge_iff_le, gt_iff_lt, ne_eq, wl_len, hl_len, natCast_fold, not_true_eq_false, not_false_eq_true] at * <;> omega)); cbv)
                rename_i m4 hm4
                have hm4 : m4 = ((c.toNat - 48 : Nat) : Int) := by (simp only [inR, cmpP, loOk, hiOk, Int.ofNat_eq_natCast, Int.negSucc_eq, IntKind.bits, Int.toNat_natCast, ge_iff_le, gt_iff_lt, ne_eq, wl_len, hl_len, natCast_fold, not_true_eq_false, not_false_eq_true] at * <;> omega)
                have hcB : c.toNat - 48 < BH := by rw [BH_eq]; omega
                refine rtrim_s h (ws := [c.toNat - 48]) (by rw [hm4]; rfl) (Ok.of hcB Ok.nil) (by simp) fun z2 q2 => ?_
                rw [val_one] at q2
                have l2 : (dg BH (c.toNat - 48)).length ≤ 1 := dg_len BH2 (by rw [Nat.pow_one]; exact hcB)
                cbv
                refine radd_s h q1 q2 (dg_ok BH2 _) (dg_ok BH2 _) (by omega) (by omega) fun z3 q9 => ?_
                rw [dg_val BH2, dg_val BH2, Nat.mul_comm, ← hst] at q9
                cbv
                (refine Good.chk' ‹_› rfl ?_; cbv; refine Good.add' ‹_› ?_ ?_; (· (simp only [inR, cmpP, loOk, hiOk, Int.ofNat_eq_natCast, Int.negSucc_eq, IntKind.bits, Int.toNat_natCast, ge_iff_le, gt_iff_lt, ne_eq, wl_len, hl_len, natCast_fold, not_true_eq_false, not_false_eq_true] at * <;> omega)); intro _ _; cbv)
                rename_i k1 hk1
                have hd1 : isDig c = true := by simp only [isDig]; simp [h48, h57]
                refine hR _ (k1, z3, 1, k + 1) ⟨by simp only; (simp only [inR, cmpP, loOk, hiOk, Int.ofNat_eq_natCast, Int.negSucc_eq, IntKind.bits, Int.toNat_natCast, ge_iff_le, gt_iff_lt, ne_eq, wl_len, hl_len, natCast_fold, not_true_eq_false, not_false_eq_true] at * <;> omega), q9, by simp only; (simp only [inR, cmpP, loOk, hiOk, Int.ofNat_eq_natCast, Int.negSucc_eq, IntKind.bits, Int.toNat_natCast, ge_iff_le, gt_iff_lt, ne_eq, wl_len, hl_len, natCast_fold, not_true_eq_false, not_false_eq_true] at * <;> omega), ?_, fun _ => rfl⟩ (by simp only; (simp only [inR, cmpP, loOk, hiOk, Int.ofNat_eq_natCast, Int.negSucc_eq, IntKind.bits, Int.toNat_natCast, ge_iff_le, gt_iff_lt, ne_eq, wl_len, hl_len, natCast_fold, not_true_eq_false, not_false_eq_true] at * <;> omega)) (by (refine Wk.of [(2, some 2)] rfl ?_ ?_; (· (repeat (first | exact trivial | (refine And.intro ?_ ?_; (· first | exact trivial | exact Or.inl ⟨_, rfl, rfl⟩ | exact ⟨_, rfl, rfl⟩ | exact Or.inr ⟨rfl, rfl, by decide⟩))))); (· (repeat (first | exact trivial | (refine And.intro ?_ ?_; (· first | exact trivial | exact Or.inl rfl | rfl | exact Or.inr ⟨_, _, _, _, rfl, rfl, rfl, renNo rfl⟩ | exact ⟨ne_no rfl, Or.inl ⟨_, rfl, rfl⟩⟩ | exact ⟨ne_no rfl, Or.inr ⟨rfl, _, rfl⟩⟩ | exact ⟨_, rfl, rfl, ne_no rfl⟩)))))))
                show (l.take (k + 1)).all isDig = true
                rw [all_step hgc, hall, hd1]; rfl
          · have hkl : k = l.length := by (simp only [inR, cmpP, loOk, hiOk, Int.ofNat_eq_natCast, Int.negSucc_eq, IntKind.bits, Int.toNat_natCast, ge_iff_le, gt_iff_lt, ne_eq, wl_len, hl_len, natCast_fold, not_true_eq_false, not_false_eq_true] at * <;> omega)
            rw [hkl, List.take_length] at hws hall hwl
            have e : prD false l = (sg false (num l), 0) := by
              unfold prD
              rw [if_neg (by omega), if_neg hform, if_pos hall]
            rw [e] at hy he
            cbv
            refine of_s h hws (dg_ok BH2 _) (by omega) fun b1 y1 hz1 => ?_
            rw [show za b1 1 y1 = za b 1 ys from za_eq hz1 hy (by rw [dg_val BH2])]
            rw [he] at hQ
            cbv
            skip
            exact hQ
         )
     · have hform : ¬ (l = [] ∨ (l[0]? = some 48 ∧ (false = true ∨ 1 < l.length))) := by
         rintro (h1 | ⟨h1, _⟩)
         · exact hl0 h1
         · rw [hg0] at h1
           have := Option.some.inj h1
           subst this
           have q48 : UInt8.toNat 48 = 48 := rfl
           exact hp (by (simp only [inR, cmpP, loOk, hiOk, Int.ofNat_eq_natCast, Int.negSucc_eq, IntKind.bits, Int.toNat_natCast, ge_iff_le, gt_iff_lt, ne_eq, wl_len, hl_len, natCast_fold, not_true_eq_false, not_false_eq_true] at * <;> omega))
       (cbv
        refine h.loop' (Int × List (List D) × Nat × Nat) (fun p => p.1 = (p.2.2.2 : Int) ∧ p.2.1 = hl (dg BH (num (l.take p.2.2.2))) ∧ p.2.2.2 ≤ l.length ∧ (l.take p.2.2.2).all isDig = true ∧ (0 < p.2.2.2 → p.2.2.1 = 1))
          (fun p => ⟨[(2, .p 2 0 0 0), (4, .v (.one (.sc (.bool false)))), (5, .v (.one (.sc (.string d)))), (6, vs p.2.2.1 p.2.1), (7, vi .i64 p.1)], [(2, .bx [.sc (.bool false), .sl 1 1 []])]⟩) (fun p => l.length - p.2.2.2) (0, [], 3, 0) ⟨rfl, rfl, Nat.zero_le _, rfl, fun h => absurd h (Nat.lt_irrefl _)⟩ (by (refine Wk.of [(2, some 2)] rfl ?_ ?_; (· (repeat (first | exact trivial | (refine And.intro ?_ ?_; (· first | exact trivial | exact Or.inl ⟨_, rfl, rfl⟩ | exact ⟨_, rfl, rfl⟩ | exact Or.inr ⟨rfl, rfl, by decide⟩))))); (· (repeat (first | exact trivial | (refine And.intro ?_ ?_; (· first | exact trivial | exact Or.inl rfl | rfl | exact Or.inr ⟨_, _, _, _, rfl, rfl, rfl, renNo rfl⟩ | exact ⟨ne_no rfl, Or.inl ⟨_, rfl, rfl⟩⟩ | exact ⟨ne_no rfl, Or.inr ⟨rfl, _, rfl⟩⟩ | exact ⟨_, rfl, rfl, ne_no rfl⟩))))))) ?_
        rintro ⟨kz, ws, tw, k⟩ R ⟨hkz, hws, hk, hall, htw⟩ hR
        simp only at hkz hws hk hall htw
        have hnum := num_lt _ hall
        rw [List.length_take, Nat.min_eq_left hk] at hnum
        have hwl : (dg BH (num (l.take k))).length ≤ k := dg_len BH2 (Nat.lt_of_lt_of_le hnum (Nat.pow_le_pow_left (by decide) k))
        cbv
        refine h.slen' fun n1 hn1 => ?_
        have hn1 : n1 = (l.length : Int) := by rw [hn1, hdl]
        cbv
        refine h.dec rfl (fun hp => ?_) (fun hp => ?_)
        · obtain ⟨c, hgc⟩ : ∃ c, l[k]? = some c := ⟨l[k]'(by (simp only [inR, cmpP, loOk, hiOk, Int.ofNat_eq_natCast, Int.negSucc_eq, IntKind.bits, Int.toNat_natCast, ge_iff_le, gt_iff_lt, ne_eq, wl_len, hl_len, natCast_fold, not_true_eq_false, not_false_eq_true] at * <;> omega)), List.getElem?_eq_getElem _⟩
          have hc256 := c.toNat_lt
          cbv
          refine h.sidx' k c hkz (by rw [hd]; exact bs_get hgc) fun m hm => ?_
          cbv
          refine h.dec rfl (fun hp2 => ?_) (fun hp2 => ?_)
          · have hbad : l.all isDig = false := not_all hgc (by simp only [isDig]; have : ¬ 48 ≤ c.toNat := by (simp only [inR, cmpP, loOk, hiOk, Int.ofNat_eq_natCast, Int.negSucc_eq, IntKind.bits, Int.toNat_natCast, ge_iff_le, gt_iff_lt, ne_eq, wl_len, hl_len, natCast_fold, not_true_eq_false, not_false_eq_true] at * <;> omega)
                                                               simp [this])
            (have e : prD false l = (0, 3) := by
               unfold prD
               rw [if_neg (by omega), if_neg hform, if_neg (by rw [hbad]; simp)]
             rw [e] at hy he
             have e1 : DV.ag [.sc (.bool b), .sl 1 1 ys] = DV.ag [.sc (.bool false), .sl 1 1 []] := hy.eqs (s' := false) (xs' := []) (i' := 0) ⟨rfl, rfl⟩ rfl
             rw [e1, he] at hQ
             cbv
             skip
             exact hQ
            )
          · cbv
            skip
            refine h.sidx' k c hkz (by rw [hd]; exact bs_get hgc) fun m2 hm2 => ?_
            cbv
            refine h.dec rfl (fun hp3 => ?_) (fun hp3 => ?_)
            · have hbad : l.all isDig = false := not_all hgc (by simp only [isDig]; have : ¬ c.toNat ≤ 57 := by (simp only [inR, cmpP, loOk, hiOk, Int.ofNat_eq_natCast, Int.negSucc_eq, IntKind.bits, Int.toNat_natCast, ge_iff_le, gt_iff_lt, ne_eq, wl_len, hl_len, natCast_fold, not_true_eq_false, not_false_eq_true] at * <;> omega)
                                                                 simp [this])
              (have e : prD false l = (0, 3) := by
                 unfold prD
                 rw [if_neg (by omega), if_neg hform, if_neg (by rw [hbad]; simp)]
               rw [e] at hy he
               have e1 : DV.ag [.sc (.bool b), .sl 1 1 ys] = DV.ag [.sc (.bool false), .sl 1 1 []] := hy.eqs (s' := false) (xs' := []) (i' := 0) ⟨rfl, rfl⟩ rfl
               rw [e1, he] at hQ
               cbv
               skip
               exact hQ
              )
            · have h48 : 48 ≤ c.toNat := by (simp only [inR, cmpP, loOk, hiOk, Int.ofNat_eq_natCast, Int.negSucc_eq, IntKind.bits, Int.toNat_natCast, ge_iff_le, gt_iff_lt, ne_eq, wl_len, hl_len, natCast_fold, not_true_eq_false, not_false_eq_true] at * <;> omega)
              have h57 : c.toNat ≤ 57 := by (simp only [inR, cmpP, loOk, hiOk, Int.ofNat_eq_natCast, Int.negSucc_eq, IntKind.bits, Int.toNat_natCast, ge_iff_le, gt_iff_lt, ne_eq, wl_len, hl_len, natCast_fold, not_true_eq_false, not_false_eq_true] at * <;> omega)
              have hst := num_step hgc
              have l1 : (dg BH (num (l.take k) * 10)).length ≤ k + 1 := by
                refine dg_len BH2 ?_
                rw [Nat.pow_succ]
                exact Nat.mul_lt_mul'' (Nat.lt_of_lt_of_le hnum (Nat.pow_le_pow_left (by decide) k)) (by decide)
              cbv
              skip
              refine times_s h 10 hws (dg_ok BH2 _) (by omega) rfl (by omega) fun z1 q1 => ?_
              rw [dg_val BH2] at q1
              cbv
              refine h.sidx' k c hkz (by rw [hd]; exact bs_get hgc) fun m3 hm3 => ?_
              cbv
              (refine Good.sub' ‹_› ?_ ?_; (· (simp only [inR, cmpP, loOk, hiOk, Int.ofNat_eq_natCast, Int.negSucc_eq, IntKind.bits, Int.toNat_natCast, ge_iff_le, gt_iff_lt, ne_eq, wl_len, hl_len, natCast_fold, not_true_eq_false, not_false_eq_true] at * <;> omega)); intro _ _; cbv; refine Good.convi ‹_› ?_ ?_; (· (simp only [inR, cmpP, loOk, hiOk, Int.ofNat_eq_natCast, Int.negSucc_eq, IntKind.bits, Int.toNat_natCast, ge_iff_le, gt_iff_lt, ne_eq, wl_len, hl_len, natCast_fold, not_true_eq_false, not_false_eq_true] at * <;> omega)); cbv)
              rename_i m4 hm4
              have hm4 : m4 = ((c.toNat - 48 : Nat) : Int) := by (simp only [inR, cmpP, loOk, hiOk, Int.ofNat_eq_natCast, Int.negSucc_eq, IntKind.bits, Int.toNat_natCast, ge_iff_le, gt_iff_lt, ne_eq, wl_len, hl_len, natCast_fold, not_true_eq_false, not_false_eq_true] at * <;> omega)
              have hcB : c.toNat - 48 < BH := by rw [BH_eq]; omega
              refine rtrim_s h (ws := [c.toNat - 48]) (by rw [hm4]; rfl) (Ok.of hcB Ok.nil) (by simp) fun z2 q2 => ?_
              rw [val_one] at q2
              have l2 : (dg BH (c.toNat - 48)).length ≤ 1 := dg_len BH2 (by rw [Nat.pow_one]; exact hcB)
              cbv
              refine radd_s h q1 q2 (dg_ok BH2 _) (dg_ok BH2 _) (by omega) (by omega) fun z3 q9 => ?_
              rw [dg_val BH2, dg_val BH2, Nat.mul_comm, ← hst] at q9
              cbv
              (refine Good.chk' ‹_› rfl ?_; cbv; refine Good.add' ‹_› ?_ ?_; (· (simp only [inR, cmpP, loOk, hiOk, Int.ofNat_eq_natCast, Int.negSucc_eq, IntKind.bits, Int.toNat_natCast, ge_iff_le, gt_iff_lt, ne_eq, wl_len, hl_len, natCast_fold, not_true_eq_false, not_false_eq_true] at * <;> omega)); intro _ _; cbv)
              rename_i k1 hk1
              have hd1 : isDig c = true := by simp only [isDig]; simp [h48, h57]
              refine hR _ (k1, z3, 1, k + 1) ⟨by simp only; (simp only [inR, cmpP, loOk, hiOk, Int.ofNat_eq_natCast, Int.negSucc_eq, IntKind.bits, Int.toNat_natCast, ge_iff_le, gt_iff_lt, ne_eq, wl_len, hl_len, natCast_fold, not_true_eq_false, not_false_eq_true] at * <;> omega), q9, by simp only; (simp only [inR, cmpP, loOk, hiOk, Int.ofNat_eq_natCast, Int.negSucc_eq, IntKind.bits, Int.toNat_natCast, ge_iff_le, gt_iff_lt, ne_eq, wl_len, hl_len, natCast_fold, not_true_eq_false, not_false_eq_true] at * <;> omega), ?_, fun _ => rfl⟩ (by simp only; (simp only [inR, cmpP, loOk, hiOk, Int.ofNat_eq_natCast, Int.negSucc_eq, IntKind.bits, Int.toNat_natCast, ge_iff_le, gt_iff_lt, ne_eq, wl_len, hl_len, natCast_fold, not_true_eq_false, not_false_eq_true] at * <;> omega)) (by (refine Wk.of [(2, some 2)] rfl ?_ ?_; (· (repeat (first | exact trivial | (refine And.intro ?_ ?_; (· first | exact trivial | exact Or.inl ⟨_, rfl, rfl⟩ | exact ⟨_, rfl, rfl⟩ | exact Or.inr ⟨rfl, rfl, by decide⟩))))); (· (repeat (first | exact trivial | (refine And.intro ?_ ?_; (· first | exact trivial | exact Or.inl rfl | rfl | exact Or.inr ⟨_, _, _, _, rfl, rfl, rfl, renNo rfl⟩ | exact ⟨ne_no rfl, Or.inl ⟨_, rfl, rfl⟩⟩ | exact ⟨ne_no rfl, Or.inr ⟨rfl, _, rfl⟩⟩ | exact ⟨_, rfl, rfl, ne_no rfl⟩)))))))
              show (l.take (k + 1)).all isDig = true
              rw [all_step hgc, hall, hd1]; rfl
        · have hkl : k = l.length := by (simp only [inR, cmpP, loOk, hiOk, Int.ofNat_eq_natCast, Int.negSucc_eq, IntKind.bits, Int.toNat_natCast, ge_iff_le, gt_iff_lt, ne_eq, wl_len, hl_len, natCast_fold, not_true_eq_false, not_false_eq_true] at * <;> omega)
          rw [hkl, List.take_length] at hws hall hwl
          have e : prD false l = (sg false (num l), 0) := by
            unfold prD
            rw [if_neg (by omega), if_neg hform, if_pos hall]
          rw [e] at hy he
          cbv
          refine of_s h hws (dg_ok BH2 _) (by omega) fun b1 y1 hz1 => ?_
          rw [show za b1 1 y1 = za b 1 ys from za_eq hz1 hy (by rw [dg_val BH2])]
          rw [he] at hQ
          cbv
          skip
          exact hQ
       )
    )
  · have : c = true := by rw [hc]; simp [hle]
    subst this
    have hlp : 0 < l0.length := List.length_pos_iff.2 hle
    obtain ⟨c1, hg1⟩ : ∃ c1, l0[0]? = some c1 := ⟨l0[0], List.getElem?_eq_getElem hlp⟩
    cbv
    refine h.sidx' 0 c1 rfl (by rw [hs]; exact bs_get hg1) fun m1 hm1 => ?_
    cbv
    refine h.dec rfl (fun hp1 => ?_) (fun hp1 => ?_)
    · have hc1 : c1 = 45 := u8_eq (n := 45) (by (simp only [inR, cmpP, loOk, hiOk, Int.ofNat_eq_natCast, Int.negSucc_eq, IntKind.bits, Int.toNat_natCast, ge_iff_le, gt_iff_lt, ne_eq, wl_len, hl_len, natCast_fold, not_true_eq_false, not_false_eq_true] at * <;> omega)) (by omega)
      subst hc1
      have hpr : prs l0 = prD true (l0.drop 1) := if_pos hg1
      rw [hpr] at hy he
      obtain ⟨l, hl2⟩ : ∃ l, l = l0.drop 1 := ⟨_, rfl⟩
      have hll : l.length ≤ 1000000 := by rw [hl2, List.length_drop]; omega
      rw [← hl2] at hy he
      cbv
      skip
      refine h.ssli' 1 l0.length rfl (by rw [hsl]; rfl) (by omega) (by rw [hsl]; exact Nat.le_refl _) fun d hd => ?_
      have hd : d = bs l := by rw [hd, hs, bs_drop, hl2]
      clear hl2 hpr hg1
      cbv
      skip
      (have hdl : d.size = l.length := by rw [hd]; rfl
       refine h.slen' fun n0 hn0 => ?_
       have hn0 : n0 = (l.length : Int) := by rw [hn0, hdl]
       cbv
       refine h.dec rfl (fun hp => ?_) (fun hp => ?_)
       · have e : prD true l = (0, 5) := if_pos (by (simp only [inR, cmpP, loOk, hiOk, Int.ofNat_eq_natCast, Int.negSucc_eq, IntKind.bits, Int.toNat_natCast, ge_iff_le, gt_iff_lt, ne_eq, wl_len, hl_len, natCast_fold, not_true_eq_false, not_false_eq_true] at * <;> omega))
         rw [e] at hy he
         have e1 : DV.ag [.sc (.bool b), .sl 1 1 ys] = DV.ag [.sc (.bool false), .sl 1 1 []] := hy.eqs (s' := false) (xs' := []) (i' := 0) ⟨rfl, rfl⟩ rfl
         rw [e1, he] at hQ
         cbv
         skip
         exact hQ
       have hlen : l.length ≤ 1000 := by (simp only [inR, cmpP, loOk, hiOk, Int.ofNat_eq_natCast, Int.negSucc_eq, IntKind.bits, Int.toNat_natCast, ge_iff_le, gt_iff_lt, ne_eq, wl_len, hl_len, natCast_fold, not_true_eq_false, not_false_eq_true] at * <;> omega)
       cbv
       refine scmp_s h hd (l' := []) rfl fun c hc => ?_
       by_cases hl0 : l = []
       · have e : prD true l = (0, 3) := by unfold prD; rw [if_neg (by omega), if_pos (.inl hl0)]
         rw [e] at hy he
         have e1 : DV.ag [.sc (.bool b), .sl 1 1 ys] = DV.ag [.sc (.bool false), .sl 1 1 []] := hy.eqs (s' := false) (xs' := []) (i' := 0) ⟨rfl, rfl⟩ rfl
         rw [e1, he] at hQ
         have : c = true := by rw [hc]; simp [hl0]
         subst this
         cbv
         skip
         exact hQ
       have : c = false := by rw [hc]; simp [hl0]
       subst this
       have hlp : 0 < l.length := List.length_pos_iff.2 hl0
       obtain ⟨c0, hg0⟩ : ∃ c0, l[0]? = some c0 := ⟨l[0], List.getElem?_eq_getElem hlp⟩
       have hbad0 : ∀ q : (l[0]? = some 48 ∧ (true = true ∨ 1 < l.length)), prD true l = (0, 3) := fun q => by unfold prD; rw [if_neg (by omega), if_pos (.inr q)]
       cbv
       refine h.sidx' 0 c0 rfl (by rw [hd]; exact bs_get hg0) fun m0 hm0 => ?_
       cbv
      )
      refine h.dec rfl (fun hp => ?_) (fun hp => ?_)
      · have hc0 : c0 = 48 := u8_eq (n := 48) (by (simp only [inR, cmpP, loOk, hiOk, Int.ofNat_eq_natCast, Int.negSucc_eq, IntKind.bits, Int.toNat_natCast, ge_iff_le, gt_iff_lt, ne_eq, wl_len, hl_len, natCast_fold, not_true_eq_false, not_false_eq_true] at * <;> omega)) (by omega)
        rw [hc0] at hg0
        rw [hbad0 ⟨hg0, .inl rfl⟩] at hy he
        have e1 : DV.ag [.sc (.bool b), .sl 1 1 ys] = DV.ag [.sc (.bool false), .sl 1 1 []] := hy.eqs (s' := false) (xs' := []) (i' := 0) ⟨rfl, rfl⟩ rfl
        rw [e1, he] at hQ
        cbv
        refine h.slen' fun n1 hn1 => ?_
        have hn1 : n1 = (l.length : Int) := by rw [hn1, hdl]
        cbv
        refine h.dec rfl (fun hp2 => ?_) (fun hp2 => ?_)
        · cbv
          skip
          exact hQ
        · cbv
          skip
          exact hQ
      · have hform : ¬ (l = [] ∨ (l[0]? = some 48 ∧ (true = true ∨ 1 < l.length))) := by
          rintro (h1 | ⟨h1, _⟩)
          · exact hl0 h1
          · rw [hg0] at h1
            have := Option.some.inj h1
            subst this
            have q48 : UInt8.toNat 48 = 48 := rfl
            exact hp (by (simp only [inR, cmpP, loOk, hiOk, Int.ofNat_eq_natCast, Int.negSucc_eq, IntKind.bits, Int.toNat_natCast, ge_iff_le, gt_iff_lt, ne_eq, wl_len, hl_len, natCast_fold, not_true_eq_false, not_false_eq_true] at * <;> omega))
        (cbv
         refine h.loop' (Int × List (List D) × Nat × Nat) (fun p => p.1 = (p.2.2.2 : Int) ∧ p.2.1 = hl (dg BH (num (l.take p.2.2.2))) ∧ p.2.2.2 ≤ l.length ∧ (l.take p.2.2.2).all isDig = true ∧ (0 < p.2.2.2 → p.2.2.1 = 1))
           (fun p => ⟨[(2, .p 2 0 0 0), (4, .v (.one (.sc (.bool true)))), (5, .v (.one (.sc (.string d)))), (6, vs p.2.2.1 p.2.1), (7, vi .i64 p.1)], [(2, .bx [.sc (.bool false), .sl 1 1 []])]⟩) (fun p => l.length - p.2.2.2) (0, [], 3, 0) ⟨rfl, rfl, Nat.zero_le _, rfl, fun h => absurd h (Nat.lt_irrefl _)⟩ (by (refine Wk.of [(2, some 2)] rfl ?_ ?_; (· (repeat (first | exact trivial | (refine And.intro ?_ ?_; (· first | exact trivial | exact Or.inl ⟨_, rfl, rfl⟩ | exact ⟨_, rfl, rfl⟩ | exact Or.inr ⟨rfl, rfl, by decide⟩))))); (· (repeat (first | exact trivial | (refine And.intro ?_ ?_; (· first | exact trivial | exact Or.inl rfl | rfl | exact Or.inr ⟨_, _, _, _, rfl, rfl, rfl, renNo rfl⟩ | exact ⟨ne_no rfl, Or.inl ⟨_, rfl, rfl⟩⟩ | exact ⟨ne_no rfl, Or.inr ⟨rfl, _, rfl⟩⟩ | exact ⟨_, rfl, rfl, ne_no rfl⟩))))))) ?_
         rintro ⟨kz, ws, tw, k⟩ R ⟨hkz, hws, hk, hall, htw⟩ hR
         simp only at hkz hws hk hall htw
         have hnum := num_lt _ hall
         rw [List.length_take, Nat.min_eq_left hk] at hnum
         have hwl : (dg BH (num (l.take k))).length ≤ k := dg_len BH2 (Nat.lt_of_lt_of_le hnum (Nat.pow_le_pow_left (by decide) k))
         cbv
         refine h.slen' fun n1 hn1 => ?_
         have hn1 : n1 = (l.length : Int) := by rw [hn1, hdl]
         cbv
         refine h.dec rfl (fun hp => ?_) (fun hp => ?_)
         · obtain ⟨c, hgc⟩ : ∃ c, l[k]? = some c := ⟨l[k]'(by (simp only [inR, cmpP, loOk, hiOk, Int.ofNat_eq_natCast, Int.negSucc_eq, IntKind.bits, Int.toNat_natCast, ge_iff_le, gt_iff_lt, ne_eq, wl_len, hl_len, natCast_fold, not_true_eq_false, not_false_eq_true] at * <;> omega)), List.getElem?_eq_getElem _⟩
           have hc256 := c.toNat_lt
           cbv
           refine h.sidx' k c hkz (by rw [hd]; exact bs_get hgc) fun m hm => ?_
           cbv
           refine h.dec rfl (fun hp2 => ?_) (fun hp2 => ?_)
           · have hbad : l.all isDig = false := not_all hgc (by simp only [isDig]; have : ¬ 48 ≤ c.toNat := by (simp only [inR, cmpP, loOk, hiOk, Int.ofNat_eq_natCast, Int.negSucc_eq, IntKind.bits, Int.toNat_natCast, ge_iff_le, gt_iff_lt, ne_eq, wl_len, hl_len, natCast_fold, not_true_eq_false, not_false_eq_true] at * <;> omega)
                                                                simp [this])
             (have e : prD true l = (0, 3) := by
                unfold prD
                rw [if_neg (by omega), if_neg hform, if_neg (by rw [hbad]; simp)]
              rw [e] at hy he
              have e1 : DV.ag [.sc (.bool b), .sl 1 1 ys] = DV.ag [.sc (.bool false), .sl 1 1 []] := hy.eqs (s' := false) (xs' := []) (i' := 0) ⟨rfl, rfl⟩ rfl
              rw [e1, he] at hQ
              cbv
              skip
              exact hQ
             )
           · cbv
             skip
             refine h.sidx' k c hkz (by rw [hd]; exact bs_get hgc) fun m2 hm2 => ?_
             cbv
             refine h.dec rfl (fun hp3 => ?_) (fun hp3 => ?_)
             · have hbad : l.all isDig = false := not_all hgc (by simp only [isDig]; have : ¬ c.toNat ≤ 57 := by (simp only [inR, cmpP, loOk, hiOk, Int.ofNat_eq_natCast, Int.negSucc_eq, IntKind.bits, Int.toNat_natCast, ge_iff_le, gt_iff_lt, ne_eq, wl_len, hl_len, natCast_fold, not_true_eq_false, not_false_eq_true] at * <;> omega)
                                                                  simp [this])
               (have e : prD true l = (0, 3) := by
                  unfold prD
                  rw [if_neg (by omega), if_neg hform, if_neg (by rw [hbad]; simp)]
                rw [e] at hy he
                have e1 : DV.ag [.sc (.bool b), .sl 1 1 ys] = DV.ag [.sc (.bool false), .sl 1 1 []] := hy.eqs (s' := false) (xs' := []) (i' := 0) ⟨rfl, rfl⟩ rfl
                rw [e1, he] at hQ
                cbv
                skip
                exact hQ
               )
             · have h48 : 48 ≤ c.toNat := by (simp only [inR, cmpP, loOk, hiOk, Int.ofNat_eq_natCast, Int.negSucc_eq, IntKind.bits, Int.toNat_natCast, ge_iff_le, gt_iff_lt, ne_eq, wl_len, hl_len, natCast_fold, not_true_eq_false, not_false_eq_true] at * <;> omega)
               have h57 : c.toNat ≤ 57 := by (simp only [inR, cmpP, loOk, hiOk, Int.ofNat_eq_natCast, Int.negSucc_eq, IntKind.bits, Int.toNat_natCast, ge_iff_le, gt_iff_lt, ne_eq, wl_len, hl_len, natCast_fold, not_true_eq_false, not_false_eq_true] at * <;> omega)
               have hst := num_step hgc
               have l1 : (dg BH (num (l.take k) * 10)).length ≤ k + 1 := by
                 refine dg_len BH2 ?_
                 rw [Nat.pow_succ]
                 exact Nat.mul_lt_mul'' (Nat.lt_of_lt_of_le hnum (Nat.pow_le_pow_left (by decide) k)) (by decide)
               cbv
               skip
               refine times_s h 10 hws (dg_ok BH2 _) (by omega) rfl (by omega) fun z1 q1 => ?_
               rw [dg_val BH2] at q1
               cbv
               refine h.sidx' k c hkz (by rw [hd]; exact bs_get hgc) fun m3 hm3 => ?_
               cbv
               (refine Good.sub' ‹_› ?_ ?_; (· (simp only [inR, cmpP, loOk, hiOk, Int.ofNat_eq_natCast, Int.negSucc_eq, IntKind.bits, Int.toNat_natCast, ge_iff_le, gt_iff_lt, ne_eq, wl_len, hl_len, natCast_fold, not_true_eq_false, not_false_eq_true] at * <;> omega)); intro _ _; cbv; refine Good.convi ‹_› ?_ ?_; (· (simp only [inR, cmpP, loOk, hiOk, Int.ofNat_eq_natCast, Int.negSucc_eq, IntKind.bits, Int.toNat_natCast, ge_iff_le, gt_iff_lt, ne_eq, wl_len, hl_len, natCast_fold, not_true_eq_false, not_false_eq_true] at * <;> omega)); cbv)
               rename_i m4 hm4
               have hm4 : m4 = ((c.toNat - 48 : Nat) : Int) := by (simp only [inR, cmpP, loOk, hiOk, Int.ofNat_eq_natCast, Int.negSucc_eq, IntKind.bits, Int.toNat_natCast, ge_iff_le, gt_iff_lt, ne_eq, wl_len, hl_len, natCast_fold, not_true_eq_false, not_false_eq_true] at * <;> omega)
               have hcB : c.toNat - 48 < BH := by rw [BH_eq]; omega
               refine rtrim_s h (ws := [c.toNat - 48]) (by rw [hm4]; rfl) (Ok.of hcB Ok.nil) (by simp) fun z2 q2 => ?_
               rw [val_one] at q2
               have l2 : (dg BH (c.toNat - 48)).length ≤ 1 := dg_len BH2 (by rw [Nat.pow_one]; exact hcB)
               cbv
               refine radd_s h q1 q2 (dg_ok BH2 _) (dg_ok BH2 _) (by omega) (by omega) fun z3 q9 => ?_
               rw [dg_val BH2, dg_val BH2, Nat.mul_comm, ← hst] at q9
               cbv
               (refine Good.chk' ‹_› rfl ?_; cbv; refine Good.add' ‹_› ?_ ?_; (· (simp only [inR, cmpP, loOk, hiOk, Int.ofNat_eq_natCast, Int.negSucc_eq, IntKind.bits, Int.toNat_natCast, ge_iff_le, gt_iff_lt, ne_eq, wl_len, hl_len, natCast_fold, not_true_eq_false, not_false_eq_true] at * <;> omega)); intro _ _; cbv)
               rename_i k1 hk1
               have hd1 : isDig c = true := by simp only [isDig]; simp [h48, h57]
               refine hR _ (k1, z3, 1, k + 1) ⟨by simp only; (simp only [inR, cmpP, loOk, hiOk, Int.ofNat_eq_natCast, Int.negSucc_eq, IntKind.bits, Int.toNat_natCast, ge_iff_le, gt_iff_lt, ne_eq, wl_len, hl_len, natCast_fold, not_true_eq_false, not_false_eq_true] at * <;> omega), q9, by simp only; (simp only [inR, cmpP, loOk, hiOk, Int.ofNat_eq_natCast, Int.negSucc_eq, IntKind.bits, Int.toNat_natCast, ge_iff_le, gt_iff_lt, ne_eq, wl_len, hl_len, natCast_fold, not_true_eq_false, not_false_eq_true] at * <;> omega), ?_, fun _ => rfl⟩ (by simp only; (simp only [inR, cmpP, loOk, hiOk, Int.ofNat_eq_natCast, Int.negSucc_eq, IntKind.bits, Int.toNat_natCast, ge_iff_le, gt_iff_lt, ne_eq, wl_len, hl_len, natCast_fold, not_true_eq_false, not_false_eq_true] at * <;> omega)) (by (refine Wk.of [(2, some 2)] rfl ?_ ?_; (· (repeat (first | exact trivial | (refine And.intro ?_ ?_; (· first | exact trivial | exact Or.inl ⟨_, rfl, rfl⟩ | exact ⟨_, rfl, rfl⟩ | exact Or.inr ⟨rfl, rfl, by decide⟩))))); (· (repeat (first | exact trivial | (refine And.intro ?_ ?_; (· first | exact trivial | exact Or.inl rfl | rfl | exact Or.inr ⟨_, _, _, _, rfl, rfl, rfl, renNo rfl⟩ | exact ⟨ne_no rfl, Or.inl ⟨_, rfl, rfl⟩⟩ | exact ⟨ne_no rfl, Or.inr ⟨rfl, _, rfl⟩⟩ | exact ⟨_, rfl, rfl, ne_no rfl⟩)))))))
               show (l.take (k + 1)).all isDig = true
               rw [all_step hgc, hall, hd1]; rfl
         · have hkl : k = l.length := by (simp only [inR, cmpP, loOk, hiOk, Int.ofNat_eq_natCast, Int.negSucc_eq, IntKind.bits, Int.toNat_natCast, ge_iff_le, gt_iff_lt, ne_eq, wl_len, hl_len, natCast_fold, not_true_eq_false, not_false_eq_true] at * <;> omega)
           rw [hkl, List.take_length] at hws hall hwl
           have e : prD true l = (sg true (num l), 0) := by
             unfold prD
             rw [if_neg (by omega), if_neg hform, if_pos hall]
           rw [e] at hy he
           cbv
           refine of_s h hws (dg_ok BH2 _) (by omega) fun b1 y1 hz1 => ?_
           rw [show za b1 1 y1 = za b 1 ys from za_eq hz1 hy (by rw [dg_val BH2])]
           rw [he] at hQ
           cbv
           skip
           exact hQ
        )
    · have hc1 : c1 ≠ 45 := fun e => hp1 (by rw [e] at hm1; have : (UInt8.toNat 45) = 45 := rfl; (simp only [inR, cmpP, loOk, hiOk, Int.ofNat_eq_natCast, Int.negSucc_eq, IntKind.bits, Int.toNat_natCast, ge_iff_le, gt_iff_lt, ne_eq, wl_len, hl_len, natCast_fold, not_true_eq_false, not_false_eq_true] at * <;> omega))
      have hpr : prs l0 = prD false l0 := if_neg (by rw [hg1]; exact fun e => hc1 (Option.some.inj e))
      rw [hpr] at hy he
      obtain ⟨l, hl2⟩ : ∃ l, l = l0 := ⟨_, rfl⟩
      obtain ⟨d, hdd⟩ : ∃ d, d = s := ⟨_, rfl⟩
      subst hl2 hdd
      have hd := hs
      cbv
      skip
      ((have hdl : d.size = l.length := by rw [hd]; rfl
        refine h.slen' fun n0 hn0 => ?_
        have hn0 : n0 = (l.length : Int) := by rw [hn0, hdl]
        cbv
        refine h.dec rfl (fun hp => ?_) (fun hp => ?_)
        · have e : prD false l = (0, 5) := if_pos (by (simp only [inR, cmpP, loOk, hiOk, Int.ofNat_eq_natCast, Int.negSucc_eq, IntKind.bits, Int.toNat_natCast, ge_iff_le, gt_iff_lt, ne_eq, wl_len, hl_len, natCast_fold, not_true_eq_false, not_false_eq_true] at * <;> omega))
          rw [e] at hy he
          have e1 : DV.ag [.sc (.bool b), .sl 1 1 ys] = DV.ag [.sc (.bool false), .sl 1 1 []] := hy.eqs (s' := false) (xs' := []) (i' := 0) ⟨rfl, rfl⟩ rfl
          rw [e1, he] at hQ
          cbv
          skip
          exact hQ
        have hlen : l.length ≤ 1000 := by (simp only [inR, cmpP, loOk, hiOk, Int.ofNat_eq_natCast, Int.negSucc_eq, IntKind.bits, Int.toNat_natCast, ge_iff_le, gt_iff_lt, ne_eq, wl_len, hl_len, natCast_fold, not_true_eq_false, not_false_eq_true] at * <;> omega)
        cbv
        refine scmp_s h hd (l' := []) rfl fun c hc => ?_
        by_cases hl0 : l = []
        · have e : prD false l = (0, 3) := by unfold prD; rw [if_neg (by omega), if_pos (.inl hl0)]
          rw [e] at hy he
          have e1 : DV.ag [.sc (.bool b), .sl 1 1 ys] = DV.ag [.sc (.bool false), .sl 1 1 []] := hy.eqs (s' := false) (xs' := []) (i' := 0) ⟨rfl, rfl⟩ rfl
          rw [e1, he] at hQ
          have : c = true := by rw [hc]; simp [hl0]
          subst this
          cbv
          skip
          exact hQ
        have : c = false := by rw [hc]; simp [hl0]
        subst this
        have hlp : 0 < l.length := List.length_pos_iff.2 hl0
        obtain ⟨c0, hg0⟩ : ∃ c0, l[0]? = some c0 := ⟨l[0], List.getElem?_eq_getElem hlp⟩
        have hbad0 : ∀ q : (l[0]? = some 48 ∧ (false = true ∨ 1 < l.length)), prD false l = (0, 3) := fun q => by unfold prD; rw [if_neg (by omega), if_pos (.inr q)]
        cbv
        refine h.sidx' 0 c0 rfl (by rw [hd]; exact bs_get hg0) fun m0 hm0 => ?_
        cbv
       )
       refine h.dec rfl (fun hp => ?_) (fun hp => ?_)
       · have hc0 : c0 = 48 := u8_eq (n := 48) (by (simp only [inR, cmpP, loOk, hiOk, Int.ofNat_eq_natCast, Int.negSucc_eq, IntKind.bits, Int.toNat_natCast, ge_iff_le, gt_iff_lt, ne_eq, wl_len, hl_len, natCast_fold, not_true_eq_false, not_false_eq_true] at * <;> omega)) (by omega)
         rw [hc0] at hg0
         cbv
         refine h.slen' fun n1 hn1 => ?_
         have hn1 : n1 = (l.length : Int) := by rw [hn1, hdl]
         cbv
         refine h.dec rfl (fun hp2 => ?_) (fun hp2 => ?_)
         · rw [hbad0 ⟨hg0, .inr (by (simp only [inR, cmpP, loOk, hiOk, Int.ofNat_eq_natCast, Int.negSucc_eq, IntKind.bits, Int.toNat_natCast, ge_iff_le, gt_iff_lt, ne_eq, wl_len, hl_len, natCast_fold, not_true_eq_false, not_false_eq_true] at * <;> omega))⟩] at hy he
           have e1 : DV.ag [.sc (.bool b), .sl 1 1 ys] = DV.ag [.sc (.bool false), .sl 1 1 []] := hy.eqs (s' := false) (xs' := []) (i' := 0) ⟨rfl, rfl⟩ rfl
           rw [e1, he] at hQ
           cbv
           skip
           exact hQ
         · have hform : ¬ (l = [] ∨ (l[0]? = some 48 ∧ (false = true ∨ 1 < l.length))) := by
             rintro (h1 | ⟨_, h1 | h1⟩)
             · exact hl0 h1
             · cases h1
             · (simp only [inR, cmpP, loOk, hiOk, Int.ofNat_eq_natCast, Int.negSucc_eq, IntKind.bits, Int.toNat_natCast, ge_iff_le, gt_iff_lt, ne_eq, wl_len, hl_len, natCast_fold, not_true_eq_false, not_false_eq_true] at * <;> omega)
           (cbv
            refine h.loop' (Int × List (List D) × Nat × Nat) (fun p => p.1 = (p.2.2.2 : Int) ∧ p.2.1 = hl (dg BH (num (l.take p.2.2.2))) ∧ p.2.2.2 ≤ l.length ∧ (l.take p.2.2.2).all isDig = true ∧ (0 < p.2.2.2 → p.2.2.1 = 1))
              (fun p => ⟨[(2, .p 2 0 0 0), (4, .v (.one (.sc (.bool false)))), (5, .v (.one (.sc (.string d)))), (6, vs p.2.2.1 p.2.1), (7, vi .i64 p.1)], [(2, .bx [.sc (.bool false), .sl 1 1 []])]⟩) (fun p => l.length - p.2.2.2) (0, [], 3, 0) ⟨rfl, rfl, Nat.zero_le _, rfl, fun h => absurd h (Nat.lt_irrefl _)⟩ (by (refine Wk.of [(2, some 2)] rfl ?_ ?_; (· (repeat (first | exact trivial | (refine And.intro ?_ ?_; (· first | exact trivial | exact Or.inl ⟨_, rfl, rfl⟩ | exact ⟨_, rfl, rfl⟩ | exact Or.inr ⟨rfl, rfl, by decide⟩))))); (· (repeat (first | exact trivial | (refine And.intro ?_ ?_; (· first | exact trivial | exact Or.inl rfl | rfl | exact Or.inr ⟨_, _, _, _, rfl, rfl, rfl, renNo rfl⟩ | exact ⟨ne_no rfl, Or.inl ⟨_, rfl, rfl⟩⟩ | exact ⟨ne_no rfl, Or.inr ⟨rfl, _, rfl⟩⟩ | exact ⟨_, rfl, rfl, ne_no rfl⟩))))))) ?_
            rintro ⟨kz, ws, tw, k⟩ R ⟨hkz, hws, hk, hall, htw⟩ hR
            simp only at hkz hws hk hall htw
            have hnum := num_lt _ hall
            rw [List.length_take, Nat.min_eq_left hk] at hnum
            have hwl : (dg BH (num (l.take k))).length ≤ k := dg_len BH2 (Nat.lt_of_lt_of_le hnum (Nat.pow_le_pow_left (by decide) k))
            cbv
            refine h.slen' fun n1 hn1 => ?_
            have hn1 : n1 = (l.length : Int) := by rw [hn1, hdl]
            cbv
            refine h.dec rfl (fun hp => ?_) (fun hp => ?_)
            · obtain ⟨c, hgc⟩ : ∃ c, l[k]? = some c := ⟨l[k]'(by (simp only [inR, cmpP, loOk, hiOk, Int.ofNat_eq_natCast, Int.negSucc_eq, IntKind.bits, Int.toNat_natCast, ge_iff_le, gt_iff_lt, ne_eq, wl_len, hl_len, natCast_fold, not_true_eq_false, not_false_eq_true] at * <;> omega)), List.getElem?_eq_getElem _⟩
              have hc256 := c.toNat_lt
              cbv
              refine h.sidx' k c hkz (by rw [hd]; exact bs_get hgc) fun m hm => ?_
              cbv
              refine h.dec rfl (fun hp2 => ?_) (fun hp2 => ?_)
              · have hbad : l.all isDig = false := not_all hgc (by simp only [isDig]; have : ¬ 48 ≤ c.toNat := by (simp only [inR, cmpP, loOk, hiOk, Int.ofNat_eq_natCast, Int.negSucc_eq, IntKind.bits, Int.toNat_natCast, ge_iff_le, gt_iff_lt, ne_eq, wl_len, hl_len, natCast_fold, not_true_eq_false, not_false_eq_true] at * <;> omega)
                                                                   simp [this])
                (have e : prD false l = (0, 3) := by
                   unfold prD
                   rw [if_neg (by omega), if_neg hform, if_neg (by rw [hbad]; simp)]
                 rw [e] at hy he
                 have e1 : DV.ag [.sc (.bool b), .sl 1 1 ys] = DV.ag [.sc (.bool false), .sl 1 1 []] := hy.eqs (s' := false) (xs' := []) (i' := 0) ⟨rfl, rfl⟩ rfl
                 rw [e1, he] at hQ
                 cbv
                 skip
                 exact hQ
                )
              · cbv
                skip
                refine h.sidx' k c hkz (by rw [hd]; exact bs_get hgc) fun m2 hm2 => ?_
                cbv
                refine h.dec rfl (fun hp3 => ?_) (fun hp3 => ?_)
                · have hbad : l.all isDig = false := not_all hgc (by simp only [isDig]; have : ¬ c.toNat ≤ 57 := by (simp only [inR, cmpP, loOk, hiOk, Int.ofNat_eq_natCast, Int.negSucc_eq, IntKind.bits, Int.toNat_natCast, ge_iff_le, gt_iff_lt, ne_eq, wl_len, hl_len, natCast_fold, not_true_eq_false, not_false_eq_true] at * <;> omega)
                                                                     simp [this])
                  (have e : prD false l = (0, 3) := by
                     unfold prD
                     rw [if_neg (by omega), if_neg hform, if_neg (by rw [hbad]; simp)]
                   rw [e] at hy he
                   have e1 : DV.ag [.sc (.bool b), .sl 1 1 ys] = DV.ag [.sc (.bool false), .sl 1 1 []] := hy.eqs (s' := false) (xs' := []) (i' := 0) ⟨rfl, rfl⟩ rfl
                   rw [e1, he] at hQ
                   cbv
                   skip
                   exact hQ
                  )
                · have h48 : 48 ≤ c.toNat := by (simp only [inR, cmpP, loOk, hiOk, Int.ofNat_eq_natCast, Int.negSucc_eq, IntKind.bits, Int.toNat_natCast, ge_iff_le, gt_iff_lt, ne_eq, wl_len, hl_len, natCast_fold, not_true_eq_false, not_false_eq_true] at * <;> omega)
                  have h57 : c.toNat ≤ 57 := by (simp only [inR, cmpP, loOk, hiOk, Int.ofNat_eq_natCast, Int.negSucc_eq, IntKind.bits, Int.toNat_natCast, ge_iff_le, gt_iff_lt, ne_eq, wl_len, hl_len, natCast_fold, not_true_eq_false, not_false_eq_true] at * <;> omega)
                  have hst := num_step hgc
                  have l1 : (dg BH (num (l.take k) * 10)).length ≤ k + 1 := by
                    refine dg_len BH2 ?_
                    rw [Nat.pow_succ]
                    exact Nat.mul_lt_mul'' (Nat.lt_of_lt_of_le hnum (Nat.pow_le_pow_left (by decide) k)) (by decide)
                  cbv
                  skip
                  refine times_s h 10 hws (dg_ok BH2 _) (by omega) rfl (by omega) fun z1 q1 => ?_
                  rw [dg_val BH2] at q1
                  cbv
                  refine h.sidx' k c hkz (by rw [hd]; exact bs_get hgc) fun m3 hm3 => ?_
                  cbv
                  (refine Good.sub' ‹_› ?_ ?_; (· (simp only [inR, cmpP, loOk, hiOk, Int.ofNat_eq_natCast, Int.negSucc_eq, IntKind.bits, Int.toNat_natCast, ge_iff_le, gt_iff_lt, ne_eq, wl_len, hl_len, natCast_fold, not_true_eq_false, not_false_eq_true] at * <;> omega)); intro _ _; cbv; refine Good.convi ‹_› ?_ ?_; (· (simp only [inR, cmpP, loOk, hiOk, Int.ofNat_eq_natCast, Int.negSucc_eq, IntKind.bits, Int.toNat_natCast, ge_iff_le, gt_iff_lt, ne_eq, wl_len, hl_len, natCast_fold, not_true_eq_false, not_false_eq_true] at * <;> omega)); cbv)
                  rename_i m4 hm4
                  have hm4 : m4 = ((c.toNat - 48 : Nat) : Int) := by (simp only [inR, cmpP, loOk, hiOk, Int.ofNat_eq_natCast, Int.negSucc_eq, IntKind.bits, Int.toNat_natCast, ge_iff_le, gt_iff_lt, ne_eq, wl_len, hl_len, natCast_fold, not_true_eq_false, not_false_eq_true] at * <;> omega)
                  have hcB : c.toNat - 48 < BH := by rw [BH_eq]; omega
                  refine rtrim_s h (ws := [c.toNat - 48]) (by rw [hm4]; rfl) (Ok.of hcB Ok.nil) (by simp) fun z2 q2 => ?_
                  rw [val_one] at q2
                  have l2 : (dg BH (c.toNat - 48)).length ≤ 1 := dg_len BH2 (by rw [Nat.pow_one]; exact hcB)
                  cbv
                  refine radd_s h q1 q2 (dg_ok BH2 _) (dg_ok BH2 _) (by omega) (by omega) fun z3 q9 => ?_
                  rw [dg_val BH2, dg_val BH2, Nat.mul_comm, ← hst] at q9
                  cbv
                  (refine Good.chk' ‹_› rfl ?_; cbv; refine Good.add' ‹_› ?_ ?_; (· (simp only [inR, cmpP, loOk, hiOk, Int.ofNat_eq_natCast, Int.negSucc_eq, IntKind.bits, Int.toNat_natCast, ge_iff_le, gt_iff_lt, ne_eq, wl_len, hl_len, natCast_fold, not_true_eq_false, not_false_eq_true] at * <;> omega)); intro _ _; cbv)
                  rename_i k1 hk1
                  have hd1 : isDig c = true := by simp only [isDig]; simp [h48, h57]
                  refine hR _ (k1, z3, 1, k + 1) ⟨by simp only; (simp only [inR, cmpP, loOk, hiOk, Int.ofNat_eq_natCast, Int.negSucc_eq, IntKind.bits, Int.toNat_natCast, ge_iff_le, gt_iff_lt, ne_eq, wl_len, hl_len, natCast_fold, not_true_eq_false, not_false_eq_true] at * <;> omega), q9, by simp only; (simp only [inR, cmpP, loOk, hiOk, Int.ofNat_eq_natCast, Int.negSucc_eq, IntKind.bits, Int.toNat_natCast, ge_iff_le, gt_iff_lt, ne_eq, wl_len, hl_len, natCast_fold, not_true_eq_false, not_false_eq_true] at * <;> omega), ?_, fun _ => rfl⟩ (by simp only; (simp only [inR, cmpP, loOk, hiOk, Int.ofNat_eq_natCast, Int.negSucc_eq, IntKind.bits, Int.toNat_natCast, ge_iff_le, gt_iff_lt, ne_eq, wl_len, hl_len, natCast_fold, not_true_eq_false, not_false_eq_true] at * <;> omega)) (by (refine Wk.of [(2, some 2)] rfl ?_ ?_; (· (repeat (first | exact trivial | (refine And.intro ?_ ?_; (· first | exact trivial | exact Or.inl ⟨_, rfl, rfl⟩ | exact ⟨_, rfl, rfl⟩ | exact Or.inr ⟨rfl, rfl, by decide⟩))))); (· (repeat (first | exact trivial | (refine And.intro ?_ ?_; (· first | exact trivial | exact Or.inl rfl | rfl | exact Or.inr ⟨_, _, _, _, rfl, rfl, rfl, renNo rfl⟩ | exact ⟨ne_no rfl, Or.inl ⟨_, rfl, rfl⟩⟩ | exact ⟨ne_no rfl, Or.inr ⟨rfl, _, rfl⟩⟩ | exact ⟨_, rfl, rfl, ne_no rfl⟩)))))))
                  show (l.take (k + 1)).all isDig = true
                  rw [all_step hgc, hall, hd1]; rfl
            · have hkl : k = l.length := by (simp only [inR, cmpP, loOk, hiOk, Int.ofNat_eq_natCast, Int.negSucc_eq, IntKind.bits, Int.toNat_natCast, ge_iff_le, gt_iff_lt, ne_eq, wl_len, hl_len, natCast_fold, not_true_eq_false, not_false_eq_true] at * <;> omega)
              rw [hkl, List.take_length] at hws hall hwl
              have e : prD false l = (sg false (num l), 0) := by
                unfold prD
                rw [if_neg (by omega), if_neg hform, if_pos hall]
              rw [e] at hy he
              cbv
              refine of_s h hws (dg_ok BH2 _) (by omega) fun b1 y1 hz1 => ?_
              rw [show za b1 1 y1 = za b 1 ys from za_eq hz1 hy (by rw [dg_val BH2])]
              rw [he] at hQ
              cbv
              skip
              exact hQ
           )
       · have hform : ¬ (l = [] ∨ (l[0]? = some 48 ∧ (false = true ∨ 1 < l.length))) := by
           rintro (h1 | ⟨h1, _⟩)
           · exact hl0 h1
           · rw [hg0] at h1
             have := Option.some.inj h1
             subst this
             have q48 : UInt8.toNat 48 = 48 := rfl
             exact hp (by (simp only [inR, cmpP, loOk, hiOk, Int.ofNat_eq_natCast, Int.negSucc_eq, IntKind.bits, Int.toNat_natCast, ge_iff_le, gt_iff_lt, ne_eq, wl_len, hl_len, natCast_fold, not_true_eq_false, not_false_eq_true] at * <;> omega))
         (cbv
          refine h.loop' (Int × List (List D) × Nat × Nat) (fun p => p.1 = (p.2.2.2 : Int) ∧ p.2.1 = hl (dg BH (num (l.take p.2.2.2))) ∧ p.2.2.2 ≤ l.length ∧ (l.take p.2.2.2).all isDig = true ∧ (0 < p.2.2.2 → p.2.2.1 = 1))
            (fun p => ⟨[(2, .p 2 0 0 0), (4, .v (.one (.sc (.bool false)))), (5, .v (.one (.sc (.string d)))), (6, vs p.2.2.1 p.2.1), (7, vi .i64 p.1)], [(2, .bx [.sc (.bool false), .sl 1 1 []])]⟩) (fun p => l.length - p.2.2.2) (0, [], 3, 0) ⟨rfl, rfl, Nat.zero_le _, rfl, fun h => absurd h (Nat.lt_irrefl _)⟩ (by (refine Wk.of [(2, some 2)] rfl ?_ ?_; (· (repeat (first | exact trivial | (refine And.intro ?_ ?_; (· first | exact trivial | exact Or.inl ⟨_, rfl, rfl⟩ | exact ⟨_, rfl, rfl⟩ | exact Or.inr ⟨rfl, rfl, by decide⟩))))); (· (repeat (first | exact trivial | (refine And.intro ?_ ?_; (· first | exact trivial | exact Or.inl rfl | rfl | exact Or.inr ⟨_, _, _, _, rfl, rfl, rfl, renNo rfl⟩ | exact ⟨ne_no rfl, Or.inl ⟨_, rfl, rfl⟩⟩ | exact ⟨ne_no rfl, Or.inr ⟨rfl, _, rfl⟩⟩ | exact ⟨_, rfl, rfl, ne_no rfl⟩))))))) ?_
          rintro ⟨kz, ws, tw, k⟩ R ⟨hkz, hws, hk, hall, htw⟩ hR
          simp only at hkz hws hk hall htw
          have hnum := num_lt _ hall
          rw [List.length_take, Nat.min_eq_left hk] at hnum
          have hwl : (dg BH (num (l.take k))).length ≤ k := dg_len BH2 (Nat.lt_of_lt_of_le hnum (Nat.pow_le_pow_left (by decide) k))
          cbv
          refine h.slen' fun n1 hn1 => ?_
          have hn1 : n1 = (l.length : Int) := by rw [hn1, hdl]
          cbv
          refine h.dec rfl (fun hp => ?_) (fun hp => ?_)
          · obtain ⟨c, hgc⟩ : ∃ c, l[k]? = some c := ⟨l[k]'(by (simp only [inR, cmpP, loOk, hiOk, Int.ofNat_eq_natCast, Int.negSucc_eq, IntKind.bits, Int.toNat_natCast, ge_iff_le, gt_iff_lt, ne_eq, wl_len, hl_len, natCast_fold, not_true_eq_false, not_false_eq_true] at * <;> omega)), List.getElem?_eq_getElem _⟩
            have hc256 := c.toNat_lt
            cbv
            refine h.sidx' k c hkz (by rw [hd]; exact bs_get hgc) fun m hm => ?_
            cbv
            refine h.dec rfl (fun hp2 => ?_) (fun hp2 => ?_)
            · have hbad : l.all isDig = false := not_all hgc (by simp only [isDig]; have : ¬ 48 ≤ c.toNat := by (simp only [inR, cmpP, loOk, hiOk, Int.ofNat_eq_natCast, Int.negSucc_eq, IntKind.bits, Int.toNat_natCast, ge_iff_le, gt_iff_lt, ne_eq, wl_len, hl_len, natCast_fold, not_true_eq_false, not_false_eq_true] at * <;> omega)
                                                                 simp [this])
              (have e : prD false l = (0, 3) := by
                 unfold prD
                 rw [if_neg (by omega), if_neg hform, if_neg (by rw [hbad]; simp)]
               rw [e] at hy he
               have e1 : DV.ag [.sc (.bool b), .sl 1 1 ys] = DV.ag [.sc (.bool false), .sl 1 1 []] := hy.eqs (s' := false) (xs' := []) (i' := 0) ⟨rfl, rfl⟩ rfl
               rw [e1, he] at hQ
               cbv
               skip
               exact hQ
              )
            · cbv
              skip
              refine h.sidx' k c hkz (by rw [hd]; exact bs_get hgc) fun m2 hm2 => ?_
              cbv
              refine h.dec rfl (fun hp3 => ?_) (fun hp3 => ?_)
              · have hbad : l.all isDig = false := not_all hgc (by simp only [isDig]; have : ¬ c.toNat ≤ 57 := by (simp only [inR, cmpP, loOk, hiOk, Int.ofNat_eq_natCast, Int.negSucc_eq, IntKind.bits, Int.toNat_natCast, ge_iff_le, gt_iff_lt, ne_eq, wl_len, hl_len, natCast_fold, not_true_eq_false, not_false_eq_true] at * <;> omega)
                                                                   simp [this])
                (have e : prD false l = (0, 3) := by
                   unfold prD
                   rw [if_neg (by omega), if_neg hform, if_neg (by rw [hbad]; simp)]
                 rw [e] at hy he
                 have e1 : DV.ag [.sc (.bool b), .sl 1 1 ys] = DV.ag [.sc (.bool false), .sl 1 1 []] := hy.eqs (s' := false) (xs' := []) (i' := 0) ⟨rfl, rfl⟩ rfl
                 rw [e1, he] at hQ
                 cbv
                 skip
                 exact hQ
                )
              · have h48 : 48 ≤ c.toNat := by (simp only [inR, cmpP, loOk, hiOk, Int.ofNat_eq_natCast, Int.negSucc_eq, IntKind.bits, Int.toNat_natCast, ge_iff_le, gt_iff_lt, ne_eq, wl_len, hl_len, natCast_fold, not_true_eq_false, not_false_eq_true] at * <;> omega)
                have h57 : c.toNat ≤ 57 := by (simp only [inR, cmpP, loOk, hiOk, Int.ofNat_eq_natCast, Int.negSucc_eq, IntKind.bits, Int.toNat_natCast, ge_iff_le, gt_iff_lt, ne_eq, wl_len, hl_len, natCast_fold, not_true_eq_false, not_false_eq_true] at * <;> omega)
                have hst := num_step hgc
                have l1 : (dg BH (num (l.take k) * 10)).length ≤ k + 1 := by
                  refine dg_len BH2 ?_
                  rw [Nat.pow_succ]
                  exact Nat.mul_lt_mul'' (Nat.lt_of_lt_of_le hnum (Nat.pow_le_pow_left (by decide) k)) (by decide)
                cbv
                skip
                refine times_s h 10 hws (dg_ok BH2 _) (by omega) rfl (by omega) fun z1 q1 => ?_
                rw [dg_val BH2] at q1
                cbv
                refine h.sidx' k c hkz (by rw [hd]; exact bs_get hgc) fun m3 hm3 => ?_
                cbv
                (refine Good.sub' ‹_› ?_ ?_; (· (simp only [inR, cmpP, loOk, hiOk, Int.ofNat_eq_natCast, Int.negSucc_eq, IntKind.bits, Int.toNat_natCast, ge_iff_le, gt_iff_lt, ne_eq, wl_len, hl_len, natCast_fold, not_true_eq_false, not_false_eq_true] at * <;> omega)); intro _ _; cbv; refine Good.convi ‹_› ?_ ?_; (· (simp only [inR, cmpP, loOk, hiOk, Int.ofNat_eq_natCast, Int.negSucc_eq, IntKind.bits, Int.toNat_natCast, ge_iff_le, gt_iff_lt, ne_eq, wl_len, hl_len, natCast_fold, not_true_eq_false, not_false_eq_true] at * <;> omega)); cbv)
                rename_i m4 hm4
                have hm4 : m4 = ((c.toNat - 48 : Nat) : Int) := by (simp only [inR, cmpP, loOk, hiOk, Int.ofNat_eq_natCast, Int.negSucc_eq, IntKind.bits, Int.toNat_natCast, ge_iff_le, gt_iff_lt, ne_eq, wl_len, hl_len, natCast_fold, not_true_eq_false, not_false_eq_true] at * <;> omega)
                have hcB : c.toNat - 48 < BH := by rw [BH_eq]; omega
                refine rtrim_s h (ws := [c.toNat - 48]) (by rw [hm4]; rfl) (Ok.of hcB Ok.nil) (by simp) fun z2 q2 => ?_
                rw [val_one] at q2
                have l2 : (dg BH (c.toNat - 48)).length ≤ 1 := dg_len BH2 (by rw [Nat.pow_one]; exact hcB)
                cbv
                refine radd_s h q1 q2 (dg_ok BH2 _) (dg_ok BH2 _) (by omega) (by omega) fun z3 q9 => ?_
                rw [dg_val BH2, dg_val BH2, Nat.mul_comm, ← hst] at q9
                cbv
                (refine Good.chk' ‹_› rfl ?_; cbv; refine Good.add' ‹_› ?_ ?_; (· (simp only [inR, cmpP, loOk, hiOk, Int.ofNat_eq_natCast, Int.negSucc_eq, IntKind.bits, Int.toNat_natCast, ge_iff_le, gt_iff_lt, ne_eq, wl_len, hl_len, natCast_fold, not_true_eq_false, not_false_eq_true] at * <;> omega)); intro _ _; cbv)
                rename_i k1 hk1
                have hd1 : isDig c = true := by simp only [isDig]; simp [h48, h57]
                refine hR _ (k1, z3, 1, k + 1) ⟨by simp only; (simp only [inR, cmpP, loOk, hiOk, Int.ofNat_eq_natCast, Int.negSucc_eq, IntKind.bits, Int.toNat_natCast, ge_iff_le, gt_iff_lt, ne_eq, wl_len, hl_len, natCast_fold, not_true_eq_false, not_false_eq_true] at * <;> omega), q9, by simp only; (simp only [inR, cmpP, loOk, hiOk, Int.ofNat_eq_natCast, Int.negSucc_eq, IntKind.bits, Int.toNat_natCast, ge_iff_le, gt_iff_lt, ne_eq, wl_len, hl_len, natCast_fold, not_true_eq_false, not_false_eq_true] at * <;> omega), ?_, fun _ => rfl⟩ (by simp only; (simp only [inR, cmpP, loOk, hiOk, Int.ofNat_eq_natCast, Int.negSucc_eq, IntKind.bits, Int.toNat_natCast, ge_iff_le, gt_iff_lt, ne_eq, wl_len, hl_len, natCast_fold, not_true_eq_false, not_false_eq_true] at * <;> omega)) (by (refine Wk.of [(2, some 2)] rfl ?_ ?_; (· (repeat (first | exact trivial | (refine And.intro ?_ ?_; (· first | exact trivial | exact Or.inl ⟨_, rfl, rfl⟩ | exact ⟨_, rfl, rfl⟩ | exact Or.inr ⟨rfl, rfl, by decide⟩))))); (· (repeat (first | exact trivial | (refine And.intro ?_ ?_; (· first | exact trivial | exact Or.inl rfl | rfl | exact Or.inr ⟨_, _, _, _, rfl, rfl, rfl, renNo rfl⟩ | exact ⟨ne_no rfl, Or.inl ⟨_, rfl, rfl⟩⟩ | exact ⟨ne_no rfl, Or.inr ⟨rfl, _, rfl⟩⟩ | exact ⟨_, rfl, rfl, ne_no rfl⟩)))))))
                show (l.take (k + 1)).all isDig = true
                rw [all_step hgc, hall, hd1]; rfl
          · have hkl : k = l.length := by (simp only [inR, cmpP, loOk, hiOk, Int.ofNat_eq_natCast, Int.negSucc_eq, IntKind.bits, Int.toNat_natCast, ge_iff_le, gt_iff_lt, ne_eq, wl_len, hl_len, natCast_fold, not_true_eq_false, not_false_eq_true] at * <;> omega)
            rw [hkl, List.take_length] at hws hall hwl
            have e : prD false l = (sg false (num l), 0) := by
              unfold prD
              rw [if_neg (by omega), if_neg hform, if_pos hall]
            rw [e] at hy he
            cbv
            refine of_s h hws (dg_ok BH2 _) (by omega) fun b1 y1 hz1 => ?_
            rw [show za b1 1 y1 = za b 1 ys from za_eq hz1 hy (by rw [dg_val BH2])]
            rw [he] at hQ
            cbv
            skip
            exact hQ
         )
      )
theorem rparse_s {π : Pi} (h : Good TT π) {K : List DV → Prop} {s : ByteArray} {l0 : List UInt8} (hs : s = bs l0) (hl0 : l0.length ≤ 1000000) (hk : ∀ b ys e, Zc b ys (prs l0).1 → e = (prs l0).2 → K [za b 1 ys, .one (.sc (.int .i64 e))]) : π.call 31 [.one (.sc (.string s))] K :=
  h.call' _ (rparse_c hs hl0 ⟨rfl, rfl⟩ rfl) (hk _ _ _ ⟨rfl, rfl⟩ rfl)
end Go.Proofs.Ytpmlocilhhjifaa.Eng
