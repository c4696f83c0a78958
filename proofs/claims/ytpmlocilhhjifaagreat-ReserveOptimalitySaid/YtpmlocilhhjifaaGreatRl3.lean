/- ReserveMarginalPrice. -/
import Derived.Test.YtpmlocilhhjifaaGreatRl2
set_option maxRecDepth 100000
set_option linter.unusedSimpArgs false
set_option linter.unusedVariables false
set_option pp.maxSteps 200
namespace Go.Proofs.YtpmlocilhhjifaaGreat.Eng
open Go.RowKit Go.Proofs
variable {t t' t'' : Nat} {us : List UD} {os : List Bool} {es bs gs : List (List D)} {zs : List QD} {rs : List Rat}
theorem paid_ge {t p s : Rat} (ht : 0 ≤ t) (h : 0 < t → s ≤ p) : 0 ≤ t * p - t * s := by
  by_cases h0 : 0 < t
  · have h1 := h h0
    have h2 : 0 ≤ t * (p - s) := Rat.mul_nonneg ht (by grind)
    grind
  · have : t = 0 := by grind
    subst this
    grind
theorem cast_le {a b : Int} (h : a ≤ b) : (a : Rat) ≤ (b : Rat) := by exact_mod_cast h
theorem spn_in (hou : ∀ u ∈ us, u.Ok) {i : Nat} {u : UD} (h : us[i]? = some u) : inR .i64 u.spin := (hou u (List.mem_of_getElem? h)).spin
set_option maxHeartbeats 8000000 in
theorem margin_l {need : Int} (he : es = us.map UD.cell) (hb : bs = bl os) (hg : gs = zs.map QD.cell) (ho : ∀ u ∈ us, u.Ok0) (hz : ∀ z ∈ zs, z.Raw) (hn : inR .i64 need) :
    TT 3 [.one (.sl t 9 es), .one (.sl t' 1 bs), .one (.sl t'' 4 gs), .one (.sc (.int .i64 need))] [.one (.sc (.bool true))] := by
  refine con Tryz.func3 rfl (by kernel_rfl) (by kernel_rfl) fun π Q h hQ => ?_
  have hle : es.length = us.length := by rw [he]; simp
  cbv
  refine long30_s h he hg ?_ fun hs => ?_
  · cbv
    (repeat (first | (refine Good.len' ‹_› ?_; intro _ _; cbv) | ((first | refine Good.add' ‹_› ?_ ?_ | refine Good.sub' ‹_› ?_ ?_ | refine Good.mul' ‹_› ?_ ?_); (· (first | omega | (simp only [inR, cmpP, loOk, hiOk, Int.ofNat_eq_natCast, Int.negSucc_eq, IntKind.bits, Int.toNat_natCast, ge_iff_le, gt_iff_lt, ne_eq, wl_len, hl_len, natCast_fold, not_true_eq_false, not_false_eq_true] at * <;> omega))); intro _ _; cbv) | ((first | (refine Good.yes ‹_› ?_ ?_; (· (first | omega | (simp only [inR, cmpP, loOk, hiOk, Int.ofNat_eq_natCast, Int.negSucc_eq, IntKind.bits, Int.toNat_natCast, ge_iff_le, gt_iff_lt, ne_eq, wl_len, hl_len, natCast_fold, not_true_eq_false, not_false_eq_true] at * <;> omega)))) | (refine Good.no ‹_› rfl ?_ ?_; (· (first | omega | (simp only [inR, cmpP, loOk, hiOk, Int.ofNat_eq_natCast, Int.negSucc_eq, IntKind.bits, Int.toNat_natCast, ge_iff_le, gt_iff_lt, ne_eq, wl_len, hl_len, natCast_fold, not_true_eq_false, not_false_eq_true] at * <;> omega)))) | (refine Good.convi ‹_› ?_ ?_; (· (first | omega | (simp only [inR, cmpP, loOk, hiOk, Int.ofNat_eq_natCast, Int.negSucc_eq, IntKind.bits, Int.toNat_natCast, ge_iff_le, gt_iff_lt, ne_eq, wl_len, hl_len, natCast_fold, not_true_eq_false, not_false_eq_true] at * <;> omega))))); cbv) | (refine Good.chk' ‹_› rfl ?_; cbv)))
    refine h.call' _ awake_c ?_
    cbv
    (repeat (first | (refine Good.len' ‹_› ?_; intro _ _; cbv) | ((first | refine Good.add' ‹_› ?_ ?_ | refine Good.sub' ‹_› ?_ ?_ | refine Good.mul' ‹_› ?_ ?_); (· (first | omega | (simp only [inR, cmpP, loOk, hiOk, Int.ofNat_eq_natCast, Int.negSucc_eq, IntKind.bits, Int.toNat_natCast, ge_iff_le, gt_iff_lt, ne_eq, wl_len, hl_len, natCast_fold, not_true_eq_false, not_false_eq_true] at * <;> omega))); intro _ _; cbv) | ((first | (refine Good.yes ‹_› ?_ ?_; (· (first | omega | (simp only [inR, cmpP, loOk, hiOk, Int.ofNat_eq_natCast, Int.negSucc_eq, IntKind.bits, Int.toNat_natCast, ge_iff_le, gt_iff_lt, ne_eq, wl_len, hl_len, natCast_fold, not_true_eq_false, not_false_eq_true] at * <;> omega)))) | (refine Good.no ‹_› rfl ?_ ?_; (· (first | omega | (simp only [inR, cmpP, loOk, hiOk, Int.ofNat_eq_natCast, Int.negSucc_eq, IntKind.bits, Int.toNat_natCast, ge_iff_le, gt_iff_lt, ne_eq, wl_len, hl_len, natCast_fold, not_true_eq_false, not_false_eq_true] at * <;> omega)))) | (refine Good.convi ‹_› ?_ ?_; (· (first | omega | (simp only [inR, cmpP, loOk, hiOk, Int.ofNat_eq_natCast, Int.negSucc_eq, IntKind.bits, Int.toNat_natCast, ge_iff_le, gt_iff_lt, ne_eq, wl_len, hl_len, natCast_fold, not_true_eq_false, not_false_eq_true] at * <;> omega))))); cbv) | (refine Good.chk' ‹_› rfl ?_; cbv)))
    exact hQ
  · have hou := small_ok ho hs
    obtain ⟨rs, hrs⟩ := raw_qrs hz hs.w
    have l1 := hs.lu
    have l2 := hs.lb
    have l3 := hs.lz
    have lbl : bs.length = os.length := by rw [hb, bl_len]
    cbv
    refine h.call' _ awake_c ?_
    cbv
    (repeat (first | (refine Good.len' ‹_› ?_; intro _ _; cbv) | ((first | refine Good.add' ‹_› ?_ ?_ | refine Good.sub' ‹_› ?_ ?_ | refine Good.mul' ‹_› ?_ ?_); (· (first | omega | (simp only [inR, cmpP, loOk, hiOk, Int.ofNat_eq_natCast, Int.negSucc_eq, IntKind.bits, Int.toNat_natCast, ge_iff_le, gt_iff_lt, ne_eq, wl_len, hl_len, natCast_fold, not_true_eq_false, not_false_eq_true] at * <;> omega))); intro _ _; cbv) | ((first | (refine Good.yes ‹_› ?_ ?_; (· (first | omega | (simp only [inR, cmpP, loOk, hiOk, Int.ofNat_eq_natCast, Int.negSucc_eq, IntKind.bits, Int.toNat_natCast, ge_iff_le, gt_iff_lt, ne_eq, wl_len, hl_len, natCast_fold, not_true_eq_false, not_false_eq_true] at * <;> omega)))) | (refine Good.no ‹_› rfl ?_ ?_; (· (first | omega | (simp only [inR, cmpP, loOk, hiOk, Int.ofNat_eq_natCast, Int.negSucc_eq, IntKind.bits, Int.toNat_natCast, ge_iff_le, gt_iff_lt, ne_eq, wl_len, hl_len, natCast_fold, not_true_eq_false, not_false_eq_true] at * <;> omega)))) | (refine Good.convi ‹_› ?_ ?_; (· (first | omega | (simp only [inR, cmpP, loOk, hiOk, Int.ofNat_eq_natCast, Int.negSucc_eq, IntKind.bits, Int.toNat_natCast, ge_iff_le, gt_iff_lt, ne_eq, wl_len, hl_len, natCast_fold, not_true_eq_false, not_false_eq_true] at * <;> omega))))); cbv) | (refine Good.chk' ‹_› rfl ?_; cbv)))
    refine fill_s h he hb hg hou (by omega) (by omega) (by omega) hrs (by decide) hn (fun e0 b1 z1 b2 z2 tk pr hq htk hpr => ?_) (fun e0 => ?_)
    · obtain ⟨hlo, hlr, h5, hf1, hnb, hn0, hn1⟩ := fillE_len e0
      obtain ⟨inv, hrho, hsp0⟩ := fill_inv e0
      obtain ⟨qa1, qa2⟩ := fillR_ql hrs (by decide) hn e0
      have lenA : (fillR us os rs need).taken.length = us.length := fillF_len _ _ _ _
      have hpl : 0 ≤ pr ∧ pr ≤ 1000000 := by
        rw [hpr]
        rcases inv.t3 with e | ⟨q, hq, e⟩
        · omega
        · have hql := (ordF_ord us).lt q hq
          have hu : us[q]? = some us[q] := List.getElem?_eq_getElem hql
          have := firstE_fine hf1 us[q] (List.getElem_mem hql)
          rw [e, spn_get hu]
          exact ⟨this.2.2.1, this.2.2.2.1⟩
      obtain ⟨A, hA⟩ : ∃ A, A = fillR us os rs need := ⟨_, rfl⟩
      rw [← hA] at hq htk hpr qa1 qa2 lenA inv
      have ltk : tk.length = us.length := by rw [htk, qcl_len, lenA]
      have htq := htk
      rw [qcl_qqd] at htq
      have hqs : Qrs (A.taken.map qqd) A.taken 55 := qcl_qrs fun r hr => by have := qa2 r hr; omega
      cbv
      (repeat (first | (refine Good.len' ‹_› ?_; intro _ _; cbv) | ((first | refine Good.add' ‹_› ?_ ?_ | refine Good.sub' ‹_› ?_ ?_ | refine Good.mul' ‹_› ?_ ?_); (· (first | omega | (simp only [inR, cmpP, loOk, hiOk, Int.ofNat_eq_natCast, Int.negSucc_eq, IntKind.bits, Int.toNat_natCast, ge_iff_le, gt_iff_lt, ne_eq, wl_len, hl_len, natCast_fold, not_true_eq_false, not_false_eq_true] at * <;> omega))); intro _ _; cbv) | ((first | (refine Good.yes ‹_› ?_ ?_; (· (first | omega | (simp only [inR, cmpP, loOk, hiOk, Int.ofNat_eq_natCast, Int.negSucc_eq, IntKind.bits, Int.toNat_natCast, ge_iff_le, gt_iff_lt, ne_eq, wl_len, hl_len, natCast_fold, not_true_eq_false, not_false_eq_true] at * <;> omega)))) | (refine Good.no ‹_› rfl ?_ ?_; (· (first | omega | (simp only [inR, cmpP, loOk, hiOk, Int.ofNat_eq_natCast, Int.negSucc_eq, IntKind.bits, Int.toNat_natCast, ge_iff_le, gt_iff_lt, ne_eq, wl_len, hl_len, natCast_fold, not_true_eq_false, not_false_eq_true] at * <;> omega)))) | (refine Good.convi ‹_› ?_ ?_; (· (first | omega | (simp only [inR, cmpP, loOk, hiOk, Int.ofNat_eq_natCast, Int.negSucc_eq, IntKind.bits, Int.toNat_natCast, ge_iff_le, gt_iff_lt, ne_eq, wl_len, hl_len, natCast_fold, not_true_eq_false, not_false_eq_true] at * <;> omega))))); cbv) | (refine Good.chk' ‹_› rfl ?_; cbv)))
      refine pay_s h htq hqs (by (first | omega | (simp only [inR, cmpP, loOk, hiOk, Int.ofNat_eq_natCast, Int.negSucc_eq, IntKind.bits, Int.toNat_natCast, ge_iff_le, gt_iff_lt, ne_eq, wl_len, hl_len, natCast_fold, not_true_eq_false, not_false_eq_true] at * <;> omega))) (by simp; omega) (by simp; omega) (by decide) fun b3 z3 b4 z4 ea hall hea => ?_
      obtain ⟨pq, hpq⟩ : ∃ pq, pq = (pr : Rat) := ⟨_, rfl⟩
      have hpi := need_ql (need := pr) (by (first | omega | (simp only [inR, cmpP, loOk, hiOk, Int.ofNat_eq_natCast, Int.negSucc_eq, IntKind.bits, Int.toNat_natCast, ge_iff_le, gt_iff_lt, ne_eq, wl_len, hl_len, natCast_fold, not_true_eq_false, not_false_eq_true] at * <;> omega)))
      rw [← hpq] at hall hea hpi
      have hpll : (payL A.taken pq).length = us.length := by simp [payL, lenA]
      have lea : ea.length = us.length := by rw [hea, qcl_len, hpll]
      have hpg : ∀ i, i < us.length → (payL A.taken pq)[i]? = some (gR A.taken i * pq) := fun i hi => by
        have := get_gR (l := A.taken) (i := i) (by omega)
        simp [payL, this]
      obtain ⟨PL, hPL⟩ : ∃ PL, PL = payL A.taken pq := ⟨_, rfl⟩
      rw [← hPL] at hall hea hpll hpg
      have hord := ordF_ord us
      have ht1 : ∀ i, i < us.length → spn us i < pr → gR A.taken i = gR (rmsF us os rs) i := fun i hi hh => inv.t1 i (hord.mem i hi) (by rw [← hpr]; exact hh)
      have ht2 : ∀ i, i < us.length → 0 < gR A.taken i → spn us i ≤ pr := fun i hi hh => by rw [hpr]; exact inv.t2 i hi hh
      have hlo' := inv.lo
      have hroom := @room_eq us os rs hlo hlr hnb
      clear inv hsp0 hA hqs htq hs hz hrho hf1 hnb e0 hq qa1 hPL hn hn0 hn1 hord hpr
      cbv
      (repeat (first | (refine Good.len' ‹_› ?_; intro _ _; cbv) | ((first | refine Good.add' ‹_› ?_ ?_ | refine Good.sub' ‹_› ?_ ?_ | refine Good.mul' ‹_› ?_ ?_); (· (first | omega | (simp only [inR, cmpP, loOk, hiOk, Int.ofNat_eq_natCast, Int.negSucc_eq, IntKind.bits, Int.toNat_natCast, ge_iff_le, gt_iff_lt, ne_eq, wl_len, hl_len, natCast_fold, not_true_eq_false, not_false_eq_true] at * <;> omega))); intro _ _; cbv) | ((first | (refine Good.yes ‹_› ?_ ?_; (· (first | omega | (simp only [inR, cmpP, loOk, hiOk, Int.ofNat_eq_natCast, Int.negSucc_eq, IntKind.bits, Int.toNat_natCast, ge_iff_le, gt_iff_lt, ne_eq, wl_len, hl_len, natCast_fold, not_true_eq_false, not_false_eq_true] at * <;> omega)))) | (refine Good.no ‹_› rfl ?_ ?_; (· (first | omega | (simp only [inR, cmpP, loOk, hiOk, Int.ofNat_eq_natCast, Int.negSucc_eq, IntKind.bits, Int.toNat_natCast, ge_iff_le, gt_iff_lt, ne_eq, wl_len, hl_len, natCast_fold, not_true_eq_false, not_false_eq_true] at * <;> omega)))) | (refine Good.convi ‹_› ?_ ?_; (· (first | omega | (simp only [inR, cmpP, loOk, hiOk, Int.ofNat_eq_natCast, Int.negSucc_eq, IntKind.bits, Int.toNat_natCast, ge_iff_le, gt_iff_lt, ne_eq, wl_len, hl_len, natCast_fold, not_true_eq_false, not_false_eq_true] at * <;> omega))))); cbv) | (refine Good.chk' ‹_› rfl ?_; cbv)))
      refine ffromInt_s h (n := 0) ir0 fun b5 z5 hq5 => ?_
      have hq5 : Qc b5 z5 false [] (0 : Rat) := hq5
      cbv
      refine h.loop' (Int × Nat × Bool × List (List D) × Bool × List (List D)) (fun p => p.1 = (p.2.1 : Int) ∧ p.2.1 ≤ us.length ∧ Qc p.2.2.1 p.2.2.2.1 p.2.2.2.2.1 p.2.2.2.2.2 (sumR (PL.take p.2.1)) ∧ ql (sumR (PL.take p.2.1)) ≤ 1 + 60 * p.2.1)
        (fun p => ⟨[(0, .v (.one (.sl t 9 es))), (1, .v (.one (.sl t' 1 bs))), (2, .v (.one (.sl t'' 4 gs))), (9, .v (.one (.sl 1 4 tk))), (10, vi .i64 pr), (13, .v (.one (.sl 1 4 ea))), (14, .p 14 0 0 0), (15, .p 15 0 0 0), (16, vi .i64 p.1)],
          [(14, .bx [.sc (.bool b3), .sl 1 1 z3, .sc (.bool b4), .sl 1 1 z4]), (15, .bx [.sc (.bool p.2.2.1), .sl 1 1 p.2.2.2.1, .sc (.bool p.2.2.2.2.1), .sl 1 1 p.2.2.2.2.2])]⟩) (fun p => us.length - p.2.1) (0, 0, b5, z5, false, []) ⟨rfl, Nat.zero_le _, hq5, ql_zero⟩ (by (refine Wk.of [(14, some 14), (15, some 15)] rfl ?_ ?_; (· (repeat (first | exact trivial | (refine And.intro ?_ ?_; (· first | exact trivial | exact Or.inl ⟨_, rfl, rfl⟩ | exact ⟨_, rfl, rfl⟩ | exact Or.inr ⟨rfl, rfl, by decide⟩))))); (· (repeat (first | exact trivial | (refine And.intro ?_ ?_; (· first | exact trivial | exact Or.inl rfl | rfl | exact Or.inr ⟨_, _, _, _, rfl, rfl, rfl, renNo rfl⟩ | exact ⟨ne_no rfl, Or.inl ⟨_, rfl, rfl⟩⟩ | exact ⟨ne_no rfl, Or.inr ⟨rfl, _, rfl⟩⟩ | exact ⟨_, rfl, rfl, ne_no rfl⟩))))))) ?_
      clear hq5
      rintro ⟨iz, i, d1, d2, d3, d4⟩ R ⟨hiz, hi, hS, hB⟩ hR
      simp only at hiz hi hS hB
      cbv
      (repeat (first | (refine Good.len' ‹_› ?_; intro _ _; cbv) | ((first | refine Good.add' ‹_› ?_ ?_ | refine Good.sub' ‹_› ?_ ?_ | refine Good.mul' ‹_› ?_ ?_); (· (first | omega | (simp only [inR, cmpP, loOk, hiOk, Int.ofNat_eq_natCast, Int.negSucc_eq, IntKind.bits, Int.toNat_natCast, ge_iff_le, gt_iff_lt, ne_eq, wl_len, hl_len, natCast_fold, not_true_eq_false, not_false_eq_true] at * <;> omega))); intro _ _; cbv) | ((first | (refine Good.yes ‹_› ?_ ?_; (· (first | omega | (simp only [inR, cmpP, loOk, hiOk, Int.ofNat_eq_natCast, Int.negSucc_eq, IntKind.bits, Int.toNat_natCast, ge_iff_le, gt_iff_lt, ne_eq, wl_len, hl_len, natCast_fold, not_true_eq_false, not_false_eq_true] at * <;> omega)))) | (refine Good.no ‹_› rfl ?_ ?_; (· (first | omega | (simp only [inR, cmpP, loOk, hiOk, Int.ofNat_eq_natCast, Int.negSucc_eq, IntKind.bits, Int.toNat_natCast, ge_iff_le, gt_iff_lt, ne_eq, wl_len, hl_len, natCast_fold, not_true_eq_false, not_false_eq_true] at * <;> omega)))) | (refine Good.convi ‹_› ?_ ?_; (· (first | omega | (simp only [inR, cmpP, loOk, hiOk, Int.ofNat_eq_natCast, Int.negSucc_eq, IntKind.bits, Int.toNat_natCast, ge_iff_le, gt_iff_lt, ne_eq, wl_len, hl_len, natCast_fold, not_true_eq_false, not_false_eq_true] at * <;> omega))))); cbv) | (refine Good.chk' ‹_› rfl ?_; cbv)))
      refine h.dec rfl (fun hp2 => ?_) (fun hp2 => ?_)
      · have hil : i < us.length := by (first | omega | (simp only [inR, cmpP, loOk, hiOk, Int.ofNat_eq_natCast, Int.negSucc_eq, IntKind.bits, Int.toNat_natCast, ge_iff_le, gt_iff_lt, ne_eq, wl_len, hl_len, natCast_fold, not_true_eq_false, not_false_eq_true] at * <;> omega))
        obtain ⟨u, o, r, g1, g2, g3, g4⟩ := rooms_get (rmsF_rooms hlo hlr) hil
        obtain ⟨zq, r', g5, g6, g7⟩ := hrs.get (show i < rs.length by omega)
        rw [g3] at g6
        cases g6
        have hge := ud_get g1
        rw [← he] at hge
        obtain ⟨ss, hss⟩ : ∃ ss, ss = stl u.steps := ⟨_, rfl⟩
        rw [← hss] at hge
        have hbg := bl_get g2
        rw [← hb] at hbg
        have hgg := qd_get g5
        rw [← hg] at hgg
        have hu := hou u (List.mem_of_getElem? g1)
        have hsi := hu.spin
        obtain ⟨zs1, zt, zx, zs2, zt', zy⟩ := zq
        simp only at hgg g7
        have hrm := hroom g1 g2 g3
        have hqr := g7.ql
        have hrl := rmR_ql (u := u) (o := o) (r := r) (L := 6) (by omega)
        have ga := get_gR (l := A.taken) (i := i) (by omega)
        obtain ⟨a1, a2, a3, a4, ka, hga⟩ := canon2 htk ga
        have gp := hpg i hil
        obtain ⟨p1, p2, p3, p4, kp, hgp⟩ := canon2 hea gp
        have la := qa2 _ (List.mem_of_getElem? ga)
        have hta1 := ht1 i hil
        have hta2 := ht2 i hil
        have hta3 := hlo' i hil
        have hsp := spn_get g1
        rw [← hrm] at hta1
        rw [hsp] at hta1 hta2
        have hpq' : pq = ((pr : Int) : Rat) := hpq
        have hpc := paid_ge (p := pq) (s := ((u.spin : Int) : Rat)) hta3 (fun hh => by have := cast_le (hta2 hh); rw [hpq']; exact this)
        obtain ⟨ρ, hρ⟩ : ∃ ρ, ρ = rmR u o r := ⟨_, rfl⟩
        rw [← hρ] at hta1 hrl
        obtain ⟨ta, hta⟩ : ∃ ta, ta = gR A.taken i := ⟨_, rfl⟩
        rw [← hta] at ka la hta1 hta2 hta3 kp gp hpc
        obtain ⟨sq, hsq⟩ : ∃ sq, sq = (u.spin : Rat) := ⟨_, rfl⟩
        have hsl := need_ql hsi
        rw [← hsq] at hpc hsl
        have lm1 := ql_mul ta sq
        have lm2 := ql_mul ta pq
        have hss2 := sumR_take gp
        have hb2 := sum_bd (A := 60) hB (show ql (ta * pq) + 1 ≤ 60 by omega)
        rw [← hss2] at hb2
        have hcs := sgnQ_pos' (q := ta)
        have hps : spn us i = spn us i := rfl
        clear ga hrm hta g4 hou hrs hroom hpg ht1 ht2 hlo' qa2 hb htk hea gp hall
        cbv
        refine h.get' i _ hiz hga ?_
        cbv
        refine fsign_s h (l := 900) (ka.r.le (by omega)) (by omega) fun c1 hc1 => ?_
        rw [← hc1] at hcs
        cbv
        refine h.dec rfl (fun hp3 => ?_) (fun hp3 => ?_)
        · have hsp1 : u.spin ≤ pr := hta2 (hcs.1 (by (first | omega | (simp only [inR, cmpP, loOk, hiOk, Int.ofNat_eq_natCast, Int.negSucc_eq, IntKind.bits, Int.toNat_natCast, ge_iff_le, gt_iff_lt, ne_eq, wl_len, hl_len, natCast_fold, not_true_eq_false, not_false_eq_true] at * <;> omega))))
          clear hta2 hcs
          cbv
          refine h.get' i _ hiz hge ?_
          cbv
          refine h.dec rfl (fun hp4 => ?_) (fun hp4 => ?_)
          · (have hta4 := hta1 hp4
             cbv
             refine h.get' i _ hiz hga ?_
             cbv
             refine h.get' i _ hiz hge ?_
             cbv
             refine h.get' i _ hiz hbg ?_
             cbv
             refine h.get' i _ hiz hgg ?_
             cbv
             refine lroom_s h hu hss g7 (by decide) fun e1 e2 e3 e4 ke => ?_
             rw [← hρ] at ke
             cbv
             refine fequal_s h (l := 900) (ka.r.le (by omega)) (ke.r.le (by omega)) (by omega) fun c2 hc2 => ?_
             have hc2 : c2 = true := by rw [hc2]; exact decide_eq_true hta4
             subst hc2
             cbv
            )
            refine h.get' i _ hiz hge ?_
            cbv
            refine h.no rfl (fun hh => absurd (show pr < u.spin from hh) (Int.not_lt.2 hsp1)) ?_
            (cbv
             refine h.get' i _ hiz hgp ?_
             cbv
             refine h.get' i _ hiz hga ?_
             cbv
             refine h.get' i _ hiz hge ?_
             cbv
             refine ffromInt_s h hsi fun f1 f2 kf => ?_
             have kf : Qc f1 f2 false [] sq := by rw [hsq]; exact kf
             cbv
             refine fmul_s h (l := 900) (ka.r.le (by omega)) (kf.r.le (by omega)) (by omega) fun m1 m2 m3 m4 km => ?_
             cbv
             refine fcmp_s h (l := 900) (kp.r.le (by omega)) (km.r.le (by omega)) (by omega) fun c4 hc4 => ?_
             have hc40 : 0 ≤ c4 := by
               rw [hc4]
               rcases sgnQ_cases (ta * pq - ta * sq) with ⟨k, _⟩ | ⟨_, k⟩ | ⟨_, k⟩
               · exfalso; grind
               · omega
               · omega
             cbv
             (repeat (first | (refine Good.len' ‹_› ?_; intro _ _; cbv) | ((first | refine Good.add' ‹_› ?_ ?_ | refine Good.sub' ‹_› ?_ ?_ | refine Good.mul' ‹_› ?_ ?_); (· (first | omega | (simp only [inR, cmpP, loOk, hiOk, Int.ofNat_eq_natCast, Int.negSucc_eq, IntKind.bits, Int.toNat_natCast, ge_iff_le, gt_iff_lt, ne_eq, wl_len, hl_len, natCast_fold, not_true_eq_false, not_false_eq_true] at * <;> omega))); intro _ _; cbv) | ((first | (refine Good.yes ‹_› ?_ ?_; (· (first | omega | (simp only [inR, cmpP, loOk, hiOk, Int.ofNat_eq_natCast, Int.negSucc_eq, IntKind.bits, Int.toNat_natCast, ge_iff_le, gt_iff_lt, ne_eq, wl_len, hl_len, natCast_fold, not_true_eq_false, not_false_eq_true] at * <;> omega)))) | (refine Good.no ‹_› rfl ?_ ?_; (· (first | omega | (simp only [inR, cmpP, loOk, hiOk, Int.ofNat_eq_natCast, Int.negSucc_eq, IntKind.bits, Int.toNat_natCast, ge_iff_le, gt_iff_lt, ne_eq, wl_len, hl_len, natCast_fold, not_true_eq_false, not_false_eq_true] at * <;> omega)))) | (refine Good.convi ‹_› ?_ ?_; (· (first | omega | (simp only [inR, cmpP, loOk, hiOk, Int.ofNat_eq_natCast, Int.negSucc_eq, IntKind.bits, Int.toNat_natCast, ge_iff_le, gt_iff_lt, ne_eq, wl_len, hl_len, natCast_fold, not_true_eq_false, not_false_eq_true] at * <;> omega))))); cbv) | (refine Good.chk' ‹_› rfl ?_; cbv)))
             refine h.get' i _ hiz hgp ?_
             cbv
             refine fadd_s h (l := 900) (hS.r.le (by omega)) (kp.r.le (by omega)) (by omega) fun n1 n2 n3 n4 kn => ?_
             rw [← hss2] at kn
             clear hS hc4 hc40 km kf hpc
             cbv
             (repeat (first | (refine Good.len' ‹_› ?_; intro _ _; cbv) | ((first | refine Good.add' ‹_› ?_ ?_ | refine Good.sub' ‹_› ?_ ?_ | refine Good.mul' ‹_› ?_ ?_); (· (first | omega | (simp only [inR, cmpP, loOk, hiOk, Int.ofNat_eq_natCast, Int.negSucc_eq, IntKind.bits, Int.toNat_natCast, ge_iff_le, gt_iff_lt, ne_eq, wl_len, hl_len, natCast_fold, not_true_eq_false, not_false_eq_true] at * <;> omega))); intro _ _; cbv) | ((first | (refine Good.yes ‹_› ?_ ?_; (· (first | omega | (simp only [inR, cmpP, loOk, hiOk, Int.ofNat_eq_natCast, Int.negSucc_eq, IntKind.bits, Int.toNat_natCast, ge_iff_le, gt_iff_lt, ne_eq, wl_len, hl_len, natCast_fold, not_true_eq_false, not_false_eq_true] at * <;> omega)))) | (refine Good.no ‹_› rfl ?_ ?_; (· (first | omega | (simp only [inR, cmpP, loOk, hiOk, Int.ofNat_eq_natCast, Int.negSucc_eq, IntKind.bits, Int.toNat_natCast, ge_iff_le, gt_iff_lt, ne_eq, wl_len, hl_len, natCast_fold, not_true_eq_false, not_false_eq_true] at * <;> omega)))) | (refine Good.convi ‹_› ?_ ?_; (· (first | omega | (simp only [inR, cmpP, loOk, hiOk, Int.ofNat_eq_natCast, Int.negSucc_eq, IntKind.bits, Int.toNat_natCast, ge_iff_le, gt_iff_lt, ne_eq, wl_len, hl_len, natCast_fold, not_true_eq_false, not_false_eq_true] at * <;> omega))))); cbv) | (refine Good.chk' ‹_› rfl ?_; cbv)))
             rename_i i1 hi1
             refine hR _ (i1, i + 1, n1, n2, n3, n4) ⟨by simp only; (first | omega | (simp only [inR, cmpP, loOk, hiOk, Int.ofNat_eq_natCast, Int.negSucc_eq, IntKind.bits, Int.toNat_natCast, ge_iff_le, gt_iff_lt, ne_eq, wl_len, hl_len, natCast_fold, not_true_eq_false, not_false_eq_true] at * <;> omega)), by simp only; (first | omega | (simp only [inR, cmpP, loOk, hiOk, Int.ofNat_eq_natCast, Int.negSucc_eq, IntKind.bits, Int.toNat_natCast, ge_iff_le, gt_iff_lt, ne_eq, wl_len, hl_len, natCast_fold, not_true_eq_false, not_false_eq_true] at * <;> omega)), kn, hb2⟩ (by simp only; (first | omega | (simp only [inR, cmpP, loOk, hiOk, Int.ofNat_eq_natCast, Int.negSucc_eq, IntKind.bits, Int.toNat_natCast, ge_iff_le, gt_iff_lt, ne_eq, wl_len, hl_len, natCast_fold, not_true_eq_false, not_false_eq_true] at * <;> omega))) (by (refine Wk.of [(14, some 14), (15, some 15)] rfl ?_ ?_; (· (repeat (first | exact trivial | (refine And.intro ?_ ?_; (· first | exact trivial | exact Or.inl ⟨_, rfl, rfl⟩ | exact ⟨_, rfl, rfl⟩ | exact Or.inr ⟨rfl, rfl, by decide⟩))))); (· (repeat (first | exact trivial | (refine And.intro ?_ ?_; (· first | exact trivial | exact Or.inl rfl | rfl | exact Or.inr ⟨_, _, _, _, rfl, rfl, rfl, renNo rfl⟩ | exact ⟨ne_no rfl, Or.inl ⟨_, rfl, rfl⟩⟩ | exact ⟨ne_no rfl, Or.inr ⟨rfl, _, rfl⟩⟩ | exact ⟨_, rfl, rfl, ne_no rfl⟩)))))))
            )
          · cbv
            refine h.get' i _ hiz hge ?_
            cbv
            refine h.no rfl (fun hh => absurd (show pr < u.spin from hh) (Int.not_lt.2 hsp1)) ?_
            (cbv
             refine h.get' i _ hiz hgp ?_
             cbv
             refine h.get' i _ hiz hga ?_
             cbv
             refine h.get' i _ hiz hge ?_
             cbv
             refine ffromInt_s h hsi fun f1 f2 kf => ?_
             have kf : Qc f1 f2 false [] sq := by rw [hsq]; exact kf
             cbv
             refine fmul_s h (l := 900) (ka.r.le (by omega)) (kf.r.le (by omega)) (by omega) fun m1 m2 m3 m4 km => ?_
             cbv
             refine fcmp_s h (l := 900) (kp.r.le (by omega)) (km.r.le (by omega)) (by omega) fun c4 hc4 => ?_
             have hc40 : 0 ≤ c4 := by
               rw [hc4]
               rcases sgnQ_cases (ta * pq - ta * sq) with ⟨k, _⟩ | ⟨_, k⟩ | ⟨_, k⟩
               · exfalso; grind
               · omega
               · omega
             cbv
             (repeat (first | (refine Good.len' ‹_› ?_; intro _ _; cbv) | ((first | refine Good.add' ‹_› ?_ ?_ | refine Good.sub' ‹_› ?_ ?_ | refine Good.mul' ‹_› ?_ ?_); (· (first | omega | (simp only [inR, cmpP, loOk, hiOk, Int.ofNat_eq_natCast, Int.negSucc_eq, IntKind.bits, Int.toNat_natCast, ge_iff_le, gt_iff_lt, ne_eq, wl_len, hl_len, natCast_fold, not_true_eq_false, not_false_eq_true] at * <;> omega))); intro _ _; cbv) | ((first | (refine Good.yes ‹_› ?_ ?_; (· (first | omega | (simp only [inR, cmpP, loOk, hiOk, Int.ofNat_eq_natCast, Int.negSucc_eq, IntKind.bits, Int.toNat_natCast, ge_iff_le, gt_iff_lt, ne_eq, wl_len, hl_len, natCast_fold, not_true_eq_false, not_false_eq_true] at * <;> omega)))) | (refine Good.no ‹_› rfl ?_ ?_; (· (first | omega | (simp only [inR, cmpP, loOk, hiOk, Int.ofNat_eq_natCast, Int.negSucc_eq, IntKind.bits, Int.toNat_natCast, ge_iff_le, gt_iff_lt, ne_eq, wl_len, hl_len, natCast_fold, not_true_eq_false, not_false_eq_true] at * <;> omega)))) | (refine Good.convi ‹_› ?_ ?_; (· (first | omega | (simp only [inR, cmpP, loOk, hiOk, Int.ofNat_eq_natCast, Int.negSucc_eq, IntKind.bits, Int.toNat_natCast, ge_iff_le, gt_iff_lt, ne_eq, wl_len, hl_len, natCast_fold, not_true_eq_false, not_false_eq_true] at * <;> omega))))); cbv) | (refine Good.chk' ‹_› rfl ?_; cbv)))
             refine h.get' i _ hiz hgp ?_
             cbv
             refine fadd_s h (l := 900) (hS.r.le (by omega)) (kp.r.le (by omega)) (by omega) fun n1 n2 n3 n4 kn => ?_
             rw [← hss2] at kn
             clear hS hc4 hc40 km kf hpc
             cbv
             (repeat (first | (refine Good.len' ‹_› ?_; intro _ _; cbv) | ((first | refine Good.add' ‹_› ?_ ?_ | refine Good.sub' ‹_› ?_ ?_ | refine Good.mul' ‹_› ?_ ?_); (· (first | omega | (simp only [inR, cmpP, loOk, hiOk, Int.ofNat_eq_natCast, Int.negSucc_eq, IntKind.bits, Int.toNat_natCast, ge_iff_le, gt_iff_lt, ne_eq, wl_len, hl_len, natCast_fold, not_true_eq_false, not_false_eq_true] at * <;> omega))); intro _ _; cbv) | ((first | (refine Good.yes ‹_› ?_ ?_; (· (first | omega | (simp only [inR, cmpP, loOk, hiOk, Int.ofNat_eq_natCast, Int.negSucc_eq, IntKind.bits, Int.toNat_natCast, ge_iff_le, gt_iff_lt, ne_eq, wl_len, hl_len, natCast_fold, not_true_eq_false, not_false_eq_true] at * <;> omega)))) | (refine Good.no ‹_› rfl ?_ ?_; (· (first | omega | (simp only [inR, cmpP, loOk, hiOk, Int.ofNat_eq_natCast, Int.negSucc_eq, IntKind.bits, Int.toNat_natCast, ge_iff_le, gt_iff_lt, ne_eq, wl_len, hl_len, natCast_fold, not_true_eq_false, not_false_eq_true] at * <;> omega)))) | (refine Good.convi ‹_› ?_ ?_; (· (first | omega | (simp only [inR, cmpP, loOk, hiOk, Int.ofNat_eq_natCast, Int.negSucc_eq, IntKind.bits, Int.toNat_natCast, ge_iff_le, gt_iff_lt, ne_eq, wl_len, hl_len, natCast_fold, not_true_eq_false, not_false_eq_true] at * <;> omega))))); cbv) | (refine Good.chk' ‹_› rfl ?_; cbv)))
             rename_i i1 hi1
             refine hR _ (i1, i + 1, n1, n2, n3, n4) ⟨by simp only; (first | omega | (simp only [inR, cmpP, loOk, hiOk, Int.ofNat_eq_natCast, Int.negSucc_eq, IntKind.bits, Int.toNat_natCast, ge_iff_le, gt_iff_lt, ne_eq, wl_len, hl_len, natCast_fold, not_true_eq_false, not_false_eq_true] at * <;> omega)), by simp only; (first | omega | (simp only [inR, cmpP, loOk, hiOk, Int.ofNat_eq_natCast, Int.negSucc_eq, IntKind.bits, Int.toNat_natCast, ge_iff_le, gt_iff_lt, ne_eq, wl_len, hl_len, natCast_fold, not_true_eq_false, not_false_eq_true] at * <;> omega)), kn, hb2⟩ (by simp only; (first | omega | (simp only [inR, cmpP, loOk, hiOk, Int.ofNat_eq_natCast, Int.negSucc_eq, IntKind.bits, Int.toNat_natCast, ge_iff_le, gt_iff_lt, ne_eq, wl_len, hl_len, natCast_fold, not_true_eq_false, not_false_eq_true] at * <;> omega))) (by (refine Wk.of [(14, some 14), (15, some 15)] rfl ?_ ?_; (· (repeat (first | exact trivial | (refine And.intro ?_ ?_; (· first | exact trivial | exact Or.inl ⟨_, rfl, rfl⟩ | exact ⟨_, rfl, rfl⟩ | exact Or.inr ⟨rfl, rfl, by decide⟩))))); (· (repeat (first | exact trivial | (refine And.intro ?_ ?_; (· first | exact trivial | exact Or.inl rfl | rfl | exact Or.inr ⟨_, _, _, _, rfl, rfl, rfl, renNo rfl⟩ | exact ⟨ne_no rfl, Or.inl ⟨_, rfl, rfl⟩⟩ | exact ⟨ne_no rfl, Or.inr ⟨rfl, _, rfl⟩⟩ | exact ⟨_, rfl, rfl, ne_no rfl⟩)))))))
            )
        · cbv
          refine h.get' i _ hiz hge ?_
          cbv
          refine h.dec rfl (fun hp4 => ?_) (fun hp4 => ?_)
          · (have hta4 := hta1 hp4
             cbv
             refine h.get' i _ hiz hga ?_
             cbv
             refine h.get' i _ hiz hge ?_
             cbv
             refine h.get' i _ hiz hbg ?_
             cbv
             refine h.get' i _ hiz hgg ?_
             cbv
             refine lroom_s h hu hss g7 (by decide) fun e1 e2 e3 e4 ke => ?_
             rw [← hρ] at ke
             cbv
             refine fequal_s h (l := 900) (ka.r.le (by omega)) (ke.r.le (by omega)) (by omega) fun c2 hc2 => ?_
             have hc2 : c2 = true := by rw [hc2]; exact decide_eq_true hta4
             subst hc2
             cbv
            )
            refine h.get' i _ hiz hge ?_
            cbv
            refine h.no rfl (fun hh => absurd (show pr < u.spin from hh) (Int.not_lt.2 (Int.le_of_lt (show u.spin < pr from hp4)))) ?_
            (cbv
             refine h.get' i _ hiz hgp ?_
             cbv
             refine h.get' i _ hiz hga ?_
             cbv
             refine h.get' i _ hiz hge ?_
             cbv
             refine ffromInt_s h hsi fun f1 f2 kf => ?_
             have kf : Qc f1 f2 false [] sq := by rw [hsq]; exact kf
             cbv
             refine fmul_s h (l := 900) (ka.r.le (by omega)) (kf.r.le (by omega)) (by omega) fun m1 m2 m3 m4 km => ?_
             cbv
             refine fcmp_s h (l := 900) (kp.r.le (by omega)) (km.r.le (by omega)) (by omega) fun c4 hc4 => ?_
             have hc40 : 0 ≤ c4 := by
               rw [hc4]
               rcases sgnQ_cases (ta * pq - ta * sq) with ⟨k, _⟩ | ⟨_, k⟩ | ⟨_, k⟩
               · exfalso; grind
               · omega
               · omega
             cbv
             (repeat (first | (refine Good.len' ‹_› ?_; intro _ _; cbv) | ((first | refine Good.add' ‹_› ?_ ?_ | refine Good.sub' ‹_› ?_ ?_ | refine Good.mul' ‹_› ?_ ?_); (· (first | omega | (simp only [inR, cmpP, loOk, hiOk, Int.ofNat_eq_natCast, Int.negSucc_eq, IntKind.bits, Int.toNat_natCast, ge_iff_le, gt_iff_lt, ne_eq, wl_len, hl_len, natCast_fold, not_true_eq_false, not_false_eq_true] at * <;> omega))); intro _ _; cbv) | ((first | (refine Good.yes ‹_› ?_ ?_; (· (first | omega | (simp only [inR, cmpP, loOk, hiOk, Int.ofNat_eq_natCast, Int.negSucc_eq, IntKind.bits, Int.toNat_natCast, ge_iff_le, gt_iff_lt, ne_eq, wl_len, hl_len, natCast_fold, not_true_eq_false, not_false_eq_true] at * <;> omega)))) | (refine Good.no ‹_› rfl ?_ ?_; (· (first | omega | (simp only [inR, cmpP, loOk, hiOk, Int.ofNat_eq_natCast, Int.negSucc_eq, IntKind.bits, Int.toNat_natCast, ge_iff_le, gt_iff_lt, ne_eq, wl_len, hl_len, natCast_fold, not_true_eq_false, not_false_eq_true] at * <;> omega)))) | (refine Good.convi ‹_› ?_ ?_; (· (first | omega | (simp only [inR, cmpP, loOk, hiOk, Int.ofNat_eq_natCast, Int.negSucc_eq, IntKind.bits, Int.toNat_natCast, ge_iff_le, gt_iff_lt, ne_eq, wl_len, hl_len, natCast_fold, not_true_eq_false, not_false_eq_true] at * <;> omega))))); cbv) | (refine Good.chk' ‹_› rfl ?_; cbv)))
             refine h.get' i _ hiz hgp ?_
             cbv
             refine fadd_s h (l := 900) (hS.r.le (by omega)) (kp.r.le (by omega)) (by omega) fun n1 n2 n3 n4 kn => ?_
             rw [← hss2] at kn
             clear hS hc4 hc40 km kf hpc
             cbv
             (repeat (first | (refine Good.len' ‹_› ?_; intro _ _; cbv) | ((first | refine Good.add' ‹_› ?_ ?_ | refine Good.sub' ‹_› ?_ ?_ | refine Good.mul' ‹_› ?_ ?_); (· (first | omega | (simp only [inR, cmpP, loOk, hiOk, Int.ofNat_eq_natCast, Int.negSucc_eq, IntKind.bits, Int.toNat_natCast, ge_iff_le, gt_iff_lt, ne_eq, wl_len, hl_len, natCast_fold, not_true_eq_false, not_false_eq_true] at * <;> omega))); intro _ _; cbv) | ((first | (refine Good.yes ‹_› ?_ ?_; (· (first | omega | (simp only [inR, cmpP, loOk, hiOk, Int.ofNat_eq_natCast, Int.negSucc_eq, IntKind.bits, Int.toNat_natCast, ge_iff_le, gt_iff_lt, ne_eq, wl_len, hl_len, natCast_fold, not_true_eq_false, not_false_eq_true] at * <;> omega)))) | (refine Good.no ‹_› rfl ?_ ?_; (· (first | omega | (simp only [inR, cmpP, loOk, hiOk, Int.ofNat_eq_natCast, Int.negSucc_eq, IntKind.bits, Int.toNat_natCast, ge_iff_le, gt_iff_lt, ne_eq, wl_len, hl_len, natCast_fold, not_true_eq_false, not_false_eq_true] at * <;> omega)))) | (refine Good.convi ‹_› ?_ ?_; (· (first | omega | (simp only [inR, cmpP, loOk, hiOk, Int.ofNat_eq_natCast, Int.negSucc_eq, IntKind.bits, Int.toNat_natCast, ge_iff_le, gt_iff_lt, ne_eq, wl_len, hl_len, natCast_fold, not_true_eq_false, not_false_eq_true] at * <;> omega))))); cbv) | (refine Good.chk' ‹_› rfl ?_; cbv)))
             rename_i i1 hi1
             refine hR _ (i1, i + 1, n1, n2, n3, n4) ⟨by simp only; (first | omega | (simp only [inR, cmpP, loOk, hiOk, Int.ofNat_eq_natCast, Int.negSucc_eq, IntKind.bits, Int.toNat_natCast, ge_iff_le, gt_iff_lt, ne_eq, wl_len, hl_len, natCast_fold, not_true_eq_false, not_false_eq_true] at * <;> omega)), by simp only; (first | omega | (simp only [inR, cmpP, loOk, hiOk, Int.ofNat_eq_natCast, Int.negSucc_eq, IntKind.bits, Int.toNat_natCast, ge_iff_le, gt_iff_lt, ne_eq, wl_len, hl_len, natCast_fold, not_true_eq_false, not_false_eq_true] at * <;> omega)), kn, hb2⟩ (by simp only; (first | omega | (simp only [inR, cmpP, loOk, hiOk, Int.ofNat_eq_natCast, Int.negSucc_eq, IntKind.bits, Int.toNat_natCast, ge_iff_le, gt_iff_lt, ne_eq, wl_len, hl_len, natCast_fold, not_true_eq_false, not_false_eq_true] at * <;> omega))) (by (refine Wk.of [(14, some 14), (15, some 15)] rfl ?_ ?_; (· (repeat (first | exact trivial | (refine And.intro ?_ ?_; (· first | exact trivial | exact Or.inl ⟨_, rfl, rfl⟩ | exact ⟨_, rfl, rfl⟩ | exact Or.inr ⟨rfl, rfl, by decide⟩))))); (· (repeat (first | exact trivial | (refine And.intro ?_ ?_; (· first | exact trivial | exact Or.inl rfl | rfl | exact Or.inr ⟨_, _, _, _, rfl, rfl, rfl, renNo rfl⟩ | exact ⟨ne_no rfl, Or.inl ⟨_, rfl, rfl⟩⟩ | exact ⟨ne_no rfl, Or.inr ⟨rfl, _, rfl⟩⟩ | exact ⟨_, rfl, rfl, ne_no rfl⟩)))))))
            )
          · cbv
            refine h.get' i _ hiz hge ?_
            cbv
            refine h.dec rfl (fun hp5 => ?_) (fun hp5 => ?_)
            · (cbv
               refine h.get' i _ hiz hgp ?_
               cbv
               refine h.get' i _ hiz hga ?_
               cbv
               refine h.get' i _ hiz hge ?_
               cbv
               refine ffromInt_s h hsi fun f1 f2 kf => ?_
               have kf : Qc f1 f2 false [] sq := by rw [hsq]; exact kf
               cbv
               refine fmul_s h (l := 900) (ka.r.le (by omega)) (kf.r.le (by omega)) (by omega) fun m1 m2 m3 m4 km => ?_
               cbv
               refine fcmp_s h (l := 900) (kp.r.le (by omega)) (km.r.le (by omega)) (by omega) fun c4 hc4 => ?_
               have hc40 : 0 ≤ c4 := by
                 rw [hc4]
                 rcases sgnQ_cases (ta * pq - ta * sq) with ⟨k, _⟩ | ⟨_, k⟩ | ⟨_, k⟩
                 · exfalso; grind
                 · omega
                 · omega
               cbv
               (repeat (first | (refine Good.len' ‹_› ?_; intro _ _; cbv) | ((first | refine Good.add' ‹_› ?_ ?_ | refine Good.sub' ‹_› ?_ ?_ | refine Good.mul' ‹_› ?_ ?_); (· (first | omega | (simp only [inR, cmpP, loOk, hiOk, Int.ofNat_eq_natCast, Int.negSucc_eq, IntKind.bits, Int.toNat_natCast, ge_iff_le, gt_iff_lt, ne_eq, wl_len, hl_len, natCast_fold, not_true_eq_false, not_false_eq_true] at * <;> omega))); intro _ _; cbv) | ((first | (refine Good.yes ‹_› ?_ ?_; (· (first | omega | (simp only [inR, cmpP, loOk, hiOk, Int.ofNat_eq_natCast, Int.negSucc_eq, IntKind.bits, Int.toNat_natCast, ge_iff_le, gt_iff_lt, ne_eq, wl_len, hl_len, natCast_fold, not_true_eq_false, not_false_eq_true] at * <;> omega)))) | (refine Good.no ‹_› rfl ?_ ?_; (· (first | omega | (simp only [inR, cmpP, loOk, hiOk, Int.ofNat_eq_natCast, Int.negSucc_eq, IntKind.bits, Int.toNat_natCast, ge_iff_le, gt_iff_lt, ne_eq, wl_len, hl_len, natCast_fold, not_true_eq_false, not_false_eq_true] at * <;> omega)))) | (refine Good.convi ‹_› ?_ ?_; (· (first | omega | (simp only [inR, cmpP, loOk, hiOk, Int.ofNat_eq_natCast, Int.negSucc_eq, IntKind.bits, Int.toNat_natCast, ge_iff_le, gt_iff_lt, ne_eq, wl_len, hl_len, natCast_fold, not_true_eq_false, not_false_eq_true] at * <;> omega))))); cbv) | (refine Good.chk' ‹_› rfl ?_; cbv)))
               refine h.get' i _ hiz hgp ?_
               cbv
               refine fadd_s h (l := 900) (hS.r.le (by omega)) (kp.r.le (by omega)) (by omega) fun n1 n2 n3 n4 kn => ?_
               rw [← hss2] at kn
               clear hS hc4 hc40 km kf hpc
               cbv
               (repeat (first | (refine Good.len' ‹_› ?_; intro _ _; cbv) | ((first | refine Good.add' ‹_› ?_ ?_ | refine Good.sub' ‹_› ?_ ?_ | refine Good.mul' ‹_› ?_ ?_); (· (first | omega | (simp only [inR, cmpP, loOk, hiOk, Int.ofNat_eq_natCast, Int.negSucc_eq, IntKind.bits, Int.toNat_natCast, ge_iff_le, gt_iff_lt, ne_eq, wl_len, hl_len, natCast_fold, not_true_eq_false, not_false_eq_true] at * <;> omega))); intro _ _; cbv) | ((first | (refine Good.yes ‹_› ?_ ?_; (· (first | omega | (simp only [inR, cmpP, loOk, hiOk, Int.ofNat_eq_natCast, Int.negSucc_eq, IntKind.bits, Int.toNat_natCast, ge_iff_le, gt_iff_lt, ne_eq, wl_len, hl_len, natCast_fold, not_true_eq_false, not_false_eq_true] at * <;> omega)))) | (refine Good.no ‹_› rfl ?_ ?_; (· (first | omega | (simp only [inR, cmpP, loOk, hiOk, Int.ofNat_eq_natCast, Int.negSucc_eq, IntKind.bits, Int.toNat_natCast, ge_iff_le, gt_iff_lt, ne_eq, wl_len, hl_len, natCast_fold, not_true_eq_false, not_false_eq_true] at * <;> omega)))) | (refine Good.convi ‹_› ?_ ?_; (· (first | omega | (simp only [inR, cmpP, loOk, hiOk, Int.ofNat_eq_natCast, Int.negSucc_eq, IntKind.bits, Int.toNat_natCast, ge_iff_le, gt_iff_lt, ne_eq, wl_len, hl_len, natCast_fold, not_true_eq_false, not_false_eq_true] at * <;> omega))))); cbv) | (refine Good.chk' ‹_› rfl ?_; cbv)))
               rename_i i1 hi1
               refine hR _ (i1, i + 1, n1, n2, n3, n4) ⟨by simp only; (first | omega | (simp only [inR, cmpP, loOk, hiOk, Int.ofNat_eq_natCast, Int.negSucc_eq, IntKind.bits, Int.toNat_natCast, ge_iff_le, gt_iff_lt, ne_eq, wl_len, hl_len, natCast_fold, not_true_eq_false, not_false_eq_true] at * <;> omega)), by simp only; (first | omega | (simp only [inR, cmpP, loOk, hiOk, Int.ofNat_eq_natCast, Int.negSucc_eq, IntKind.bits, Int.toNat_natCast, ge_iff_le, gt_iff_lt, ne_eq, wl_len, hl_len, natCast_fold, not_true_eq_false, not_false_eq_true] at * <;> omega)), kn, hb2⟩ (by simp only; (first | omega | (simp only [inR, cmpP, loOk, hiOk, Int.ofNat_eq_natCast, Int.negSucc_eq, IntKind.bits, Int.toNat_natCast, ge_iff_le, gt_iff_lt, ne_eq, wl_len, hl_len, natCast_fold, not_true_eq_false, not_false_eq_true] at * <;> omega))) (by (refine Wk.of [(14, some 14), (15, some 15)] rfl ?_ ?_; (· (repeat (first | exact trivial | (refine And.intro ?_ ?_; (· first | exact trivial | exact Or.inl ⟨_, rfl, rfl⟩ | exact ⟨_, rfl, rfl⟩ | exact Or.inr ⟨rfl, rfl, by decide⟩))))); (· (repeat (first | exact trivial | (refine And.intro ?_ ?_; (· first | exact trivial | exact Or.inl rfl | rfl | exact Or.inr ⟨_, _, _, _, rfl, rfl, rfl, renNo rfl⟩ | exact ⟨ne_no rfl, Or.inl ⟨_, rfl, rfl⟩⟩ | exact ⟨ne_no rfl, Or.inr ⟨rfl, _, rfl⟩⟩ | exact ⟨_, rfl, rfl, ne_no rfl⟩)))))))
              )
            · (cbv
               refine h.get' i _ hiz hgp ?_
               cbv
               refine h.get' i _ hiz hga ?_
               cbv
               refine h.get' i _ hiz hge ?_
               cbv
               refine ffromInt_s h hsi fun f1 f2 kf => ?_
               have kf : Qc f1 f2 false [] sq := by rw [hsq]; exact kf
               cbv
               refine fmul_s h (l := 900) (ka.r.le (by omega)) (kf.r.le (by omega)) (by omega) fun m1 m2 m3 m4 km => ?_
               cbv
               refine fcmp_s h (l := 900) (kp.r.le (by omega)) (km.r.le (by omega)) (by omega) fun c4 hc4 => ?_
               have hc40 : 0 ≤ c4 := by
                 rw [hc4]
                 rcases sgnQ_cases (ta * pq - ta * sq) with ⟨k, _⟩ | ⟨_, k⟩ | ⟨_, k⟩
                 · exfalso; grind
                 · omega
                 · omega
               cbv
               (repeat (first | (refine Good.len' ‹_› ?_; intro _ _; cbv) | ((first | refine Good.add' ‹_› ?_ ?_ | refine Good.sub' ‹_› ?_ ?_ | refine Good.mul' ‹_› ?_ ?_); (· (first | omega | (simp only [inR, cmpP, loOk, hiOk, Int.ofNat_eq_natCast, Int.negSucc_eq, IntKind.bits, Int.toNat_natCast, ge_iff_le, gt_iff_lt, ne_eq, wl_len, hl_len, natCast_fold, not_true_eq_false, not_false_eq_true] at * <;> omega))); intro _ _; cbv) | ((first | (refine Good.yes ‹_› ?_ ?_; (· (first | omega | (simp only [inR, cmpP, loOk, hiOk, Int.ofNat_eq_natCast, Int.negSucc_eq, IntKind.bits, Int.toNat_natCast, ge_iff_le, gt_iff_lt, ne_eq, wl_len, hl_len, natCast_fold, not_true_eq_false, not_false_eq_true] at * <;> omega)))) | (refine Good.no ‹_› rfl ?_ ?_; (· (first | omega | (simp only [inR, cmpP, loOk, hiOk, Int.ofNat_eq_natCast, Int.negSucc_eq, IntKind.bits, Int.toNat_natCast, ge_iff_le, gt_iff_lt, ne_eq, wl_len, hl_len, natCast_fold, not_true_eq_false, not_false_eq_true] at * <;> omega)))) | (refine Good.convi ‹_› ?_ ?_; (· (first | omega | (simp only [inR, cmpP, loOk, hiOk, Int.ofNat_eq_natCast, Int.negSucc_eq, IntKind.bits, Int.toNat_natCast, ge_iff_le, gt_iff_lt, ne_eq, wl_len, hl_len, natCast_fold, not_true_eq_false, not_false_eq_true] at * <;> omega))))); cbv) | (refine Good.chk' ‹_› rfl ?_; cbv)))
               refine h.get' i _ hiz hgp ?_
               cbv
               refine fadd_s h (l := 900) (hS.r.le (by omega)) (kp.r.le (by omega)) (by omega) fun n1 n2 n3 n4 kn => ?_
               rw [← hss2] at kn
               clear hS hc4 hc40 km kf hpc
               cbv
               (repeat (first | (refine Good.len' ‹_› ?_; intro _ _; cbv) | ((first | refine Good.add' ‹_› ?_ ?_ | refine Good.sub' ‹_› ?_ ?_ | refine Good.mul' ‹_› ?_ ?_); (· (first | omega | (simp only [inR, cmpP, loOk, hiOk, Int.ofNat_eq_natCast, Int.negSucc_eq, IntKind.bits, Int.toNat_natCast, ge_iff_le, gt_iff_lt, ne_eq, wl_len, hl_len, natCast_fold, not_true_eq_false, not_false_eq_true] at * <;> omega))); intro _ _; cbv) | ((first | (refine Good.yes ‹_› ?_ ?_; (· (first | omega | (simp only [inR, cmpP, loOk, hiOk, Int.ofNat_eq_natCast, Int.negSucc_eq, IntKind.bits, Int.toNat_natCast, ge_iff_le, gt_iff_lt, ne_eq, wl_len, hl_len, natCast_fold, not_true_eq_false, not_false_eq_true] at * <;> omega)))) | (refine Good.no ‹_› rfl ?_ ?_; (· (first | omega | (simp only [inR, cmpP, loOk, hiOk, Int.ofNat_eq_natCast, Int.negSucc_eq, IntKind.bits, Int.toNat_natCast, ge_iff_le, gt_iff_lt, ne_eq, wl_len, hl_len, natCast_fold, not_true_eq_false, not_false_eq_true] at * <;> omega)))) | (refine Good.convi ‹_› ?_ ?_; (· (first | omega | (simp only [inR, cmpP, loOk, hiOk, Int.ofNat_eq_natCast, Int.negSucc_eq, IntKind.bits, Int.toNat_natCast, ge_iff_le, gt_iff_lt, ne_eq, wl_len, hl_len, natCast_fold, not_true_eq_false, not_false_eq_true] at * <;> omega))))); cbv) | (refine Good.chk' ‹_› rfl ?_; cbv)))
               rename_i i1 hi1
               refine hR _ (i1, i + 1, n1, n2, n3, n4) ⟨by simp only; (first | omega | (simp only [inR, cmpP, loOk, hiOk, Int.ofNat_eq_natCast, Int.negSucc_eq, IntKind.bits, Int.toNat_natCast, ge_iff_le, gt_iff_lt, ne_eq, wl_len, hl_len, natCast_fold, not_true_eq_false, not_false_eq_true] at * <;> omega)), by simp only; (first | omega | (simp only [inR, cmpP, loOk, hiOk, Int.ofNat_eq_natCast, Int.negSucc_eq, IntKind.bits, Int.toNat_natCast, ge_iff_le, gt_iff_lt, ne_eq, wl_len, hl_len, natCast_fold, not_true_eq_false, not_false_eq_true] at * <;> omega)), kn, hb2⟩ (by simp only; (first | omega | (simp only [inR, cmpP, loOk, hiOk, Int.ofNat_eq_natCast, Int.negSucc_eq, IntKind.bits, Int.toNat_natCast, ge_iff_le, gt_iff_lt, ne_eq, wl_len, hl_len, natCast_fold, not_true_eq_false, not_false_eq_true] at * <;> omega))) (by (refine Wk.of [(14, some 14), (15, some 15)] rfl ?_ ?_; (· (repeat (first | exact trivial | (refine And.intro ?_ ?_; (· first | exact trivial | exact Or.inl ⟨_, rfl, rfl⟩ | exact ⟨_, rfl, rfl⟩ | exact Or.inr ⟨rfl, rfl, by decide⟩))))); (· (repeat (first | exact trivial | (refine And.intro ?_ ?_; (· first | exact trivial | exact Or.inl rfl | rfl | exact Or.inr ⟨_, _, _, _, rfl, rfl, rfl, renNo rfl⟩ | exact ⟨ne_no rfl, Or.inl ⟨_, rfl, rfl⟩⟩ | exact ⟨ne_no rfl, Or.inr ⟨rfl, _, rfl⟩⟩ | exact ⟨_, rfl, rfl, ne_no rfl⟩)))))))
              )
      · have hi2 : i = us.length := by (first | omega | (simp only [inR, cmpP, loOk, hiOk, Int.ofNat_eq_natCast, Int.negSucc_eq, IntKind.bits, Int.toNat_natCast, ge_iff_le, gt_iff_lt, ne_eq, wl_len, hl_len, natCast_fold, not_true_eq_false, not_false_eq_true] at * <;> omega))
        rw [hi2, ← hpll, List.take_length] at hS hB
        cbv
        refine fequal_s h (l := 900) (hS.r.le (by omega)) (hall.r.le (by omega)) (by omega) fun c hc => ?_
        have hc : c = true := by rw [hc]; exact decide_eq_true rfl
        subst hc
        cbv
        (repeat (first | (refine Good.len' ‹_› ?_; intro _ _; cbv) | ((first | refine Good.add' ‹_› ?_ ?_ | refine Good.sub' ‹_› ?_ ?_ | refine Good.mul' ‹_› ?_ ?_); (· (first | omega | (simp only [inR, cmpP, loOk, hiOk, Int.ofNat_eq_natCast, Int.negSucc_eq, IntKind.bits, Int.toNat_natCast, ge_iff_le, gt_iff_lt, ne_eq, wl_len, hl_len, natCast_fold, not_true_eq_false, not_false_eq_true] at * <;> omega))); intro _ _; cbv) | ((first | (refine Good.yes ‹_› ?_ ?_; (· (first | omega | (simp only [inR, cmpP, loOk, hiOk, Int.ofNat_eq_natCast, Int.negSucc_eq, IntKind.bits, Int.toNat_natCast, ge_iff_le, gt_iff_lt, ne_eq, wl_len, hl_len, natCast_fold, not_true_eq_false, not_false_eq_true] at * <;> omega)))) | (refine Good.no ‹_› rfl ?_ ?_; (· (first | omega | (simp only [inR, cmpP, loOk, hiOk, Int.ofNat_eq_natCast, Int.negSucc_eq, IntKind.bits, Int.toNat_natCast, ge_iff_le, gt_iff_lt, ne_eq, wl_len, hl_len, natCast_fold, not_true_eq_false, not_false_eq_true] at * <;> omega)))) | (refine Good.convi ‹_› ?_ ?_; (· (first | omega | (simp only [inR, cmpP, loOk, hiOk, Int.ofNat_eq_natCast, Int.negSucc_eq, IntKind.bits, Int.toNat_natCast, ge_iff_le, gt_iff_lt, ne_eq, wl_len, hl_len, natCast_fold, not_true_eq_false, not_false_eq_true] at * <;> omega))))); cbv) | (refine Good.chk' ‹_› rfl ?_; cbv)))
        exact hQ
    · obtain ⟨e, hee⟩ : ∃ e, e = fillE us os rs need := ⟨_, rfl⟩
      rw [← hee] at e0 ⊢
      clear hee
      cbv
      (repeat (first | (refine Good.len' ‹_› ?_; intro _ _; cbv) | ((first | refine Good.add' ‹_› ?_ ?_ | refine Good.sub' ‹_› ?_ ?_ | refine Good.mul' ‹_› ?_ ?_); (· (first | omega | (simp only [inR, cmpP, loOk, hiOk, Int.ofNat_eq_natCast, Int.negSucc_eq, IntKind.bits, Int.toNat_natCast, ge_iff_le, gt_iff_lt, ne_eq, wl_len, hl_len, natCast_fold, not_true_eq_false, not_false_eq_true] at * <;> omega))); intro _ _; cbv) | ((first | (refine Good.yes ‹_› ?_ ?_; (· (first | omega | (simp only [inR, cmpP, loOk, hiOk, Int.ofNat_eq_natCast, Int.negSucc_eq, IntKind.bits, Int.toNat_natCast, ge_iff_le, gt_iff_lt, ne_eq, wl_len, hl_len, natCast_fold, not_true_eq_false, not_false_eq_true] at * <;> omega)))) | (refine Good.no ‹_› rfl ?_ ?_; (· (first | omega | (simp only [inR, cmpP, loOk, hiOk, Int.ofNat_eq_natCast, Int.negSucc_eq, IntKind.bits, Int.toNat_natCast, ge_iff_le, gt_iff_lt, ne_eq, wl_len, hl_len, natCast_fold, not_true_eq_false, not_false_eq_true] at * <;> omega)))) | (refine Good.convi ‹_› ?_ ?_; (· (first | omega | (simp only [inR, cmpP, loOk, hiOk, Int.ofNat_eq_natCast, Int.negSucc_eq, IntKind.bits, Int.toNat_natCast, ge_iff_le, gt_iff_lt, ne_eq, wl_len, hl_len, natCast_fold, not_true_eq_false, not_false_eq_true] at * <;> omega))))); cbv) | (refine Good.chk' ‹_› rfl ?_; cbv)))
      exact hQ
end Go.Proofs.YtpmlocilhhjifaaGreat.Eng
