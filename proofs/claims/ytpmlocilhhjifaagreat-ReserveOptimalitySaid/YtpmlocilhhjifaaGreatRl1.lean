/- ReserveMonotone. -/
import Derived.Test.YtpmlocilhhjifaaGreatRl0
set_option maxRecDepth 100000
set_option linter.unusedSimpArgs false
set_option linter.unusedVariables false
set_option pp.maxSteps 200
namespace Go.Proofs.YtpmlocilhhjifaaGreat.Eng
open Go.RowKit Go.Proofs
variable {t t' t'' : Nat} {us : List UD} {os : List Bool} {es bs gs : List (List D)} {zs : List QD}
set_option maxHeartbeats 8000000 in
theorem mono_l {need more : Int} (he : es = us.map UD.cell) (hb : bs = bl os) (hg : gs = zs.map QD.cell) (ho : ∀ u ∈ us, u.Ok0) (hz : ∀ z ∈ zs, z.Raw) (hn : inR .i64 need) (hm : inR .u16 more) :
    TT 8 [.one (.sl t 9 es), .one (.sl t' 1 bs), .one (.sl t'' 4 gs), .one (.sc (.int .i64 need)), .one (.sc (.int .u16 more))] [.one (.sc (.bool true))] := by
  refine con Tryz.func8 rfl (by kernel_rfl) (by kernel_rfl) fun π Q h hQ => ?_
  have hle : es.length = us.length := by rw [he]; simp
  cbv
  refine long30_s h he hg ?_ fun hs => ?_
  · cbv
    skip
    refine h.call' _ awake_c ?_
    cbv
    skip
    exact hQ
  · have hou := small_ok ho hs
    obtain ⟨rs, hrs⟩ := raw_qrs hz hs.w
    have l1 := hs.lu
    have l2 := hs.lb
    have l3 := hs.lz
    have lbl : bs.length = os.length := by rw [hb, bl_len]
    cbv
    skip
    refine h.dec rfl (fun hp1 => ?_) (fun hp1 => ?_)
    · cbv
      skip
      refine h.call' _ awake_c ?_
      cbv
      skip
      exact hQ
    · cbv
      refine h.call' _ awake_c ?_
      cbv
      skip
      have hsame : ∀ n2 : Int, n2 = need + more → 0 ≤ need → fillE us os rs need = fillE us os rs n2 := fun n2 h2 h0 => fillE_need ⟨h0, by (simp only [inR, cmpP, loOk, hiOk, Int.ofNat_eq_natCast, Int.negSucc_eq, IntKind.bits, Int.toNat_natCast, ge_iff_le, gt_iff_lt, ne_eq, wl_len, hl_len, natCast_fold, not_true_eq_false, not_false_eq_true] at * <;> omega)⟩ ⟨by (simp only [inR, cmpP, loOk, hiOk, Int.ofNat_eq_natCast, Int.negSucc_eq, IntKind.bits, Int.toNat_natCast, ge_iff_le, gt_iff_lt, ne_eq, wl_len, hl_len, natCast_fold, not_true_eq_false, not_false_eq_true] at * <;> omega), by (simp only [inR, cmpP, loOk, hiOk, Int.ofNat_eq_natCast, Int.negSucc_eq, IntKind.bits, Int.toNat_natCast, ge_iff_le, gt_iff_lt, ne_eq, wl_len, hl_len, natCast_fold, not_true_eq_false, not_false_eq_true] at * <;> omega)⟩
      refine fill_s h he hb hg hou (by omega) (by omega) (by omega) hrs (by decide) hn (fun e0 b1 z1 b2 z2 tk pr hq htk hpr => ?_) (fun e0 => ?_)
      · obtain ⟨hlo, hlr, h5, hf1, hnb, hn0, hn1⟩ := fillE_len e0
        cbv
        (refine Good.convi ‹_› ?_ ?_; (· (simp only [inR, cmpP, loOk, hiOk, Int.ofNat_eq_natCast, Int.negSucc_eq, IntKind.bits, Int.toNat_natCast, ge_iff_le, gt_iff_lt, ne_eq, wl_len, hl_len, natCast_fold, not_true_eq_false, not_false_eq_true] at * <;> omega)); cbv; refine Good.add' ‹_› ?_ ?_; (· (simp only [inR, cmpP, loOk, hiOk, Int.ofNat_eq_natCast, Int.negSucc_eq, IntKind.bits, Int.toNat_natCast, ge_iff_le, gt_iff_lt, ne_eq, wl_len, hl_len, natCast_fold, not_true_eq_false, not_false_eq_true] at * <;> omega)); intro _ _; cbv)
        rename_i n2 hn2
        have hs2 := hsame n2 hn2 hn0
        refine fill_s h he hb hg hou (by omega) (by omega) (by omega) hrs (by decide) (by (simp only [inR, cmpP, loOk, hiOk, Int.ofNat_eq_natCast, Int.negSucc_eq, IntKind.bits, Int.toNat_natCast, ge_iff_le, gt_iff_lt, ne_eq, wl_len, hl_len, natCast_fold, not_true_eq_false, not_false_eq_true] at * <;> omega)) (fun e1 c1 y1 c2 y2 tk2 pr2 hq2 htk2 hpr2 => ?_) (fun e1 => absurd (hs2 ▸ e0) e1)
        have hm : (fillR us os rs need).short ≤ (fillR us os rs n2).short ∧ (∀ i, gR (fillR us os rs need).taken i ≤ gR (fillR us os rs n2).taken i) ∧ (fillR us os rs need).price ≤ (fillR us os rs n2).price :=
          mono_all (ordF_ord us) (rho_ge hlo hlr hnb) (spn_ge hf1) hn0 (show need ≤ n2 by (simp only [inR, cmpP, loOk, hiOk, Int.ofNat_eq_natCast, Int.negSucc_eq, IntKind.bits, Int.toNat_natCast, ge_iff_le, gt_iff_lt, ne_eq, wl_len, hl_len, natCast_fold, not_true_eq_false, not_false_eq_true] at * <;> omega))
        obtain ⟨invB, hrho, _⟩ := fill_inv e1
        obtain ⟨qa1, qa2⟩ := fillR_ql hrs (by decide) hn e0
        obtain ⟨qb1, qb2⟩ := fillR_ql hrs (by decide) (show inR .i64 n2 by (simp only [inR, cmpP, loOk, hiOk, Int.ofNat_eq_natCast, Int.negSucc_eq, IntKind.bits, Int.toNat_natCast, ge_iff_le, gt_iff_lt, ne_eq, wl_len, hl_len, natCast_fold, not_true_eq_false, not_false_eq_true] at * <;> omega)) e1
        have lenA : (fillR us os rs need).taken.length = us.length := fillF_len _ _ _ _
        have lenB : (fillR us os rs n2).taken.length = us.length := fillF_len _ _ _ _
        obtain ⟨A, hA⟩ : ∃ A, A = fillR us os rs need := ⟨_, rfl⟩
        obtain ⟨B, hB⟩ : ∃ B, B = fillR us os rs n2 := ⟨_, rfl⟩
        rw [← hA] at hq htk hpr hm qa1 qa2 lenA
        rw [← hB] at hq2 htk2 hpr2 hm qb1 qb2 lenB invB
        obtain ⟨hm1, hm2, hm3⟩ := hm
        have ltk : tk.length = us.length := by rw [htk, qcl_len, lenA]
        have ltk2 : tk2.length = us.length := by rw [htk2, qcl_len, lenB]
        cbv
        (refine Good.no ‹_› rfl ?_ ?_; (· (simp only [inR, cmpP, loOk, hiOk, Int.ofNat_eq_natCast, Int.negSucc_eq, IntKind.bits, Int.toNat_natCast, ge_iff_le, gt_iff_lt, ne_eq, wl_len, hl_len, natCast_fold, not_true_eq_false, not_false_eq_true] at * <;> omega)); cbv; refine Good.no ‹_› rfl ?_ ?_; (· (simp only [inR, cmpP, loOk, hiOk, Int.ofNat_eq_natCast, Int.negSucc_eq, IntKind.bits, Int.toNat_natCast, ge_iff_le, gt_iff_lt, ne_eq, wl_len, hl_len, natCast_fold, not_true_eq_false, not_false_eq_true] at * <;> omega)); cbv; refine Good.len' ‹_› ?_; intro _ _; cbv; refine Good.len' ‹_› ?_; intro _ _; cbv; refine Good.no ‹_› rfl ?_ ?_; (· (simp only [inR, cmpP, loOk, hiOk, Int.ofNat_eq_natCast, Int.negSucc_eq, IntKind.bits, Int.toNat_natCast, ge_iff_le, gt_iff_lt, ne_eq, wl_len, hl_len, natCast_fold, not_true_eq_false, not_false_eq_true] at * <;> omega)); cbv; refine Good.len' ‹_› ?_; intro _ _; cbv; refine Good.len' ‹_› ?_; intro _ _; cbv; refine Good.no ‹_› rfl ?_ ?_; (· (simp only [inR, cmpP, loOk, hiOk, Int.ofNat_eq_natCast, Int.negSucc_eq, IntKind.bits, Int.toNat_natCast, ge_iff_le, gt_iff_lt, ne_eq, wl_len, hl_len, natCast_fold, not_true_eq_false, not_false_eq_true] at * <;> omega)); cbv; refine Good.no ‹_› rfl ?_ ?_; (· (simp only [inR, cmpP, loOk, hiOk, Int.ofNat_eq_natCast, Int.negSucc_eq, IntKind.bits, Int.toNat_natCast, ge_iff_le, gt_iff_lt, ne_eq, wl_len, hl_len, natCast_fold, not_true_eq_false, not_false_eq_true] at * <;> omega)); cbv)
        refine fcmp_s h (l := 900) (hq.r.le (by omega)) (hq2.r.le (by omega)) (by omega) fun c hc => ?_
        have hc0 : c ≤ 0 := by rw [hc]; exact sgnQ_le'.2 (by grind)
        cbv
        (refine Good.no ‹_› rfl ?_ ?_; (· (simp only [inR, cmpP, loOk, hiOk, Int.ofNat_eq_natCast, Int.negSucc_eq, IntKind.bits, Int.toNat_natCast, ge_iff_le, gt_iff_lt, ne_eq, wl_len, hl_len, natCast_fold, not_true_eq_false, not_false_eq_true] at * <;> omega)); cbv)
        refine h.loop' (Int × Nat) (fun p => p.1 = (p.2 : Int) ∧ p.2 ≤ us.length) (fun p => ⟨[(0, .v (.one (.sl t 9 es))), (1, .v (.one (.sl t' 1 bs))), (2, .v (.one (.sl t'' 4 gs))), (11, .v (.one (.sl 1 4 tk))), (15, .v (.one (.sl 1 4 tk2))), (19, vi .i64 p.1)], []⟩) (fun p => us.length - p.2) (0, 0) ⟨rfl, Nat.zero_le _⟩ (by (refine Wk.of [] rfl ?_ ?_; (· (repeat (first | exact trivial | (refine And.intro ?_ ?_; (· first | exact trivial | exact Or.inl ⟨_, rfl, rfl⟩ | exact ⟨_, rfl, rfl⟩ | exact Or.inr ⟨rfl, rfl, by decide⟩))))); (· (repeat (first | exact trivial | (refine And.intro ?_ ?_; (· first | exact trivial | exact Or.inl rfl | rfl | exact Or.inr ⟨_, _, _, _, rfl, rfl, rfl, renNo rfl⟩ | exact ⟨ne_no rfl, Or.inl ⟨_, rfl, rfl⟩⟩ | exact ⟨ne_no rfl, Or.inr ⟨rfl, _, rfl⟩⟩ | exact ⟨_, rfl, rfl, ne_no rfl⟩))))))) ?_
        rintro ⟨iz, i⟩ R ⟨hiz, hi⟩ hR
        simp only at hiz hi
        cbv
        (refine Good.len' ‹_› ?_; intro _ _; cbv)
        refine h.dec rfl (fun hp2 => ?_) (fun hp2 => ?_)
        · have hil : i < us.length := by (simp only [inR, cmpP, loOk, hiOk, Int.ofNat_eq_natCast, Int.negSucc_eq, IntKind.bits, Int.toNat_natCast, ge_iff_le, gt_iff_lt, ne_eq, wl_len, hl_len, natCast_fold, not_true_eq_false, not_false_eq_true] at * <;> omega)
          obtain ⟨u, o, r, g1, g2, g3, g4⟩ := rooms_get (rmsF_rooms hlo hlr) hil
          obtain ⟨zq, r', g5, g6, g7⟩ := hrs.get (show i < rs.length by omega)
          rw [g3] at g6
          cases g6
          have hge := ud_get g1
          rw [← he] at hge
          obtain ⟨ss, hss⟩ : ∃ ss, ss = stl u.steps := ⟨_, rfl⟩
          rw [← hss] at hge
          have hbg := bl_get g2
          rw [← hb] at hbg
          have hgg := qd_get g5
          rw [← hg] at hgg
          have hu := hou u (List.mem_of_getElem? g1)
          obtain ⟨zs1, zt, zx, zs2, zt', zy⟩ := zq
          simp only at hgg g7
          have hroom := room_eq hlo hlr hnb g1 g2 g3
          have hqr := g7.ql
          have hrl := rmR_ql (u := u) (o := o) (r := r) (L := 6) (by omega)
          have ga := get_gR (l := A.taken) (i := i) (by omega)
          have gb := get_gR (l := B.taken) (i := i) (by omega)
          obtain ⟨a1, a2, a3, a4, ka, ea⟩ := qcell_ex (gR A.taken i)
          obtain ⟨b5, b6, b7, b8, kb, eb⟩ := qcell_ex (gR B.taken i)
          have hga := qcl_get ga
          rw [← htk, ea] at hga
          have hgb := qcl_get gb
          rw [← htk2, eb] at hgb
          have la := qa2 _ (List.mem_of_getElem? ga)
          have lb := qb2 _ (List.mem_of_getElem? gb)
          have hab := hm2 i
          have hlo' := invB.lo i hil
          have hhi' := invB.hi i ((ordF_ord us).mem i hil)
          rw [← hroom] at hhi'
          obtain ⟨ρ, hρ⟩ : ∃ ρ, ρ = rmR u o r := ⟨_, rfl⟩
          rw [← hρ] at hhi' hrl
          obtain ⟨ta, hta⟩ : ∃ ta, ta = gR A.taken i := ⟨_, rfl⟩
          obtain ⟨tb, htb⟩ : ∃ tb, tb = gR B.taken i := ⟨_, rfl⟩
          rw [← hta] at ka la hab
          rw [← htb] at kb lb hab hlo' hhi'
          cbv
          refine h.get' i _ hiz hga ?_
          cbv
          refine h.get' i _ hiz hgb ?_
          cbv
          refine fcmp_s h (l := 900) (ka.r.le (by omega)) (kb.r.le (by omega)) (by omega) fun c1 hc1 => ?_
          have hc10 : c1 ≤ 0 := by rw [hc1]; exact sgnQ_le'.2 (by grind)
          cbv
          (refine Good.no ‹_› rfl ?_ ?_; (· (simp only [inR, cmpP, loOk, hiOk, Int.ofNat_eq_natCast, Int.negSucc_eq, IntKind.bits, Int.toNat_natCast, ge_iff_le, gt_iff_lt, ne_eq, wl_len, hl_len, natCast_fold, not_true_eq_false, not_false_eq_true] at * <;> omega)); cbv)
          refine h.get' i _ hiz hge ?_
          cbv
          refine h.get' i _ hiz hbg ?_
          cbv
          refine h.get' i _ hiz hgg ?_
          cbv
          refine lroom_s h hu hss g7 (by decide) fun d1 d2 d3 d4 kd => ?_
          rw [← hρ] at kd
          cbv
          refine fsign_s h (l := 900) (kd.r.le (by omega)) (by omega) fun c2 hc2 => ?_
          cbv
          refine h.dec rfl (fun hp3 => ?_) (fun hp3 => ?_)
          · have hr0 : ρ = 0 := sgnQ_zero'.1 (by (simp only [inR, cmpP, loOk, hiOk, Int.ofNat_eq_natCast, Int.negSucc_eq, IntKind.bits, Int.toNat_natCast, ge_iff_le, gt_iff_lt, ne_eq, wl_len, hl_len, natCast_fold, not_true_eq_false, not_false_eq_true] at * <;> omega))
            have htb0 : tb = 0 := by rw [hr0] at hhi'; grind
            cbv
            refine h.get' i _ hiz hgb ?_
            cbv
            refine fsign_s h (l := 900) (kb.r.le (by omega)) (by omega) fun c3 hc3 => ?_
            have hc30 : c3 = 0 := by rw [hc3]; exact sgnQ_zero'.2 htb0
            cbv
            (refine Good.no ‹_› rfl ?_ ?_; (· (simp only [inR, cmpP, loOk, hiOk, Int.ofNat_eq_natCast, Int.negSucc_eq, IntKind.bits, Int.toNat_natCast, ge_iff_le, gt_iff_lt, ne_eq, wl_len, hl_len, natCast_fold, not_true_eq_false, not_false_eq_true] at * <;> omega)); cbv; refine Good.chk' ‹_› rfl ?_; cbv; refine Good.add' ‹_› ?_ ?_; (· (simp only [inR, cmpP, loOk, hiOk, Int.ofNat_eq_natCast, Int.negSucc_eq, IntKind.bits, Int.toNat_natCast, ge_iff_le, gt_iff_lt, ne_eq, wl_len, hl_len, natCast_fold, not_true_eq_false, not_false_eq_true] at * <;> omega)); intro _ _; cbv)
            rename_i i1 hi1
            refine hR _ (i1, i + 1) ⟨by simp only; (simp only [inR, cmpP, loOk, hiOk, Int.ofNat_eq_natCast, Int.negSucc_eq, IntKind.bits, Int.toNat_natCast, ge_iff_le, gt_iff_lt, ne_eq, wl_len, hl_len, natCast_fold, not_true_eq_false, not_false_eq_true] at * <;> omega), by simp only; omega⟩ (by simp only; omega) (by (refine Wk.of [] rfl ?_ ?_; (· (repeat (first | exact trivial | (refine And.intro ?_ ?_; (· first | exact trivial | exact Or.inl ⟨_, rfl, rfl⟩ | exact ⟨_, rfl, rfl⟩ | exact Or.inr ⟨rfl, rfl, by decide⟩))))); (· (repeat (first | exact trivial | (refine And.intro ?_ ?_; (· first | exact trivial | exact Or.inl rfl | rfl | exact Or.inr ⟨_, _, _, _, rfl, rfl, rfl, renNo rfl⟩ | exact ⟨ne_no rfl, Or.inl ⟨_, rfl, rfl⟩⟩ | exact ⟨ne_no rfl, Or.inr ⟨rfl, _, rfl⟩⟩ | exact ⟨_, rfl, rfl, ne_no rfl⟩)))))))
          · cbv
            (refine Good.chk' ‹_› rfl ?_; cbv; refine Good.add' ‹_› ?_ ?_; (· (simp only [inR, cmpP, loOk, hiOk, Int.ofNat_eq_natCast, Int.negSucc_eq, IntKind.bits, Int.toNat_natCast, ge_iff_le, gt_iff_lt, ne_eq, wl_len, hl_len, natCast_fold, not_true_eq_false, not_false_eq_true] at * <;> omega)); intro _ _; cbv)
            rename_i i1 hi1
            refine hR _ (i1, i + 1) ⟨by simp only; (simp only [inR, cmpP, loOk, hiOk, Int.ofNat_eq_natCast, Int.negSucc_eq, IntKind.bits, Int.toNat_natCast, ge_iff_le, gt_iff_lt, ne_eq, wl_len, hl_len, natCast_fold, not_true_eq_false, not_false_eq_true] at * <;> omega), by simp only; omega⟩ (by simp only; omega) (by (refine Wk.of [] rfl ?_ ?_; (· (repeat (first | exact trivial | (refine And.intro ?_ ?_; (· first | exact trivial | exact Or.inl ⟨_, rfl, rfl⟩ | exact ⟨_, rfl, rfl⟩ | exact Or.inr ⟨rfl, rfl, by decide⟩))))); (· (repeat (first | exact trivial | (refine And.intro ?_ ?_; (· first | exact trivial | exact Or.inl rfl | rfl | exact Or.inr ⟨_, _, _, _, rfl, rfl, rfl, renNo rfl⟩ | exact ⟨ne_no rfl, Or.inl ⟨_, rfl, rfl⟩⟩ | exact ⟨ne_no rfl, Or.inr ⟨rfl, _, rfl⟩⟩ | exact ⟨_, rfl, rfl, ne_no rfl⟩)))))))
        · cbv
          skip
          exact hQ
      · obtain ⟨e, hee⟩ : ∃ e, e = fillE us os rs need := ⟨_, rfl⟩
        rw [← hee] at e0 hsame ⊢
        cbv
        (refine Good.convi ‹_› ?_ ?_; (· (simp only [inR, cmpP, loOk, hiOk, Int.ofNat_eq_natCast, Int.negSucc_eq, IntKind.bits, Int.toNat_natCast, ge_iff_le, gt_iff_lt, ne_eq, wl_len, hl_len, natCast_fold, not_true_eq_false, not_false_eq_true] at * <;> omega)); cbv; refine Good.add' ‹_› ?_ ?_; (· (simp only [inR, cmpP, loOk, hiOk, Int.ofNat_eq_natCast, Int.negSucc_eq, IntKind.bits, Int.toNat_natCast, ge_iff_le, gt_iff_lt, ne_eq, wl_len, hl_len, natCast_fold, not_true_eq_false, not_false_eq_true] at * <;> omega)); intro _ _; cbv)
        rename_i n2 hn2
        have hs2 := hsame n2 hn2
        refine fill_s h he hb hg hou (by omega) (by omega) (by omega) hrs (by decide) (by (simp only [inR, cmpP, loOk, hiOk, Int.ofNat_eq_natCast, Int.negSucc_eq, IntKind.bits, Int.toNat_natCast, ge_iff_le, gt_iff_lt, ne_eq, wl_len, hl_len, natCast_fold, not_true_eq_false, not_false_eq_true] at * <;> omega)) (fun e1 c1 y1 c2 y2 tk2 pr2 hq2 htk2 hpr2 => ?_) (fun e1 => ?_)
        · have hneg : need < 0 := by
            rcases Int.lt_or_le need 0 with h0 | h0
            · exact h0
            · have := hs2 h0; omega
          cbv
          (refine Good.yes ‹_› ?_ ?_; (· (simp only [inR, cmpP, loOk, hiOk, Int.ofNat_eq_natCast, Int.negSucc_eq, IntKind.bits, Int.toNat_natCast, ge_iff_le, gt_iff_lt, ne_eq, wl_len, hl_len, natCast_fold, not_true_eq_false, not_false_eq_true] at * <;> omega)); cbv; refine Good.no ‹_› rfl ?_ ?_; (· (simp only [inR, cmpP, loOk, hiOk, Int.ofNat_eq_natCast, Int.negSucc_eq, IntKind.bits, Int.toNat_natCast, ge_iff_le, gt_iff_lt, ne_eq, wl_len, hl_len, natCast_fold, not_true_eq_false, not_false_eq_true] at * <;> omega)); cbv; refine Good.yes ‹_› ?_ ?_; (· (simp only [inR, cmpP, loOk, hiOk, Int.ofNat_eq_natCast, Int.negSucc_eq, IntKind.bits, Int.toNat_natCast, ge_iff_le, gt_iff_lt, ne_eq, wl_len, hl_len, natCast_fold, not_true_eq_false, not_false_eq_true] at * <;> omega)); cbv)
          exact hQ
        · obtain ⟨e', hee'⟩ : ∃ e', e' = fillE us os rs n2 := ⟨_, rfl⟩
          rw [← hee'] at e1 hs2 ⊢
          cbv
          (refine Good.yes ‹_› ?_ ?_; (· (simp only [inR, cmpP, loOk, hiOk, Int.ofNat_eq_natCast, Int.negSucc_eq, IntKind.bits, Int.toNat_natCast, ge_iff_le, gt_iff_lt, ne_eq, wl_len, hl_len, natCast_fold, not_true_eq_false, not_false_eq_true] at * <;> omega)); cbv)
          refine h.dec rfl (fun hp3 => ?_) (fun hp3 => ?_)
          · cbv
            skip
            exact hQ
          · have hneg : need < 0 := by
              rcases Int.lt_or_le need 0 with h0 | h0
              · exact h0
              · have := hs2 h0; (simp only [inR, cmpP, loOk, hiOk, Int.ofNat_eq_natCast, Int.negSucc_eq, IntKind.bits, Int.toNat_natCast, ge_iff_le, gt_iff_lt, ne_eq, wl_len, hl_len, natCast_fold, not_true_eq_false, not_false_eq_true] at * <;> omega)
            cbv
            (refine Good.yes ‹_› ?_ ?_; (· (simp only [inR, cmpP, loOk, hiOk, Int.ofNat_eq_natCast, Int.negSucc_eq, IntKind.bits, Int.toNat_natCast, ge_iff_le, gt_iff_lt, ne_eq, wl_len, hl_len, natCast_fold, not_true_eq_false, not_false_eq_true] at * <;> omega)); cbv)
            exact hQ
end Go.Proofs.YtpmlocilhhjifaaGreat.Eng
