/- reserve.Fill. -/
import Derived.Test.YtpmlocilhhjifaaGreatRsv3
section
set_option maxRecDepth 100000
set_option linter.unusedSimpArgs false
set_option linter.unusedVariables false
set_option pp.maxSteps 200
namespace Go.Proofs.YtpmlocilhhjifaaGreat.Eng
open Go.RowKit Go.Proofs
def spn (us : List UD) (i : Nat) : Int := (us[i]?.map (·.spin)).getD 0
theorem spn_get {us : List UD} {i : Nat} {u : UD} (h : us[i]? = some u) : spn us i = u.spin := by simp [spn, h]
def lexlt (sp : Nat → Int) (i j : Nat) : Prop := sp i < sp j ∨ (sp i = sp j ∧ i < j)
/-- The units' order: by Spin, then by index. -/
structure Ord (us : List UD) (ord : List Nat) : Prop where
  len : ord.length = us.length
  lt : ∀ i ∈ ord, i < us.length
  mem : ∀ i, i < us.length → i ∈ ord
  srt : ord.Pairwise (lexlt (spn us))
structure FS where
  short : Rat
  taken : List Rat
  price : Int
def mn (p q : Rat) : Rat := if sgnQ (p - q) ≤ 0 then p else q
def fstep (us : List UD) (rms : List Rat) (s : FS) (i : Nat) : FS :=
  ⟨s.short - mn s.short (rms[i]?.getD 0), s.taken.set i (mn s.short (rms[i]?.getD 0)), if 0 < mn s.short (rms[i]?.getD 0) then spn us i else s.price⟩
def fill0 (us : List UD) (need : Int) : FS := ⟨(need : Rat), List.replicate us.length 0, 0⟩
def fillF (us : List UD) (rms : List Rat) (ord : List Nat) (need : Int) : FS := ord.foldl (fstep us rms) (fill0 us need)
theorem fill_take {us : List UD} {rms : List Rat} {ord : List Nat} {need : Int} {k i : Nat} (h : ord[k]? = some i) : fillF us rms (ord.take (k + 1)) need = fstep us rms (fillF us rms (ord.take k) need) i := by
  unfold fillF
  rw [List.take_add_one, h]
  simp
theorem fstep_len (us : List UD) (rms : List Rat) (s : FS) (i : Nat) : (fstep us rms s i).taken.length = s.taken.length := by simp [fstep]
theorem fillF_len (us : List UD) (rms : List Rat) (ord : List Nat) (need : Int) : (fillF us rms ord need).taken.length = us.length := by
  unfold fillF
  have : ∀ (l : List Nat) (s : FS), (l.foldl (fstep us rms) s).taken.length = s.taken.length := by
    intro l
    induction l with
    | nil => intro s; rfl
    | cons i l ih => intro s; rw [List.foldl_cons, ih, fstep_len]
  rw [this]
  simp [fill0]
theorem ql_zero : ql 0 ≤ 1 := by
  have := ql_int 0
  have h4 : (dg BW (0 : Int).natAbs).length ≤ 1 := len1 (by decide) (by decide)
  have e : ((0 : Int) : Rat) = 0 := rfl
  rw [e] at this
  omega
theorem mn_ql {p q : Rat} {A B : Nat} (hp : ql p ≤ A) (hq : ql q ≤ B) : ql (mn p q) ≤ max A B := by
  unfold mn
  split <;> omega
theorem sub_mn_ql {p q : Rat} {A B : Nat} (hp : ql p ≤ A) (hq : ql q ≤ B) : ql (p - mn p q) ≤ A + B + 1 := by
  unfold mn
  split
  · have e : p - p = 0 := by grind
    rw [e]
    have := ql_zero
    omega
  · have := ql_sub p q
    omega
theorem hl_set' {l : List Nat} : (hl l).length = l.length := hl_len l
variable {t t' t'' : Nat} {us : List UD} {os : List Bool} {rs rms : List Rat} {es bs gs : List (List D)} {zs : List QD} {L : Nat} {ord : List Nat}
set_option maxHeartbeats 8000000 in
theorem fill_b {need e : Int} {os2 : List (List D)} (he : es = us.map UD.cell) (hb' : bs = bl os) (hg' : gs = zs.map QD.cell) (ho : ∀ u ∈ us, u.Ok) (hl1 : us.length ≤ 1000) (hl' : os.length ≤ 1000) (hl2 : zs.length ≤ 1000) (hz : Qrs zs rs L) (hL : L ≤ 100) (hn : inR .i64 need) (hE : e = fillE us os rs need)
    (hord : Ord us ord) (hos2 : os2 = hl ord) (hrow : us.length ≤ 5 → TT 38 [.one (.sl t 9 es)] [.one (.sl 1 1 os2)])
    {π : Pi} (h : Good TT π) {Q : List DV → Prop} (hQ1 : e = 0 → ∀ b z b' z' tk pr, Qc b z b' z' (fillF us (rmsF us os rs) ord need).short → tk = qcl (fillF us (rmsF us os rs) ord need).taken → pr = (fillF us (rmsF us os rs) ord need).price → Q [.one (.sl 1 4 tk), .one (.sc (.int .i64 pr)), qa b 1 z b' 1 z', .one (.sc (.int .i64 0))])
    (hQ2 : e ≠ 0 → Q [.one (.sl 3 4 []), .one (.sc (.int .i64 0)), qa false 1 [] false 1 [], .one (.sc (.int .i64 e))]) : abody π ty Tryz.f12 [.one (.sl t 9 es), .one (.sl t' 1 bs), .one (.sl t'' 4 gs), .one (.sc (.int .i64 need))] Q := by
  have hle : es.length = us.length := by rw [he]; simp
  have hlb : bs.length = os.length := by rw [hb', bl_len]
  have hlg : gs.length = rs.length := by rw [hg', List.length_map, hz.1]
  have hlo : os2.length = us.length := by rw [hos2, hl_len, hord.len]
  cbv
  refine h.call' _ (encheck_c he ho (by omega) (by omega) rfl) ?_
  obtain ⟨e0, he0⟩ : ∃ e0, e0 = enE us bs.length := ⟨_, rfl⟩
  rw [← he0]
  rw [hlb] at he0
  unfold fillE at hE
  rw [← he0] at hE
  cbv
  refine h.dec rfl (fun hp1 => ?_) (fun hp1 => ?_)
  · rw [if_neg (show ¬ e0 = 0 by (simp only [inR, cmpP, loOk, hiOk, Int.ofNat_eq_natCast, Int.negSucc_eq, IntKind.bits, Int.toNat_natCast, ge_iff_le, gt_iff_lt, ne_eq, wl_len, hl_len, natCast_fold, not_true_eq_false, not_false_eq_true] at * <;> omega))] at hE
    subst hE
    cbv
    skip
    exact hQ2 (by (simp only [inR, cmpP, loOk, hiOk, Int.ofNat_eq_natCast, Int.negSucc_eq, IntKind.bits, Int.toNat_natCast, ge_iff_le, gt_iff_lt, ne_eq, wl_len, hl_len, natCast_fold, not_true_eq_false, not_false_eq_true] at * <;> omega))
  · rw [if_pos (show e0 = 0 by (simp only [inR, cmpP, loOk, hiOk, Int.ofNat_eq_natCast, Int.negSucc_eq, IntKind.bits, Int.toNat_natCast, ge_iff_le, gt_iff_lt, ne_eq, wl_len, hl_len, natCast_fold, not_true_eq_false, not_false_eq_true] at * <;> omega))] at hE
    obtain ⟨hos, h5, _⟩ := enE_len (show enE us os.length = 0 by rw [← he0]; (simp only [inR, cmpP, loOk, hiOk, Int.ofNat_eq_natCast, Int.negSucc_eq, IntKind.bits, Int.toNat_natCast, ge_iff_le, gt_iff_lt, ne_eq, wl_len, hl_len, natCast_fold, not_true_eq_false, not_false_eq_true] at * <;> omega))
    cbv
    (refine Good.len' ‹_› ?_; intro _ _; cbv; refine Good.len' ‹_› ?_; intro _ _; cbv)
    refine h.dec rfl (fun hp2 => ?_) (fun hp2 => ?_)
    · rw [if_neg (by (simp only [inR, cmpP, loOk, hiOk, Int.ofNat_eq_natCast, Int.negSucc_eq, IntKind.bits, Int.toNat_natCast, ge_iff_le, gt_iff_lt, ne_eq, wl_len, hl_len, natCast_fold, not_true_eq_false, not_false_eq_true] at * <;> omega))] at hE
      subst hE
      cbv
      skip
      exact hQ2 (by decide)
    · have hrl : rs.length = us.length := by (simp only [inR, cmpP, loOk, hiOk, Int.ofNat_eq_natCast, Int.negSucc_eq, IntKind.bits, Int.toNat_natCast, ge_iff_le, gt_iff_lt, ne_eq, wl_len, hl_len, natCast_fold, not_true_eq_false, not_false_eq_true] at * <;> omega)
      rw [if_pos hrl] at hE
      have hr := rmsF_rooms (us := us) (os := os) (rs := rs) hos hrl
      have hbi := badB_iff (rs := rs) (rms := rmsF us os rs)
      obtain ⟨rms, hrms⟩ : ∃ rms, rms = rmsF us os rs := ⟨_, rfl⟩
      rw [← hrms] at hr hbi hE hQ1
      cbv
      refine rooms_s he hb' hg' ho hl1 hz hL hr h (fun hnb ms hms => ?_) (fun hb => ?_)
      · cbv
        skip
        refine h.dec rfl (fun hp3 => ?_) (fun hp3 => ?_)
        · rw [if_pos (.inr (.inl (by (simp only [inR, cmpP, loOk, hiOk, Int.ofNat_eq_natCast, Int.negSucc_eq, IntKind.bits, Int.toNat_natCast, ge_iff_le, gt_iff_lt, ne_eq, wl_len, hl_len, natCast_fold, not_true_eq_false, not_false_eq_true] at * <;> omega))))] at hE
          subst hE
          cbv
          skip
          exact hQ2 (by decide)
        · cbv
          refine h.dec rfl (fun hp4 => ?_) (fun hp4 => ?_)
          · rw [if_pos (.inr (.inr (by (simp only [inR, cmpP, loOk, hiOk, Int.ofNat_eq_natCast, Int.negSucc_eq, IntKind.bits, Int.toNat_natCast, ge_iff_le, gt_iff_lt, ne_eq, wl_len, hl_len, natCast_fold, not_true_eq_false, not_false_eq_true] at * <;> omega))))] at hE
            subst hE
            cbv
            skip
            exact hQ2 (by decide)
          · rw [if_neg (fun hh => by
                rcases hh with hh | hh | hh
                · exact hnb (hbi.1 hh)
                · (simp only [inR, cmpP, loOk, hiOk, Int.ofNat_eq_natCast, Int.negSucc_eq, IntKind.bits, Int.toNat_natCast, ge_iff_le, gt_iff_lt, ne_eq, wl_len, hl_len, natCast_fold, not_true_eq_false, not_false_eq_true] at * <;> omega)
                · (simp only [inR, cmpP, loOk, hiOk, Int.ofNat_eq_natCast, Int.negSucc_eq, IntKind.bits, Int.toNat_natCast, ge_iff_le, gt_iff_lt, ne_eq, wl_len, hl_len, natCast_fold, not_true_eq_false, not_false_eq_true] at * <;> omega))] at hE
            have hQ := hQ1 hE
            have hml : ms.length = us.length := by rw [hms, qcl_len, hr.lrm]
            cbv
            (refine Good.len' ‹_› ?_; intro _ _; cbv)
            refine h.mks' us.length (by (simp only [inR, cmpP, loOk, hiOk, Int.ofNat_eq_natCast, Int.negSucc_eq, IntKind.bits, Int.toNat_natCast, ge_iff_le, gt_iff_lt, ne_eq, wl_len, hl_len, natCast_fold, not_true_eq_false, not_false_eq_true] at * <;> omega)) (by (simp only [inR, cmpP, loOk, hiOk, Int.ofNat_eq_natCast, Int.negSucc_eq, IntKind.bits, Int.toNat_natCast, ge_iff_le, gt_iff_lt, ne_eq, wl_len, hl_len, natCast_fold, not_true_eq_false, not_false_eq_true] at * <;> omega)) (by omega) (by simp [maxLen]; omega) (by simp) fun a0 ha0 => ?_
            rw [qcl_rep] at ha0
            cbv
            refine ffromInt_s h hn fun b1 z1 hq1 => ?_
            cbv
            skip
            refine h.call' _ (hrow h5) ?_
            cbv
            (refine Good.len' ‹_› ?_; intro _ _; cbv)
            rename_i nl hnl
            have hql : ∀ (i : Nat) r, rms[i]? = some r → ql r ≤ 103 := fun i r hi => by
              have hil := (List.getElem?_eq_some_iff.1 hi).1
              have e3 := hr.lrm
              obtain ⟨u, o, r', g1, g2, g3, g4⟩ := rooms_get hr (show i < us.length by omega)
              obtain ⟨z, r2, g5, g6, g7⟩ := hz.get (show i < rs.length by omega)
              rw [g3] at g6
              cases g6
              rw [hi] at g4
              cases g4
              have := g7.ql
              have := rmQ_ql (u := u) (o := o) (r := r') (L := max L 1) (by omega)
              omega
            refine h.loop' (Int × Nat × Bool × List (List D) × Bool × List (List D) × List (List D) × Int) (fun p => p.1 = (p.2.1 : Int) ∧ p.2.1 ≤ us.length ∧ Qc p.2.2.1 p.2.2.2.1 p.2.2.2.2.1 p.2.2.2.2.2.1 (fillF us rms (ord.take p.2.1) need).short ∧ p.2.2.2.2.2.2.1 = qcl (fillF us rms (ord.take p.2.1) need).taken ∧ p.2.2.2.2.2.2.2 = (fillF us rms (ord.take p.2.1) need).price ∧ ql (fillF us rms (ord.take p.2.1) need).short ≤ 2 + 104 * p.2.1)
              (fun p => ⟨[(0, .v (.one (.sl t 9 es))), (8, .ow 50), (9, vi .i64 p.2.2.2.2.2.2.2), (10, .p 10 0 0 0), (13, .v (.one (.sl 1 4 ms))), (54, .v (.one (.sl 1 1 os2))), (55, vi .i64 nl), (56, vi .i64 p.1)], [(10, .bx [.sc (.bool p.2.2.1), .sl 1 1 p.2.2.2.1, .sc (.bool p.2.2.2.2.1), .sl 1 1 p.2.2.2.2.2.1]), (50, .ar 31 4 p.2.2.2.2.2.2.1)]⟩) (fun p => us.length - p.2.1) (0, 0, b1, z1, false, [], a0, 0) ⟨rfl, Nat.zero_le _, hq1, by rw [ha0]; rfl, rfl, ?_⟩ (by (refine Wk.of [(10, some 10), (50, some 50)] rfl ?_ ?_; (· (repeat (first | exact trivial | (refine And.intro ?_ ?_; (· first | exact trivial | exact Or.inl ⟨_, rfl, rfl⟩ | exact ⟨_, rfl, rfl⟩ | exact Or.inr ⟨rfl, rfl, by decide⟩))))); (· (repeat (first | exact trivial | (refine And.intro ?_ ?_; (· first | exact trivial | exact Or.inl rfl | rfl | exact Or.inr ⟨_, _, _, _, rfl, rfl, rfl, renNo rfl⟩ | exact ⟨ne_no rfl, Or.inl ⟨_, rfl, rfl⟩⟩ | exact ⟨ne_no rfl, Or.inr ⟨rfl, _, rfl⟩⟩ | exact ⟨_, rfl, rfl, ne_no rfl⟩))))))) ?_
            · have e1 := ql_int need
              have e2 := len2' hn
              show ql ((need : Int) : Rat) ≤ _
              omega
            rintro ⟨iz, k, b, z, b', z', arr, pr⟩ R ⟨hiz, hk, hS, hA, hP, hB⟩ hR
            simp only at hiz hk hS hA hP hB
            have hal : arr.length = us.length := by rw [hA, qcl_len, fillF_len]
            cbv
            refine h.dec rfl (fun hp5 => ?_) (fun hp5 => ?_)
            · obtain ⟨i, hgi⟩ : ∃ i, ord[k]? = some i := ⟨ord[k]'(by rw [hord.len]; (simp only [inR, cmpP, loOk, hiOk, Int.ofNat_eq_natCast, Int.negSucc_eq, IntKind.bits, Int.toNat_natCast, ge_iff_le, gt_iff_lt, ne_eq, wl_len, hl_len, natCast_fold, not_true_eq_false, not_false_eq_true] at * <;> omega)), List.getElem?_eq_getElem _⟩
              have hil := hord.lt i (List.mem_of_getElem? hgi)
              have hgo := hl_get hgi
              rw [← hos2] at hgo
              have hft := fill_take (us := us) (rms := rms) (need := need) hgi
              obtain ⟨u, hgu⟩ : ∃ u, us[i]? = some u := ⟨us[i], List.getElem?_eq_getElem _⟩
              have hge := ud_get hgu
              rw [← he] at hge
              obtain ⟨ss, hss⟩ : ∃ ss, ss = stl u.steps := ⟨_, rfl⟩
              rw [← hss] at hge
              obtain ⟨rm, hgr⟩ : ∃ rm, rms[i]? = some rm := ⟨rms[i]'(by rw [hr.lrm]; omega), List.getElem?_eq_getElem _⟩
              have hgm := qcl_get hgr
              obtain ⟨c1, y1, c2, y2, hqm, ecm⟩ := qcell_ex rm
              rw [ecm, ← hms] at hgm
              have hrq := hql i rm hgr
              have hsp := spn_get hgu
              have hx0 : ∃ q0, arr[i]? = some (qcell q0) := by
                have : (fillF us rms (ord.take k) need).taken.length = us.length := fillF_len _ _ _ _
                exact ⟨_, by rw [hA]; exact qcl_get (List.getElem?_eq_getElem (by rw [this]; exact hil))⟩
              obtain ⟨q0, hx0⟩ := hx0
              obtain ⟨F, hF⟩ : ∃ F, F = fillF us rms (ord.take k) need := ⟨_, rfl⟩
              rw [← hF] at hft hS hA hP hB
              have hx : rms[i]?.getD 0 = rm := by rw [hgr]; rfl
              unfold fstep at hft
              rw [hx, hsp] at hft
              obtain ⟨x, hxx⟩ : ∃ x, x = mn F.short rm := ⟨_, rfl⟩
              have hxq : ql x ≤ 1000 := by
                have := mn_ql hB hrq
                rw [← hxx] at this
                omega
              have hsq := sub_mn_ql hB hrq
              rw [← hxx] at hft hsq
              cbv
              refine h.get' k _ hiz hgo ?_
              cbv
              skip
              refine h.get' i _ rfl hgm ?_
              cbv
              refine fmin_s h (l := 1000) (hS.r.le (by omega)) (hqm.r.le (by omega)) (by omega) fun b2 z2 b3 z3 hq2 => ?_
              have hq2 : Qc b2 z2 b3 z3 x := by rw [hxx]; exact hq2
              have hcl := hq2.cell
              cbv
              refine h.inb' i rfl (by rw [hal]; omega) fun j hj => ?_
              replace hj := hj.symm
              subst hj
              cbv
              refine h.put' _ _ hx0 rfl (by rfl) fun arr2 harr2 => ?_
              have harr3 : arr2 = qcl (F.taken.set i x) := by
                rw [harr2, ← qcl_set, ← hcl, hA]
                rfl
              have hal2 : arr2.length = us.length := by rw [harr2, List.length_set, hal]
              have hx1 : arr2[i]? = some [.sc (.bool b2), .sl 1 1 z2, .sc (.bool b3), .sl 1 1 z3] := by
                rw [harr2, List.getElem?_set_self (by rw [hal]; omega)]
                rfl
              clear harr2
              cbv
              (refine Good.chk' ‹_› rfl ?_; cbv)
              refine h.inb' i rfl (by rw [hal2]; omega) fun j hj => ?_
              replace hj := hj.symm
              subst hj
              cbv
              refine h.getN' _ hx1 ?_
              cbv
              refine fsub_s h (l := 1000) (hS.r.le (by omega)) (hq2.r.le (by omega)) (by omega) fun b4 z4 b5 z5 hq4 => ?_
              cbv
              (refine Good.chk' ‹_› rfl ?_; cbv)
              refine h.inb' i rfl (by rw [hal2]; omega) fun j hj => ?_
              replace hj := hj.symm
              subst hj
              cbv
              refine h.getN' _ hx1 ?_
              cbv
              refine fsign_s h (l := 1000) (hq2.r.le (by omega)) (by omega) fun c3 hc3 => ?_
              have hsg := sgnQ_pos' (q := x)
              cbv
              refine h.dec rfl (fun hp6 => ?_) (fun hp6 => ?_)
              · rw [if_pos (hsg.1 (by (simp only [inR, cmpP, loOk, hiOk, Int.ofNat_eq_natCast, Int.negSucc_eq, IntKind.bits, Int.toNat_natCast, ge_iff_le, gt_iff_lt, ne_eq, wl_len, hl_len, natCast_fold, not_true_eq_false, not_false_eq_true] at * <;> omega)))] at hft
                cbv
                refine h.get' i _ rfl hge ?_
                cbv
                (refine Good.add' ‹_› ?_ ?_; (· (simp only [inR, cmpP, loOk, hiOk, Int.ofNat_eq_natCast, Int.negSucc_eq, IntKind.bits, Int.toNat_natCast, ge_iff_le, gt_iff_lt, ne_eq, wl_len, hl_len, natCast_fold, not_true_eq_false, not_false_eq_true] at * <;> omega)); intro _ _; cbv)
                rename_i i1 hi1
                refine hR _ (i1, k + 1, b4, z4, b5, z5, arr2, u.spin) ⟨by simp only; (simp only [inR, cmpP, loOk, hiOk, Int.ofNat_eq_natCast, Int.negSucc_eq, IntKind.bits, Int.toNat_natCast, ge_iff_le, gt_iff_lt, ne_eq, wl_len, hl_len, natCast_fold, not_true_eq_false, not_false_eq_true] at * <;> omega), by simp only; (simp only [inR, cmpP, loOk, hiOk, Int.ofNat_eq_natCast, Int.negSucc_eq, IntKind.bits, Int.toNat_natCast, ge_iff_le, gt_iff_lt, ne_eq, wl_len, hl_len, natCast_fold, not_true_eq_false, not_false_eq_true] at * <;> omega), by simp only; rw [hft]; exact hq4, by simp only; rw [hft]; exact harr3, by simp only; rw [hft], by simp only; rw [hft]; simp only; omega⟩ (by simp only; (simp only [inR, cmpP, loOk, hiOk, Int.ofNat_eq_natCast, Int.negSucc_eq, IntKind.bits, Int.toNat_natCast, ge_iff_le, gt_iff_lt, ne_eq, wl_len, hl_len, natCast_fold, not_true_eq_false, not_false_eq_true] at * <;> omega)) (by (refine Wk.of [(10, some 10), (50, some 50)] rfl ?_ ?_; (· (repeat (first | exact trivial | (refine And.intro ?_ ?_; (· first | exact trivial | exact Or.inl ⟨_, rfl, rfl⟩ | exact ⟨_, rfl, rfl⟩ | exact Or.inr ⟨rfl, rfl, by decide⟩))))); (· (repeat (first | exact trivial | (refine And.intro ?_ ?_; (· first | exact trivial | exact Or.inl rfl | rfl | exact Or.inr ⟨_, _, _, _, rfl, rfl, rfl, renNo rfl⟩ | exact ⟨ne_no rfl, Or.inl ⟨_, rfl, rfl⟩⟩ | exact ⟨ne_no rfl, Or.inr ⟨rfl, _, rfl⟩⟩ | exact ⟨_, rfl, rfl, ne_no rfl⟩)))))))
              · rw [if_neg (fun hh => hp6 (by have := hsg.2 hh; (simp only [inR, cmpP, loOk, hiOk, Int.ofNat_eq_natCast, Int.negSucc_eq, IntKind.bits, Int.toNat_natCast, ge_iff_le, gt_iff_lt, ne_eq, wl_len, hl_len, natCast_fold, not_true_eq_false, not_false_eq_true] at * <;> omega)))] at hft
                cbv
                (refine Good.add' ‹_› ?_ ?_; (· (simp only [inR, cmpP, loOk, hiOk, Int.ofNat_eq_natCast, Int.negSucc_eq, IntKind.bits, Int.toNat_natCast, ge_iff_le, gt_iff_lt, ne_eq, wl_len, hl_len, natCast_fold, not_true_eq_false, not_false_eq_true] at * <;> omega)); intro _ _; cbv)
                rename_i i1 hi1
                refine hR _ (i1, k + 1, b4, z4, b5, z5, arr2, pr) ⟨by simp only; (simp only [inR, cmpP, loOk, hiOk, Int.ofNat_eq_natCast, Int.negSucc_eq, IntKind.bits, Int.toNat_natCast, ge_iff_le, gt_iff_lt, ne_eq, wl_len, hl_len, natCast_fold, not_true_eq_false, not_false_eq_true] at * <;> omega), by simp only; (simp only [inR, cmpP, loOk, hiOk, Int.ofNat_eq_natCast, Int.negSucc_eq, IntKind.bits, Int.toNat_natCast, ge_iff_le, gt_iff_lt, ne_eq, wl_len, hl_len, natCast_fold, not_true_eq_false, not_false_eq_true] at * <;> omega), by simp only; rw [hft]; exact hq4, by simp only; rw [hft]; exact harr3, by simp only; rw [hft]; exact hP, by simp only; rw [hft]; simp only; omega⟩ (by simp only; (simp only [inR, cmpP, loOk, hiOk, Int.ofNat_eq_natCast, Int.negSucc_eq, IntKind.bits, Int.toNat_natCast, ge_iff_le, gt_iff_lt, ne_eq, wl_len, hl_len, natCast_fold, not_true_eq_false, not_false_eq_true] at * <;> omega)) (by (refine Wk.of [(10, some 10), (50, some 50)] rfl ?_ ?_; (· (repeat (first | exact trivial | (refine And.intro ?_ ?_; (· first | exact trivial | exact Or.inl ⟨_, rfl, rfl⟩ | exact ⟨_, rfl, rfl⟩ | exact Or.inr ⟨rfl, rfl, by decide⟩))))); (· (repeat (first | exact trivial | (refine And.intro ?_ ?_; (· first | exact trivial | exact Or.inl rfl | rfl | exact Or.inr ⟨_, _, _, _, rfl, rfl, rfl, renNo rfl⟩ | exact ⟨ne_no rfl, Or.inl ⟨_, rfl, rfl⟩⟩ | exact ⟨ne_no rfl, Or.inr ⟨rfl, _, rfl⟩⟩ | exact ⟨_, rfl, rfl, ne_no rfl⟩)))))))
            · have hk2 : k = us.length := by (simp only [inR, cmpP, loOk, hiOk, Int.ofNat_eq_natCast, Int.negSucc_eq, IntKind.bits, Int.toNat_natCast, ge_iff_le, gt_iff_lt, ne_eq, wl_len, hl_len, natCast_fold, not_true_eq_false, not_false_eq_true] at * <;> omega)
              rw [hk2, ← hord.len, List.take_length] at hS hA hP
              have hQ := hQ b z b' z' arr pr hS hA hP
              cbv
              (refine Good.chk' ‹_› rfl ?_; cbv)
              exact hQ
      · rw [if_pos (.inl (hbi.2 hb))] at hE
        subst hE
        cbv
        skip
        exact hQ2 (by decide)
end Go.Proofs.YtpmlocilhhjifaaGreat.Eng
end
section
set_option maxRecDepth 100000
set_option linter.unusedSimpArgs false
set_option linter.unusedVariables false
set_option pp.maxSteps 200
namespace Go.Proofs.YtpmlocilhhjifaaGreat.Eng
open Go.RowKit Go.Proofs
theorem lexlt_irr {sp : Nat → Int} {i : Nat} : ¬ lexlt sp i i := fun h => by unfold lexlt at h; omega
theorem lexlt_asy {sp : Nat → Int} {i j : Nat} (h : lexlt sp i j) : ¬ lexlt sp j i := fun h' => by unfold lexlt at h h'; omega
theorem ord_split {us : List UD} {ord : List Nat} (ho : Ord us ord) {k i : Nat} (hk : ord[k]? = some i) : i ∉ ord.take k ∧ ∀ j, j < us.length → j ∉ ord.take k → j = i ∨ lexlt (spn us) i j := by
  have hs := ho.srt
  have e : ord = ord.take k ++ i :: ord.drop (k + 1) := by
    obtain ⟨h, rfl⟩ := List.getElem?_eq_some_iff.1 hk
    conv => lhs; rw [← List.take_append_drop k ord, List.drop_eq_getElem_cons h]
  constructor
  · intro hi
    rw [e, List.pairwise_append] at hs
    exact lexlt_irr (hs.2.2 i hi i (by simp))
  · intro j hj hn
    have hm := ho.mem j hj
    rw [e] at hm hs
    rw [List.pairwise_append] at hs
    rcases List.mem_append.1 hm with h | h
    · exact absurd h hn
    · rcases List.mem_cons.1 h with h | h
      · exact .inl h
      · exact .inr ((List.pairwise_cons.1 hs.2.1).1 j h)
/-- The least of those that are not done, among the first i. -/
def Sel (us : List UD) (dn : List Nat) (i : Nat) (a : Int) : Prop := (a = -1 ∧ ∀ j, j < i → j ∈ dn) ∨ ∃ m : Nat, a = (m : Int) ∧ m < i ∧ m ∉ dn ∧ ∀ j, j < i → j ∉ dn → j = m ∨ lexlt (spn us) m j
theorem sel_done {us : List UD} {dn : List Nat} {i : Nat} {a : Int} (h : Sel us dn i a) (hi : i ∈ dn) : Sel us dn (i + 1) a := by
  rcases h with ⟨h1, h2⟩ | ⟨m, h1, h2, h3, h4⟩
  · refine .inl ⟨h1, fun j hj => ?_⟩
    by_cases e : j = i
    · rw [e]; exact hi
    · exact h2 j (by omega)
  · refine .inr ⟨m, h1, by omega, h3, fun j hj hn => ?_⟩
    by_cases e : j = i
    · rw [e] at hn; exact absurd hi hn
    · exact h4 j (by omega) hn
theorem sel_first {us : List UD} {dn : List Nat} {i : Nat} {a : Int} (h : Sel us dn i a) (ha : a < 0) (hi : i ∉ dn) : Sel us dn (i + 1) (i : Int) := by
  rcases h with ⟨h1, h2⟩ | ⟨m, h1, h2, h3, h4⟩
  · refine .inr ⟨i, rfl, by omega, hi, fun j hj hn => ?_⟩
    by_cases e : j = i
    · exact .inl e
    · exact absurd (h2 j (by omega)) hn
  · omega
theorem sel_less {us : List UD} {dn : List Nat} {i m : Nat} (h : Sel us dn i (m : Int)) (hi : i ∉ dn) (hs : spn us i < spn us m) : Sel us dn (i + 1) (i : Int) := by
  rcases h with ⟨h1, h2⟩ | ⟨m', h1, h2, h3, h4⟩
  · omega
  · have : m' = m := by omega
    subst this
    refine .inr ⟨i, rfl, by omega, hi, fun j hj hn => ?_⟩
    by_cases e : j = i
    · exact .inl e
    · rcases h4 j (by omega) hn with h5 | h5
      · subst h5; exact .inr (.inl hs)
      · unfold lexlt at h5 ⊢
        exact .inr (.inl (by omega))
theorem sel_more {us : List UD} {dn : List Nat} {i m : Nat} (h : Sel us dn i (m : Int)) (hs : ¬ spn us i < spn us m) : Sel us dn (i + 1) (m : Int) := by
  rcases h with ⟨h1, h2⟩ | ⟨m', h1, h2, h3, h4⟩
  · omega
  · have : m' = m := by omega
    subst this
    refine .inr ⟨m', rfl, by omega, h3, fun j hj hn => ?_⟩
    by_cases e : j = i
    · subst e; unfold lexlt; exact .inr (by omega)
    · exact h4 j (by omega) hn
theorem sel_end {us : List UD} {ord : List Nat} (ho : Ord us ord) {k i : Nat} (hk : ord[k]? = some i) {a : Int} (h : Sel us (ord.take k) us.length a) : a = (i : Int) := by
  obtain ⟨h1, h2⟩ := ord_split ho hk
  have hi := ho.lt i (List.mem_of_getElem? hk)
  rcases h with ⟨_, h4⟩ | ⟨m, h3, h4, h5, h6⟩
  · exact absurd (h4 i hi) h1
  · rcases h6 i hi h1 with e | e
    · rw [h3, e]
    · rcases h2 m h4 h5 with e' | e'
      · rw [h3, e']
      · exact absurd e (lexlt_asy e')
def Dn (dl : List Bool) (n : Nat) (dn : List Nat) : Prop := dl.length = n ∧ ∀ i, i < n → dl[i]? = some (decide (i ∈ dn))
theorem dn_set {dl : List Bool} {n k i : Nat} {ord : List Nat} (h : Dn dl n (ord.take k)) (hk : ord[k]? = some i) (hi : i < n) : Dn (dl.set i true) n (ord.take (k + 1)) := by
  obtain ⟨h1, h2⟩ := h
  refine ⟨by simp [h1], fun j hj => ?_⟩
  rw [List.take_add_one, hk]
  by_cases e : j = i
  · subst e
    rw [List.getElem?_set_self (by omega)]
    simp
  · rw [List.getElem?_set_ne (by omega), h2 j hj]
    simp [e]
theorem bl_set (l : List Bool) (i : Nat) (b : Bool) : (bl l).set i [.sc (.bool b)] = bl (l.set i b) := by simp [bl]
theorem bl_rep (n : Nat) (b : Bool) : List.replicate n [D.sc (.bool b)] = bl (List.replicate n b) := by simp [bl]
variable {t t' t'' : Nat} {us : List UD} {os : List Bool} {rs : List Rat} {es bs gs : List (List D)} {zs : List QD} {L : Nat} {ord : List Nat}
set_option maxHeartbeats 16000000 in
theorem rfill_b {need e : Int} (he : es = us.map UD.cell) (hb' : bs = bl os) (hg' : gs = zs.map QD.cell) (ho : ∀ u ∈ us, u.Ok) (hl1 : us.length ≤ 1000) (hl' : os.length ≤ 1000) (hl2 : zs.length ≤ 1000) (hz : Qrs zs rs L) (hL : L ≤ 100) (hn : inR .i64 need) (hE : e = fillE us os rs need)
    (hord : Ord us ord)
    {π : Pi} (h : Good TT π) {Q : List DV → Prop} (hQ1 : e = 0 → ∀ b z b' z' tk pr, Qc b z b' z' (fillF us (rmsF us os rs) ord need).short → tk = qcl (fillF us (rmsF us os rs) ord need).taken → pr = (fillF us (rmsF us os rs) ord need).price → Q [.one (.sl 1 4 tk), .one (.sc (.int .i64 pr)), qa b 1 z b' 1 z', .one (.sc (.int .i64 0))])
    (hQ2 : e ≠ 0 → Q [.one (.sl 3 4 []), .one (.sc (.int .i64 0)), qa false 1 [] false 1 [], .one (.sc (.int .i64 e))]) : abody π ty Tryz.f21 [.one (.sl t 9 es), .one (.sl t' 1 bs), .one (.sl t'' 4 gs), .one (.sc (.int .i64 need))] Q := by
  have hle : es.length = us.length := by rw [he]; simp
  have hlb : bs.length = os.length := by rw [hb', bl_len]
  have hlg : gs.length = rs.length := by rw [hg', List.length_map, hz.1]
  cbv
  refine h.call' _ (rwrong_c he hb' hg' ho hl1 hl' hl2 hz hL hn hE) ?_
  cbv
  refine h.dec rfl (fun hp1 => ?_) (fun hp1 => ?_)
  · cbv
    skip
    exact hQ2 (by (simp only [inR, cmpP, loOk, hiOk, Int.ofNat_eq_natCast, Int.negSucc_eq, IntKind.bits, Int.toNat_natCast, ge_iff_le, gt_iff_lt, ne_eq, wl_len, hl_len, natCast_fold, not_true_eq_false, not_false_eq_true] at * <;> omega))
  · have hE0 : e = 0 := by (simp only [inR, cmpP, loOk, hiOk, Int.ofNat_eq_natCast, Int.negSucc_eq, IntKind.bits, Int.toNat_natCast, ge_iff_le, gt_iff_lt, ne_eq, wl_len, hl_len, natCast_fold, not_true_eq_false, not_false_eq_true] at * <;> omega)
    rw [hE0] at hE
    unfold fillE at hE
    have he1 : enE us os.length = 0 := by
      by_cases hh : enE us os.length = 0
      · exact hh
      · rw [if_neg hh] at hE; omega
    rw [if_pos he1] at hE
    have hrl : rs.length = us.length := by
      by_cases hh : rs.length = us.length
      · exact hh
      · rw [if_neg hh] at hE; omega
    rw [if_pos hrl] at hE
    obtain ⟨hos, h5, _⟩ := enE_len he1
    have hr := rmsF_rooms (us := us) (os := os) (rs := rs) hos hrl
    have hbi := badB_iff (rs := rs) (rms := rmsF us os rs)
    have hQ := hQ1 hE0
    obtain ⟨rms, hrms⟩ : ∃ rms, rms = rmsF us os rs := ⟨_, rfl⟩
    rw [← hrms] at hr hbi hE hQ
    have hnb : ¬ badR rs rms := fun hh => by rw [if_pos (.inl (hbi.2 hh))] at hE; omega
    have hok : ∀ (i : Nat) r m, rs[i]? = some r → rms[i]? = some m → ¬ r < 0 ∧ ¬ m < 0 := fun i r m h1 h2 => ⟨fun hh => hnb ⟨i, r, m, h1, h2, .inl hh⟩, fun hh => hnb ⟨i, r, m, h1, h2, .inr hh⟩⟩
    clear hQ1 hQ2 hE
    cbv
    (refine Good.len' ‹_› ?_; intro _ _; cbv)
    refine h.mks' us.length (by (simp only [inR, cmpP, loOk, hiOk, Int.ofNat_eq_natCast, Int.negSucc_eq, IntKind.bits, Int.toNat_natCast, ge_iff_le, gt_iff_lt, ne_eq, wl_len, hl_len, natCast_fold, not_true_eq_false, not_false_eq_true] at * <;> omega)) (by (simp only [inR, cmpP, loOk, hiOk, Int.ofNat_eq_natCast, Int.negSucc_eq, IntKind.bits, Int.toNat_natCast, ge_iff_le, gt_iff_lt, ne_eq, wl_len, hl_len, natCast_fold, not_true_eq_false, not_false_eq_true] at * <;> omega)) (by omega) (by simp [maxLen]; omega) (by simp) fun a0 ha0 => ?_
    rw [qcl_rep] at ha0
    cbv
    (refine Good.len' ‹_› ?_; intro _ _; cbv)
    refine h.mks' us.length (by (simp only [inR, cmpP, loOk, hiOk, Int.ofNat_eq_natCast, Int.negSucc_eq, IntKind.bits, Int.toNat_natCast, ge_iff_le, gt_iff_lt, ne_eq, wl_len, hl_len, natCast_fold, not_true_eq_false, not_false_eq_true] at * <;> omega)) (by (simp only [inR, cmpP, loOk, hiOk, Int.ofNat_eq_natCast, Int.negSucc_eq, IntKind.bits, Int.toNat_natCast, ge_iff_le, gt_iff_lt, ne_eq, wl_len, hl_len, natCast_fold, not_true_eq_false, not_false_eq_true] at * <;> omega)) (by omega) (by simp [maxLen]; omega) (by simp) fun d0 hd0 => ?_
    rw [bl_rep] at hd0
    cbv
    refine rrint_s h hn fun b1 z1 hq1 => ?_
    cbv
    (refine Good.len' ‹_› ?_; intro _ _; cbv)
    rename_i nl hnl
    have hql : ∀ (i : Nat) r, rms[i]? = some r → ql r ≤ 103 := fun i r hi => by
      have hil := (List.getElem?_eq_some_iff.1 hi).1
      have e3 := hr.lrm
      obtain ⟨u, o, r', g1, g2, g3, g4⟩ := rooms_get hr (show i < us.length by omega)
      obtain ⟨z, r2, g5, g6, g7⟩ := hz.get (show i < rs.length by omega)
      rw [g3] at g6
      cases g6
      rw [hi] at g4
      cases g4
      have := g7.ql
      have := rmQ_ql (u := u) (o := o) (r := r') (L := max L 1) (by omega)
      omega
    refine h.loop' ((Int × Nat × Bool × List (List D) × Bool × List (List D) × List (List D) × Int) × List Bool × List (List D)) (fun q => Dn q.2.1 us.length (ord.take q.1.2.1) ∧ q.2.2 = bl q.2.1 ∧ q.1.1 = (q.1.2.1 : Int) ∧ q.1.2.1 ≤ us.length ∧ Qc q.1.2.2.1 q.1.2.2.2.1 q.1.2.2.2.2.1 q.1.2.2.2.2.2.1 (fillF us rms (ord.take q.1.2.1) need).short ∧ q.1.2.2.2.2.2.2.1 = qcl (fillF us rms (ord.take q.1.2.1) need).taken ∧ q.1.2.2.2.2.2.2.2 = (fillF us rms (ord.take q.1.2.1) need).price ∧ ql (fillF us rms (ord.take q.1.2.1) need).short ≤ 2 + 104 * q.1.2.1)
      (fun q => ⟨[(0, .v (.one (.sl t 9 es))), (1, .v (.one (.sl t' 1 bs))), (2, .v (.one (.sl t'' 4 gs))), (10, .p 10 0 0 0), (13, .ow 30), (14, .ow 33), (15, .p 15 0 0 0), (16, vi .i64 q.1.2.2.2.2.2.2.2), (37, vi .i64 nl), (38, vi .i64 q.1.1)], [(10, .bx [.sc (.bool false), .sl 1 1 [], .sc (.bool false), .sl 1 1 []]), (15, .bx [.sc (.bool q.1.2.2.1), .sl 1 1 q.1.2.2.2.1, .sc (.bool q.1.2.2.2.2.1), .sl 1 1 q.1.2.2.2.2.2.1]), (30, .ar 31 4 q.1.2.2.2.2.2.2.1), (33, .ar 4 1 q.2.2)]⟩) (fun q => us.length - q.1.2.1) ((0, 0, b1, z1, false, [], a0, 0), List.replicate us.length false, d0) ⟨⟨by simp, fun i hi => by simp [List.getElem?_replicate, hi]⟩, hd0, rfl, Nat.zero_le _, hq1, by rw [ha0]; rfl, rfl, ?_⟩ (by (refine Wk.of [(10, some 10), (15, some 15), (30, some 30), (33, some 33)] rfl ?_ ?_; (· (repeat (first | exact trivial | (refine And.intro ?_ ?_; (· first | exact trivial | exact Or.inl ⟨_, rfl, rfl⟩ | exact ⟨_, rfl, rfl⟩ | exact Or.inr ⟨rfl, rfl, by decide⟩))))); (· (repeat (first | exact trivial | (refine And.intro ?_ ?_; (· first | exact trivial | exact Or.inl rfl | rfl | exact Or.inr ⟨_, _, _, _, rfl, rfl, rfl, renNo rfl⟩ | exact ⟨ne_no rfl, Or.inl ⟨_, rfl, rfl⟩⟩ | exact ⟨ne_no rfl, Or.inr ⟨rfl, _, rfl⟩⟩ | exact ⟨_, rfl, rfl, ne_no rfl⟩))))))) ?_
    · have e1 := ql_int need
      have e2 := len2' hn
      show ql ((need : Int) : Rat) ≤ _
      omega
    rintro ⟨⟨kz, k, b, z, b', z', arr, pr⟩, dl, da⟩ R ⟨hD, hda, hkz, hk, hS, hA, hP, hB⟩ hR
    simp only at hD hda hkz hk hS hA hP hB
    have hal : arr.length = us.length := by rw [hA, qcl_len, fillF_len]
    have hdl : da.length = us.length := by rw [hda, bl_len, hD.1]
    cbv
    refine h.dec rfl (fun hp5 => ?_) (fun hp5 => ?_)
    · obtain ⟨i, hgi⟩ : ∃ i, ord[k]? = some i := ⟨ord[k]'(by rw [hord.len]; (simp only [inR, cmpP, loOk, hiOk, Int.ofNat_eq_natCast, Int.negSucc_eq, IntKind.bits, Int.toNat_natCast, ge_iff_le, gt_iff_lt, ne_eq, wl_len, hl_len, natCast_fold, not_true_eq_false, not_false_eq_true] at * <;> omega)), List.getElem?_eq_getElem _⟩
      cbv
      refine h.loop' (Int × Int × Nat) (fun p => p.2.1 = (p.2.2 : Int) ∧ p.2.2 ≤ us.length ∧ Sel us (ord.take k) p.2.2 p.1)
        (fun p => ⟨[(0, .v (.one (.sl t 9 es))), (1, .v (.one (.sl t' 1 bs))), (2, .v (.one (.sl t'' 4 gs))), (10, .p 10 0 0 0), (13, .ow 30), (14, .ow 33), (15, .p 15 0 0 0), (16, vi .i64 pr), (17, vi .i64 p.1), (18, vi .i64 p.2.1), (37, vi .i64 nl), (38, vi .i64 kz)], [(10, .bx [.sc (.bool false), .sl 1 1 [], .sc (.bool false), .sl 1 1 []]), (15, .bx [.sc (.bool b), .sl 1 1 z, .sc (.bool b'), .sl 1 1 z']), (30, .ar 31 4 arr), (33, .ar 4 1 da)]⟩) (fun p => us.length - p.2.2) (-1, 0, 0) ⟨rfl, Nat.zero_le _, .inl ⟨rfl, fun j hj => absurd hj (Nat.not_lt_zero _)⟩⟩ (by (refine Wk.of [(10, some 10), (15, some 15), (30, some 30), (33, some 33)] rfl ?_ ?_; (· (repeat (first | exact trivial | (refine And.intro ?_ ?_; (· first | exact trivial | exact Or.inl ⟨_, rfl, rfl⟩ | exact ⟨_, rfl, rfl⟩ | exact Or.inr ⟨rfl, rfl, by decide⟩))))); (· (repeat (first | exact trivial | (refine And.intro ?_ ?_; (· first | exact trivial | exact Or.inl rfl | rfl | exact Or.inr ⟨_, _, _, _, rfl, rfl, rfl, renNo rfl⟩ | exact ⟨ne_no rfl, Or.inl ⟨_, rfl, rfl⟩⟩ | exact ⟨ne_no rfl, Or.inr ⟨rfl, _, rfl⟩⟩ | exact ⟨_, rfl, rfl, ne_no rfl⟩))))))) ?_
      rintro ⟨az, jz, j⟩ R2 ⟨hjz, hj, hsel⟩ hR2
      simp only at hjz hj hsel
      cbv
      (refine Good.len' ‹_› ?_; intro _ _; cbv)
      refine h.dec rfl (fun hp6 => ?_) (fun hp6 => ?_)
      · have hjl : j < us.length := by (simp only [inR, cmpP, loOk, hiOk, Int.ofNat_eq_natCast, Int.negSucc_eq, IntKind.bits, Int.toNat_natCast, ge_iff_le, gt_iff_lt, ne_eq, wl_len, hl_len, natCast_fold, not_true_eq_false, not_false_eq_true] at * <;> omega)
        have hdj := hD.2 j hjl
        have hdg := bl_get hdj
        rw [← hda] at hdg
        obtain ⟨u, hgu⟩ : ∃ u, us[j]? = some u := ⟨us[j], List.getElem?_eq_getElem _⟩
        have hge := ud_get hgu
        rw [← he] at hge
        obtain ⟨ss, hss⟩ : ∃ ss, ss = stl u.steps := ⟨_, rfl⟩
        rw [← hss] at hge
        have hsp := spn_get hgu
        cbv
        refine h.inb' j hjz (by rw [hdl]; omega) fun j' hj' => ?_
        replace hj' := hj'.symm
        subst hj'
        cbv
        refine h.getN' _ hdg ?_
        by_cases hm : j ∈ ord.take k
        · rw [decide_eq_true hm]
          cbv
          (refine Good.chk' ‹_› rfl ?_; cbv; refine Good.add' ‹_› ?_ ?_; (· (simp only [inR, cmpP, loOk, hiOk, Int.ofNat_eq_natCast, Int.negSucc_eq, IntKind.bits, Int.toNat_natCast, ge_iff_le, gt_iff_lt, ne_eq, wl_len, hl_len, natCast_fold, not_true_eq_false, not_false_eq_true] at * <;> omega)); intro _ _; cbv)
          rename_i j1 hj1
          refine hR2 _ (az, j1, j + 1) ⟨by simp only; (simp only [inR, cmpP, loOk, hiOk, Int.ofNat_eq_natCast, Int.negSucc_eq, IntKind.bits, Int.toNat_natCast, ge_iff_le, gt_iff_lt, ne_eq, wl_len, hl_len, natCast_fold, not_true_eq_false, not_false_eq_true] at * <;> omega), by simp only; omega, sel_done hsel hm⟩ (by simp only; omega) (by (refine Wk.of [(10, some 10), (15, some 15), (30, some 30), (33, some 33)] rfl ?_ ?_; (· (repeat (first | exact trivial | (refine And.intro ?_ ?_; (· first | exact trivial | exact Or.inl ⟨_, rfl, rfl⟩ | exact ⟨_, rfl, rfl⟩ | exact Or.inr ⟨rfl, rfl, by decide⟩))))); (· (repeat (first | exact trivial | (refine And.intro ?_ ?_; (· first | exact trivial | exact Or.inl rfl | rfl | exact Or.inr ⟨_, _, _, _, rfl, rfl, rfl, renNo rfl⟩ | exact ⟨ne_no rfl, Or.inl ⟨_, rfl, rfl⟩⟩ | exact ⟨ne_no rfl, Or.inr ⟨rfl, _, rfl⟩⟩ | exact ⟨_, rfl, rfl, ne_no rfl⟩)))))))
        · rw [decide_eq_false hm]
          cbv
          refine h.dec rfl (fun hp7 => ?_) (fun hp7 => ?_)
          · have hs2 : Sel us (ord.take k) (j + 1) jz := by rw [show jz = (j : Int) from hjz]; exact sel_first hsel (by (simp only [inR, cmpP, loOk, hiOk, Int.ofNat_eq_natCast, Int.negSucc_eq, IntKind.bits, Int.toNat_natCast, ge_iff_le, gt_iff_lt, ne_eq, wl_len, hl_len, natCast_fold, not_true_eq_false, not_false_eq_true] at * <;> omega)) hm
            cbv
            (refine Good.chk' ‹_› rfl ?_; cbv; refine Good.add' ‹_› ?_ ?_; (· (simp only [inR, cmpP, loOk, hiOk, Int.ofNat_eq_natCast, Int.negSucc_eq, IntKind.bits, Int.toNat_natCast, ge_iff_le, gt_iff_lt, ne_eq, wl_len, hl_len, natCast_fold, not_true_eq_false, not_false_eq_true] at * <;> omega)); intro _ _; cbv)
            rename_i j1 hj1
            refine hR2 _ (jz, j1, j + 1) ⟨by simp only; (simp only [inR, cmpP, loOk, hiOk, Int.ofNat_eq_natCast, Int.negSucc_eq, IntKind.bits, Int.toNat_natCast, ge_iff_le, gt_iff_lt, ne_eq, wl_len, hl_len, natCast_fold, not_true_eq_false, not_false_eq_true] at * <;> omega), by simp only; omega, hs2⟩ (by simp only; omega) (by (refine Wk.of [(10, some 10), (15, some 15), (30, some 30), (33, some 33)] rfl ?_ ?_; (· (repeat (first | exact trivial | (refine And.intro ?_ ?_; (· first | exact trivial | exact Or.inl ⟨_, rfl, rfl⟩ | exact ⟨_, rfl, rfl⟩ | exact Or.inr ⟨rfl, rfl, by decide⟩))))); (· (repeat (first | exact trivial | (refine And.intro ?_ ?_; (· first | exact trivial | exact Or.inl rfl | rfl | exact Or.inr ⟨_, _, _, _, rfl, rfl, rfl, renNo rfl⟩ | exact ⟨ne_no rfl, Or.inl ⟨_, rfl, rfl⟩⟩ | exact ⟨ne_no rfl, Or.inr ⟨rfl, _, rfl⟩⟩ | exact ⟨_, rfl, rfl, ne_no rfl⟩)))))))
          · obtain ⟨m, hmz, hml⟩ : ∃ m : Nat, az = (m : Int) ∧ m < j := by
              rcases hsel with h1 | ⟨m, h1, h2, _⟩
              · (simp only [inR, cmpP, loOk, hiOk, Int.ofNat_eq_natCast, Int.negSucc_eq, IntKind.bits, Int.toNat_natCast, ge_iff_le, gt_iff_lt, ne_eq, wl_len, hl_len, natCast_fold, not_true_eq_false, not_false_eq_true] at * <;> omega)
              · exact ⟨m, h1, h2⟩
            rw [hmz] at hsel
            obtain ⟨v, hgv⟩ : ∃ v, us[m]? = some v := ⟨us[m]'(by omega), List.getElem?_eq_getElem _⟩
            have hgf := ud_get hgv
            rw [← he] at hgf
            obtain ⟨ss2, hss2⟩ : ∃ ss, ss = stl v.steps := ⟨_, rfl⟩
            rw [← hss2] at hgf
            have hsp2 := spn_get hgv
            cbv
            refine h.get' j _ hjz hge ?_
            cbv
            refine h.get' m _ hmz hgf ?_
            cbv
            refine h.dec rfl (fun hp8 => ?_) (fun hp8 => ?_)
            · have hs2 : Sel us (ord.take k) (j + 1) jz := by rw [show jz = (j : Int) from hjz]; exact sel_less hsel hm (by rw [hsp, hsp2]; (simp only [inR, cmpP, loOk, hiOk, Int.ofNat_eq_natCast, Int.negSucc_eq, IntKind.bits, Int.toNat_natCast, ge_iff_le, gt_iff_lt, ne_eq, wl_len, hl_len, natCast_fold, not_true_eq_false, not_false_eq_true] at * <;> omega))
              cbv
              (refine Good.chk' ‹_› rfl ?_; cbv; refine Good.add' ‹_› ?_ ?_; (· (simp only [inR, cmpP, loOk, hiOk, Int.ofNat_eq_natCast, Int.negSucc_eq, IntKind.bits, Int.toNat_natCast, ge_iff_le, gt_iff_lt, ne_eq, wl_len, hl_len, natCast_fold, not_true_eq_false, not_false_eq_true] at * <;> omega)); intro _ _; cbv)
              rename_i j1 hj1
              refine hR2 _ (jz, j1, j + 1) ⟨by simp only; (simp only [inR, cmpP, loOk, hiOk, Int.ofNat_eq_natCast, Int.negSucc_eq, IntKind.bits, Int.toNat_natCast, ge_iff_le, gt_iff_lt, ne_eq, wl_len, hl_len, natCast_fold, not_true_eq_false, not_false_eq_true] at * <;> omega), by simp only; omega, hs2⟩ (by simp only; omega) (by (refine Wk.of [(10, some 10), (15, some 15), (30, some 30), (33, some 33)] rfl ?_ ?_; (· (repeat (first | exact trivial | (refine And.intro ?_ ?_; (· first | exact trivial | exact Or.inl ⟨_, rfl, rfl⟩ | exact ⟨_, rfl, rfl⟩ | exact Or.inr ⟨rfl, rfl, by decide⟩))))); (· (repeat (first | exact trivial | (refine And.intro ?_ ?_; (· first | exact trivial | exact Or.inl rfl | rfl | exact Or.inr ⟨_, _, _, _, rfl, rfl, rfl, renNo rfl⟩ | exact ⟨ne_no rfl, Or.inl ⟨_, rfl, rfl⟩⟩ | exact ⟨ne_no rfl, Or.inr ⟨rfl, _, rfl⟩⟩ | exact ⟨_, rfl, rfl, ne_no rfl⟩)))))))
            · have hs2 : Sel us (ord.take k) (j + 1) az := by rw [show az = (m : Int) from hmz]; exact sel_more hsel (by rw [hsp, hsp2]; (simp only [inR, cmpP, loOk, hiOk, Int.ofNat_eq_natCast, Int.negSucc_eq, IntKind.bits, Int.toNat_natCast, ge_iff_le, gt_iff_lt, ne_eq, wl_len, hl_len, natCast_fold, not_true_eq_false, not_false_eq_true] at * <;> omega))
              cbv
              (refine Good.chk' ‹_› rfl ?_; cbv; refine Good.add' ‹_› ?_ ?_; (· (simp only [inR, cmpP, loOk, hiOk, Int.ofNat_eq_natCast, Int.negSucc_eq, IntKind.bits, Int.toNat_natCast, ge_iff_le, gt_iff_lt, ne_eq, wl_len, hl_len, natCast_fold, not_true_eq_false, not_false_eq_true] at * <;> omega)); intro _ _; cbv)
              rename_i j1 hj1
              refine hR2 _ (az, j1, j + 1) ⟨by simp only; (simp only [inR, cmpP, loOk, hiOk, Int.ofNat_eq_natCast, Int.negSucc_eq, IntKind.bits, Int.toNat_natCast, ge_iff_le, gt_iff_lt, ne_eq, wl_len, hl_len, natCast_fold, not_true_eq_false, not_false_eq_true] at * <;> omega), by simp only; omega, hs2⟩ (by simp only; omega) (by (refine Wk.of [(10, some 10), (15, some 15), (30, some 30), (33, some 33)] rfl ?_ ?_; (· (repeat (first | exact trivial | (refine And.intro ?_ ?_; (· first | exact trivial | exact Or.inl ⟨_, rfl, rfl⟩ | exact ⟨_, rfl, rfl⟩ | exact Or.inr ⟨rfl, rfl, by decide⟩))))); (· (repeat (first | exact trivial | (refine And.intro ?_ ?_; (· first | exact trivial | exact Or.inl rfl | rfl | exact Or.inr ⟨_, _, _, _, rfl, rfl, rfl, renNo rfl⟩ | exact ⟨ne_no rfl, Or.inl ⟨_, rfl, rfl⟩⟩ | exact ⟨ne_no rfl, Or.inr ⟨rfl, _, rfl⟩⟩ | exact ⟨_, rfl, rfl, ne_no rfl⟩)))))))
      · have hj2 : j = us.length := by (simp only [inR, cmpP, loOk, hiOk, Int.ofNat_eq_natCast, Int.negSucc_eq, IntKind.bits, Int.toNat_natCast, ge_iff_le, gt_iff_lt, ne_eq, wl_len, hl_len, natCast_fold, not_true_eq_false, not_false_eq_true] at * <;> omega)
        rw [hj2] at hsel
        have haz := sel_end hord hgi hsel
        have hil := hord.lt i (List.mem_of_getElem? hgi)
        have hft := fill_take (us := us) (rms := rms) (need := need) hgi
        obtain ⟨u, o, r, g1, g2, g3, g4⟩ := rooms_get hr hil
        obtain ⟨zq, r', g5, g6, g7⟩ := hz.get (show i < rs.length by omega)
        rw [g3] at g6
        cases g6
        have hge := ud_get g1
        rw [← he] at hge
        obtain ⟨ss, hss⟩ : ∃ ss, ss = stl u.steps := ⟨_, rfl⟩
        rw [← hss] at hge
        have hbg := bl_get g2
        rw [← hb'] at hbg
        have hg := qd_get g5
        rw [← hg'] at hg
        have hu := ho u (List.mem_of_getElem? g1)
        obtain ⟨zs1, zt, zx, zs2, zt', zy⟩ := zq
        simp only at hg g7
        have hsp := spn_get g1
        have hqr := g7.ql
        have hrl2 := rmR_ql (u := u) (o := o) (r := r) (L := max L 1) (by omega)
        have hrmR : rmQ u o r = rmR u o r := by
          cases o
          · have k1 := hok i r _ g3 g4
            have e2 : rmQ u false r = -r := by unfold rmQ; rw [if_neg (by decide), show ((0 : Int) : Rat) = 0 from rfl]; grind
            rw [e2] at k1 ⊢
            have e3 : rmR u false r = 0 := rfl
            rw [e3]
            grind
          · rfl
        have hrq := hql i _ g4
        have hx : rms[i]?.getD 0 = rmR u o r := by rw [g4, hrmR]; rfl
        rw [hrmR] at hrq
        obtain ⟨rm, hrm⟩ : ∃ rm, rm = rmR u o r := ⟨_, rfl⟩
        have hx0 : ∃ q0, arr[i]? = some (qcell q0) := by
          have : (fillF us rms (ord.take k) need).taken.length = us.length := fillF_len _ _ _ _
          exact ⟨_, by rw [hA]; exact qcl_get (List.getElem?_eq_getElem (by rw [this]; exact hil))⟩
        obtain ⟨q0, hx0⟩ := hx0
        obtain ⟨F, hF⟩ : ∃ F, F = fillF us rms (ord.take k) need := ⟨_, rfl⟩
        rw [← hF] at hft hS hA hP hB
        unfold fstep at hft
        rw [hx, hsp, ← hrm] at hft
        rw [← hrm] at hrq hrl2
        obtain ⟨x, hxx⟩ : ∃ x, x = mn F.short rm := ⟨_, rfl⟩
        have hxq : ql x ≤ 1000 := by
          have := mn_ql hB hrq
          rw [← hxx] at this
          omega
        have hsq := sub_mn_ql hB hrq
        rw [← hxx] at hft hsq
        have hD2 := dn_set hD hgi hil
        have hdg := bl_get (hD.2 i hil)
        rw [← hda] at hdg
        clear hsel hj hjz hR2 hp6
        cbv
        refine h.inb' i haz (by rw [hdl]; omega) fun i' hi' => ?_
        replace hi' := hi'.symm
        subst hi'
        cbv
        refine h.put' _ _ hdg rfl (by rfl) fun da2 hda2 => ?_
        rw [hda] at hda2
        have hda3 : da2 = bl (dl.set i true) := by rw [hda2, ← bl_set]; rfl
        clear hda2
        cbv
        refine h.get' i _ haz hge ?_
        cbv
        refine h.get' i _ haz hbg ?_
        cbv
        refine h.get' i _ haz hg ?_
        cbv
        refine rRoom_s h hu hss g7 (by omega) fun c1 y1 c2 y2 hqm => ?_
        rw [← hrm] at hqm
        cbv
        refine rrmin_s h (l := 900) (hS.r.le (by omega)) (hqm.r.le (by omega)) (by omega) fun b2 z2 b3 z3 hq2 => ?_
        have hq2 : Qc b2 z2 b3 z3 x := by rw [hxx]; exact hq2
        have hcl := hq2.cell
        cbv
        refine h.inb' i haz (by rw [hal]; omega) fun i' hi' => ?_
        replace hi' := hi'.symm
        subst hi'
        cbv
        refine h.put' _ _ hx0 rfl (by rfl) fun arr2 harr2 => ?_
        have harr3 : arr2 = qcl (F.taken.set i x) := by
          rw [harr2, ← qcl_set, ← hcl, hA]
          rfl
        have hal2 : arr2.length = us.length := by rw [harr2, List.length_set, hal]
        have hx1 : arr2[i]? = some [.sc (.bool b2), .sl 1 1 z2, .sc (.bool b3), .sl 1 1 z3] := by
          rw [harr2, List.getElem?_set_self (by rw [hal]; omega)]
          rfl
        clear harr2
        cbv
        (refine Good.chk' ‹_› rfl ?_; cbv)
        refine h.inb' i haz (by rw [hal2]; omega) fun i' hi' => ?_
        replace hi' := hi'.symm
        subst hi'
        cbv
        refine h.getN' _ hx1 ?_
        cbv
        refine rrsub_s h (l := 900) (hS.r.le (by omega)) (hq2.r.le (by have := mn_ql hB hrq; rw [← hxx] at this; omega)) (by omega) fun b4 z4 b5 z5 hq4 => ?_
        cbv
        (refine Good.chk' ‹_› rfl ?_; cbv)
        refine h.inb' i haz (by rw [hal2]; omega) fun i' hi' => ?_
        replace hi' := hi'.symm
        subst hi'
        cbv
        refine h.getN' _ hx1 ?_
        cbv
        refine rrsign_s h (l := 1000) (hq2.r.le (by omega)) (by omega) fun c3 hc3 => ?_
        have hsg := sgnQ_pos' (q := x)
        cbv
        refine h.dec rfl (fun hp6 => ?_) (fun hp6 => ?_)
        · rw [if_pos (hsg.1 (by (simp only [inR, cmpP, loOk, hiOk, Int.ofNat_eq_natCast, Int.negSucc_eq, IntKind.bits, Int.toNat_natCast, ge_iff_le, gt_iff_lt, ne_eq, wl_len, hl_len, natCast_fold, not_true_eq_false, not_false_eq_true] at * <;> omega)))] at hft
          cbv
          refine h.get' i _ haz hge ?_
          cbv
          (refine Good.add' ‹_› ?_ ?_; (· (simp only [inR, cmpP, loOk, hiOk, Int.ofNat_eq_natCast, Int.negSucc_eq, IntKind.bits, Int.toNat_natCast, ge_iff_le, gt_iff_lt, ne_eq, wl_len, hl_len, natCast_fold, not_true_eq_false, not_false_eq_true] at * <;> omega)); intro _ _; cbv)
          rename_i k1 hk1
          refine hR _ ((k1, k + 1, b4, z4, b5, z5, arr2, u.spin), dl.set i true, da2) ⟨hD2, hda3, by simp only; (simp only [inR, cmpP, loOk, hiOk, Int.ofNat_eq_natCast, Int.negSucc_eq, IntKind.bits, Int.toNat_natCast, ge_iff_le, gt_iff_lt, ne_eq, wl_len, hl_len, natCast_fold, not_true_eq_false, not_false_eq_true] at * <;> omega), by simp only; (simp only [inR, cmpP, loOk, hiOk, Int.ofNat_eq_natCast, Int.negSucc_eq, IntKind.bits, Int.toNat_natCast, ge_iff_le, gt_iff_lt, ne_eq, wl_len, hl_len, natCast_fold, not_true_eq_false, not_false_eq_true] at * <;> omega), by simp only; rw [hft]; exact hq4, by simp only; rw [hft]; exact harr3, by simp only; rw [hft], by simp only; rw [hft]; simp only; omega⟩ (by simp only; (simp only [inR, cmpP, loOk, hiOk, Int.ofNat_eq_natCast, Int.negSucc_eq, IntKind.bits, Int.toNat_natCast, ge_iff_le, gt_iff_lt, ne_eq, wl_len, hl_len, natCast_fold, not_true_eq_false, not_false_eq_true] at * <;> omega)) (by (refine Wk.of [(10, some 10), (15, some 15), (30, some 30), (33, some 33)] rfl ?_ ?_; (· (repeat (first | exact trivial | (refine And.intro ?_ ?_; (· first | exact trivial | exact Or.inl ⟨_, rfl, rfl⟩ | exact ⟨_, rfl, rfl⟩ | exact Or.inr ⟨rfl, rfl, by decide⟩))))); (· (repeat (first | exact trivial | (refine And.intro ?_ ?_; (· first | exact trivial | exact Or.inl rfl | rfl | exact Or.inr ⟨_, _, _, _, rfl, rfl, rfl, renNo rfl⟩ | exact ⟨ne_no rfl, Or.inl ⟨_, rfl, rfl⟩⟩ | exact ⟨ne_no rfl, Or.inr ⟨rfl, _, rfl⟩⟩ | exact ⟨_, rfl, rfl, ne_no rfl⟩)))))))
        · rw [if_neg (fun hh => hp6 (by have := hsg.2 hh; (simp only [inR, cmpP, loOk, hiOk, Int.ofNat_eq_natCast, Int.negSucc_eq, IntKind.bits, Int.toNat_natCast, ge_iff_le, gt_iff_lt, ne_eq, wl_len, hl_len, natCast_fold, not_true_eq_false, not_false_eq_true] at * <;> omega)))] at hft
          cbv
          (refine Good.add' ‹_› ?_ ?_; (· (simp only [inR, cmpP, loOk, hiOk, Int.ofNat_eq_natCast, Int.negSucc_eq, IntKind.bits, Int.toNat_natCast, ge_iff_le, gt_iff_lt, ne_eq, wl_len, hl_len, natCast_fold, not_true_eq_false, not_false_eq_true] at * <;> omega)); intro _ _; cbv)
          rename_i k1 hk1
          refine hR _ ((k1, k + 1, b4, z4, b5, z5, arr2, pr), dl.set i true, da2) ⟨hD2, hda3, by simp only; (simp only [inR, cmpP, loOk, hiOk, Int.ofNat_eq_natCast, Int.negSucc_eq, IntKind.bits, Int.toNat_natCast, ge_iff_le, gt_iff_lt, ne_eq, wl_len, hl_len, natCast_fold, not_true_eq_false, not_false_eq_true] at * <;> omega), by simp only; (simp only [inR, cmpP, loOk, hiOk, Int.ofNat_eq_natCast, Int.negSucc_eq, IntKind.bits, Int.toNat_natCast, ge_iff_le, gt_iff_lt, ne_eq, wl_len, hl_len, natCast_fold, not_true_eq_false, not_false_eq_true] at * <;> omega), by simp only; rw [hft]; exact hq4, by simp only; rw [hft]; exact harr3, by simp only; rw [hft]; exact hP, by simp only; rw [hft]; simp only; omega⟩ (by simp only; (simp only [inR, cmpP, loOk, hiOk, Int.ofNat_eq_natCast, Int.negSucc_eq, IntKind.bits, Int.toNat_natCast, ge_iff_le, gt_iff_lt, ne_eq, wl_len, hl_len, natCast_fold, not_true_eq_false, not_false_eq_true] at * <;> omega)) (by (refine Wk.of [(10, some 10), (15, some 15), (30, some 30), (33, some 33)] rfl ?_ ?_; (· (repeat (first | exact trivial | (refine And.intro ?_ ?_; (· first | exact trivial | exact Or.inl ⟨_, rfl, rfl⟩ | exact ⟨_, rfl, rfl⟩ | exact Or.inr ⟨rfl, rfl, by decide⟩))))); (· (repeat (first | exact trivial | (refine And.intro ?_ ?_; (· first | exact trivial | exact Or.inl rfl | rfl | exact Or.inr ⟨_, _, _, _, rfl, rfl, rfl, renNo rfl⟩ | exact ⟨ne_no rfl, Or.inl ⟨_, rfl, rfl⟩⟩ | exact ⟨ne_no rfl, Or.inr ⟨rfl, _, rfl⟩⟩ | exact ⟨_, rfl, rfl, ne_no rfl⟩)))))))
    · have hk2 : k = us.length := by (simp only [inR, cmpP, loOk, hiOk, Int.ofNat_eq_natCast, Int.negSucc_eq, IntKind.bits, Int.toNat_natCast, ge_iff_le, gt_iff_lt, ne_eq, wl_len, hl_len, natCast_fold, not_true_eq_false, not_false_eq_true] at * <;> omega)
      rw [hk2, ← hord.len, List.take_length] at hS hA hP
      have hQ := hQ b z b' z' arr pr hS hA hP
      cbv
      (refine Good.chk' ‹_› rfl ?_; cbv)
      exact hQ
end Go.Proofs.YtpmlocilhhjifaaGreat.Eng
end
