/- ReserveAdditivity. -/
import Derived.Test.YtpmlocilhhjifaaGreatRl1
set_option maxRecDepth 100000
set_option linter.unusedSimpArgs false
set_option linter.unusedVariables false
set_option pp.maxSteps 200
namespace Go.Proofs.YtpmlocilhhjifaaGreat.Eng
open Go.RowKit Go.Proofs
variable {t t' t'' : Nat} {us : List UD} {os : List Bool} {es bs gs : List (List D)} {zs : List QD} {rs : List Rat}
def addR (l m : List Rat) : List Rat := List.zipWith (· + ·) l m
theorem addR_get {l m : List Rat} {i : Nat} {x y : Rat} (h1 : l[i]? = some x) (h2 : m[i]? = some y) : (addR l m)[i]? = some (x + y) := by simp [addR, List.getElem?_zipWith, h1, h2]
theorem addR_len {l m : List Rat} (h : l.length = m.length) : (addR l m).length = l.length := by simp [addR, h]
theorem more_ok {a b : Int} (h : fillE us os rs a = 0) (hb : 0 ≤ b ∧ b ≤ 1000000) : fillE us os (addR rs (fillR us os rs a).taken) b = 0 ∧ ∀ i, i < us.length → gR (rmsF us os (addR rs (fillR us os rs a).taken)) i = gR (rmsF us os rs) i - gR (fillR us os rs a).taken i := by
  obtain ⟨hlo, hlr, h5, hf1, hnb, hn0, hn1⟩ := fillE_len h
  obtain ⟨inv, hrho, hsp⟩ := fill_inv h
  have hlt : (fillR us os rs a).taken.length = us.length := inv.len
  obtain ⟨F, hF⟩ : ∃ F, F = fillR us os rs a := ⟨_, rfl⟩
  rw [← hF] at hlt inv ⊢
  have hla : (addR rs F.taken).length = us.length := by rw [addR_len (by omega)]; exact hlr
  have key : ∀ i, i < us.length → ∃ u o r f, us[i]? = some u ∧ os[i]? = some o ∧ rs[i]? = some r ∧ F.taken[i]? = some f ∧ (addR rs F.taken)[i]? = some (r + f) ∧ (rmsF us os rs)[i]? = some (rmQ u o r) ∧ (rmsF us os (addR rs F.taken))[i]? = some (rmQ u o r - f) := fun i hi => by
    obtain ⟨u, o, r, g1, g2, g3, g4⟩ := rooms_get (rmsF_rooms hlo hlr) hi
    have g5 := get_gR (l := F.taken) (i := i) (by omega)
    have g6 := addR_get g3 g5
    have g7 := (rmsF_rooms hlo hla).at' i u o _ g1 g2 g6
    refine ⟨u, o, r, _, g1, g2, g3, g5, g6, g4, ?_⟩
    rw [g7]
    congr 1
    unfold rmQ
    grind
  constructor
  · have hnb' : ¬ badR (addR rs F.taken) (rmsF us os (addR rs F.taken)) := fun ⟨i, r', m', k1, k2, k3⟩ => by
      have hi : i < us.length := by have := (List.getElem?_eq_some_iff.1 k1).1; omega
      obtain ⟨u, o, r, f, g1, g2, g3, g4, g5, g6, g7⟩ := key i hi
      rw [g5] at k1
      rw [g7] at k2
      have e1 := Option.some.inj k1
      have e2 := Option.some.inj k2
      have n1 : ¬ r < 0 := fun hh => hnb ⟨i, r, _, g3, g6, .inl hh⟩
      have lo := inv.lo i hi
      have hi' := inv.hi i ((ordF_ord us).mem i hi)
      rw [gR_get g4] at lo hi'
      rw [gR_get g6] at hi'
      rcases k3 with k3 | k3
      · rw [← e1] at k3; grind
      · rw [← e2] at k3; grind
    unfold fillE at h ⊢
    have he : enE us os.length = 0 := by
      by_cases hh : enE us os.length = 0
      · exact hh
      · rw [if_neg hh] at h; exact absurd h hh
    rw [if_pos he, if_pos hla, if_neg (fun hh => by
      rcases hh with hh | hh | hh
      · exact hnb' (badB_iff.1 hh)
      · omega
      · omega)]
  · intro i hi
    obtain ⟨u, o, r, f, g1, g2, g3, g4, g5, g6, g7⟩ := key i hi
    rw [gR_get g7, gR_get g6, gR_get g4]
theorem canon2 {q : Rat} {cs : List (List D)} {l : List Rat} {i : Nat} (hc : cs = qcl l) (h : l[i]? = some q) : ∃ b z b' z', Qc b z b' z' q ∧ cs[i]? = some [.sc (.bool b), .sl 1 1 z, .sc (.bool b'), .sl 1 1 z'] := by
  obtain ⟨b, z, b', z', k, e⟩ := qcell_ex q
  have := qcl_get h
  rw [← hc, e] at this
  exact ⟨b, z, b', z', k, this⟩
set_option maxHeartbeats 8000000 in
theorem additive_l {a b : Int} (he : es = us.map UD.cell) (hb : bs = bl os) (hg : gs = zs.map QD.cell) (ho : ∀ u ∈ us, u.Ok0) (hz : ∀ z ∈ zs, z.Raw) (hma : inR .u16 a) (hmb : inR .u16 b) :
    TT 4 [.one (.sl t 9 es), .one (.sl t' 1 bs), .one (.sl t'' 4 gs), .one (.sc (.int .u16 a)), .one (.sc (.int .u16 b))] [.one (.sc (.bool true))] := by
  refine con Tryz.func4 rfl (by kernel_rfl) (by kernel_rfl) fun π Q h hQ => ?_
  have hle : es.length = us.length := by rw [he]; simp
  cbv
  refine long30_s h he hg ?_ fun hs => ?_
  · cbv
    skip
    refine h.call' _ awake_c ?_
    cbv
    skip
    exact hQ
  · have hou := small_ok ho hs
    obtain ⟨rs, hrs⟩ := raw_qrs hz hs.w
    have l1 := hs.lu
    have l2 := hs.lb
    have l3 := hs.lz
    have lbl : bs.length = os.length := by rw [hb, bl_len]
    cbv
    refine h.call' _ awake_c ?_
    cbv
    (refine Good.convi ‹_› ?_ ?_; (· (simp only [inR, cmpP, loOk, hiOk, Int.ofNat_eq_natCast, Int.negSucc_eq, IntKind.bits, Int.toNat_natCast, ge_iff_le, gt_iff_lt, ne_eq, wl_len, hl_len, natCast_fold, not_true_eq_false, not_false_eq_true] at * <;> omega)); cbv; refine Good.convi ‹_› ?_ ?_; (· (simp only [inR, cmpP, loOk, hiOk, Int.ofNat_eq_natCast, Int.negSucc_eq, IntKind.bits, Int.toNat_natCast, ge_iff_le, gt_iff_lt, ne_eq, wl_len, hl_len, natCast_fold, not_true_eq_false, not_false_eq_true] at * <;> omega)); cbv; refine Good.add' ‹_› ?_ ?_; (· (simp only [inR, cmpP, loOk, hiOk, Int.ofNat_eq_natCast, Int.negSucc_eq, IntKind.bits, Int.toNat_natCast, ge_iff_le, gt_iff_lt, ne_eq, wl_len, hl_len, natCast_fold, not_true_eq_false, not_false_eq_true] at * <;> omega)); intro _ _; cbv)
    rename_i n2 hn2
    have hsame : fillE us os rs n2 = fillE us os rs a := fillE_need ⟨by (simp only [inR, cmpP, loOk, hiOk, Int.ofNat_eq_natCast, Int.negSucc_eq, IntKind.bits, Int.toNat_natCast, ge_iff_le, gt_iff_lt, ne_eq, wl_len, hl_len, natCast_fold, not_true_eq_false, not_false_eq_true] at * <;> omega), by (simp only [inR, cmpP, loOk, hiOk, Int.ofNat_eq_natCast, Int.negSucc_eq, IntKind.bits, Int.toNat_natCast, ge_iff_le, gt_iff_lt, ne_eq, wl_len, hl_len, natCast_fold, not_true_eq_false, not_false_eq_true] at * <;> omega)⟩ ⟨by (simp only [inR, cmpP, loOk, hiOk, Int.ofNat_eq_natCast, Int.negSucc_eq, IntKind.bits, Int.toNat_natCast, ge_iff_le, gt_iff_lt, ne_eq, wl_len, hl_len, natCast_fold, not_true_eq_false, not_false_eq_true] at * <;> omega), by (simp only [inR, cmpP, loOk, hiOk, Int.ofNat_eq_natCast, Int.negSucc_eq, IntKind.bits, Int.toNat_natCast, ge_iff_le, gt_iff_lt, ne_eq, wl_len, hl_len, natCast_fold, not_true_eq_false, not_false_eq_true] at * <;> omega)⟩
    refine fill_s h he hb hg hou (by omega) (by omega) (by omega) hrs (by decide) (by (simp only [inR, cmpP, loOk, hiOk, Int.ofNat_eq_natCast, Int.negSucc_eq, IntKind.bits, Int.toNat_natCast, ge_iff_le, gt_iff_lt, ne_eq, wl_len, hl_len, natCast_fold, not_true_eq_false, not_false_eq_true] at * <;> omega)) (fun e0 b1 z1 b2 z2 tk pr hq htk hpr => ?_) (fun e0 => ?_)
    · have e1 := e0
      rw [hsame] at e1
      cbv
      (refine Good.convi ‹_› ?_ ?_; (· (simp only [inR, cmpP, loOk, hiOk, Int.ofNat_eq_natCast, Int.negSucc_eq, IntKind.bits, Int.toNat_natCast, ge_iff_le, gt_iff_lt, ne_eq, wl_len, hl_len, natCast_fold, not_true_eq_false, not_false_eq_true] at * <;> omega)); cbv)
      refine fill_s h he hb hg hou (by omega) (by omega) (by omega) hrs (by decide) (by (simp only [inR, cmpP, loOk, hiOk, Int.ofNat_eq_natCast, Int.negSucc_eq, IntKind.bits, Int.toNat_natCast, ge_iff_le, gt_iff_lt, ne_eq, wl_len, hl_len, natCast_fold, not_true_eq_false, not_false_eq_true] at * <;> omega)) (fun e1 b3 z3 b4 z4 tk2 pr2 hq2 htk2 hpr2 => ?_) (fun e2 => absurd e1 e2)
      obtain ⟨e3, hrel⟩ := more_ok (b := b) e1 ⟨by (simp only [inR, cmpP, loOk, hiOk, Int.ofNat_eq_natCast, Int.negSucc_eq, IntKind.bits, Int.toNat_natCast, ge_iff_le, gt_iff_lt, ne_eq, wl_len, hl_len, natCast_fold, not_true_eq_false, not_false_eq_true] at * <;> omega), by (simp only [inR, cmpP, loOk, hiOk, Int.ofNat_eq_natCast, Int.negSucc_eq, IntKind.bits, Int.toNat_natCast, ge_iff_le, gt_iff_lt, ne_eq, wl_len, hl_len, natCast_fold, not_true_eq_false, not_false_eq_true] at * <;> omega)⟩
      obtain ⟨hlo, hlr, h5, hf1, hnb, hn0, hn1⟩ := fillE_len e1
      have hadd : (fillR us os rs (a + b)).short = (fillR us os rs a).short + (fillR us os (addR rs (fillR us os rs a).taken) b).short ∧ (∀ i, i < us.length → gR (fillR us os rs (a + b)).taken i = gR (fillR us os rs a).taken i + gR (fillR us os (addR rs (fillR us os rs a).taken) b).taken i) ∧
          (fillR us os rs (a + b)).price = max (fillR us os rs a).price (fillR us os (addR rs (fillR us os rs a).taken) b).price :=
        addn_all (ordF_ord us) (rho_ge hlo hlr hnb) (spn_ge hf1) (by omega) (by (simp only [inR, cmpP, loOk, hiOk, Int.ofNat_eq_natCast, Int.negSucc_eq, IntKind.bits, Int.toNat_natCast, ge_iff_le, gt_iff_lt, ne_eq, wl_len, hl_len, natCast_fold, not_true_eq_false, not_false_eq_true] at * <;> omega)) hrel
      have hn2e : n2 = a + b := by omega
      rw [← hn2e] at hadd
      obtain ⟨qa1, qa2⟩ := fillR_ql hrs (by decide) (show inR .i64 n2 by (simp only [inR, cmpP, loOk, hiOk, Int.ofNat_eq_natCast, Int.negSucc_eq, IntKind.bits, Int.toNat_natCast, ge_iff_le, gt_iff_lt, ne_eq, wl_len, hl_len, natCast_fold, not_true_eq_false, not_false_eq_true] at * <;> omega)) e0
      obtain ⟨qb1, qb2⟩ := fillR_ql hrs (by decide) (show inR .i64 a by (simp only [inR, cmpP, loOk, hiOk, Int.ofNat_eq_natCast, Int.negSucc_eq, IntKind.bits, Int.toNat_natCast, ge_iff_le, gt_iff_lt, ne_eq, wl_len, hl_len, natCast_fold, not_true_eq_false, not_false_eq_true] at * <;> omega)) e1
      have lenA : (fillR us os rs n2).taken.length = us.length := fillF_len _ _ _ _
      have lenB : (fillR us os rs a).taken.length = us.length := fillF_len _ _ _ _
      obtain ⟨A, hA⟩ : ∃ A, A = fillR us os rs n2 := ⟨_, rfl⟩
      obtain ⟨B, hB⟩ : ∃ B, B = fillR us os rs a := ⟨_, rfl⟩
      rw [← hA] at hq htk hpr hadd qa1 qa2 lenA
      rw [← hB] at hq2 htk2 hpr2 hadd qb1 qb2 lenB e3
      obtain ⟨ms, hms⟩ : ∃ ms, ms = addR rs B.taken := ⟨_, rfl⟩
      rw [← hms] at hadd e3
      have hml : ms.length = us.length := by rw [hms, addR_len (by omega), hlr]
      have hmq : ∀ (i : Nat) r, ms[i]? = some r → ql r ≤ 70 := fun i r hr => by
        have hi := (List.getElem?_eq_some_iff.1 hr).1
        obtain ⟨z, r0, g1, g2, g3⟩ := hrs.get (show i < rs.length by omega)
        have g4 := get_gR (l := B.taken) (i := i) (by omega)
        have g5 := addR_get g2 g4
        rw [← hms, hr] at g5
        have e := Option.some.inj g5
        have k1 := g3.ql
        have k2 := qb2 _ (List.mem_of_getElem? g4)
        have k3 := ql_add r0 (gR B.taken i)
        rw [e]
        omega
      have hmqs : Qrs (ms.map qqd) ms 70 := qcl_qrs fun r hr => by
        obtain ⟨i, hi⟩ := List.getElem?_of_mem hr
        exact hmq i r hi
      obtain ⟨qc1, qc2⟩ := fillR_ql hmqs (by decide) (show inR .i64 b by (simp only [inR, cmpP, loOk, hiOk, Int.ofNat_eq_natCast, Int.negSucc_eq, IntKind.bits, Int.toNat_natCast, ge_iff_le, gt_iff_lt, ne_eq, wl_len, hl_len, natCast_fold, not_true_eq_false, not_false_eq_true] at * <;> omega)) e3
      have lenC : (fillR us os ms b).taken.length = us.length := fillF_len _ _ _ _
      obtain ⟨C, hC⟩ : ∃ C, C = fillR us os ms b := ⟨_, rfl⟩
      rw [← hC] at hadd qc1 qc2 lenC
      obtain ⟨ha1, ha2, ha3⟩ := hadd
      have ltk : tk.length = us.length := by rw [htk, qcl_len, lenA]
      have ltk2 : tk2.length = us.length := by rw [htk2, qcl_len, lenB]
      cbv
      (refine Good.no ‹_› rfl ?_ ?_; (· (simp only [inR, cmpP, loOk, hiOk, Int.ofNat_eq_natCast, Int.negSucc_eq, IntKind.bits, Int.toNat_natCast, ge_iff_le, gt_iff_lt, ne_eq, wl_len, hl_len, natCast_fold, not_true_eq_false, not_false_eq_true] at * <;> omega)); cbv; refine Good.no ‹_› rfl ?_ ?_; (· (simp only [inR, cmpP, loOk, hiOk, Int.ofNat_eq_natCast, Int.negSucc_eq, IntKind.bits, Int.toNat_natCast, ge_iff_le, gt_iff_lt, ne_eq, wl_len, hl_len, natCast_fold, not_true_eq_false, not_false_eq_true] at * <;> omega)); cbv; refine Good.len' ‹_› ?_; intro _ _; cbv; refine Good.len' ‹_› ?_; intro _ _; cbv; refine Good.no ‹_› rfl ?_ ?_; (· (simp only [inR, cmpP, loOk, hiOk, Int.ofNat_eq_natCast, Int.negSucc_eq, IntKind.bits, Int.toNat_natCast, ge_iff_le, gt_iff_lt, ne_eq, wl_len, hl_len, natCast_fold, not_true_eq_false, not_false_eq_true] at * <;> omega)); cbv; refine Good.len' ‹_› ?_; intro _ _; cbv; refine Good.len' ‹_› ?_; intro _ _; cbv; refine Good.no ‹_› rfl ?_ ?_; (· (simp only [inR, cmpP, loOk, hiOk, Int.ofNat_eq_natCast, Int.negSucc_eq, IntKind.bits, Int.toNat_natCast, ge_iff_le, gt_iff_lt, ne_eq, wl_len, hl_len, natCast_fold, not_true_eq_false, not_false_eq_true] at * <;> omega)); cbv)
      refine h.loop' (Int × Nat × List (List D)) (fun p => p.1 = (p.2.1 : Int) ∧ p.2.1 ≤ us.length ∧ p.2.2 = qcl (ms.take p.2.1)) (fun p => ⟨[(0, .v (.one (.sl t 9 es))), (1, .v (.one (.sl t' 1 bs))), (2, .v (.one (.sl t'' 4 gs))), (4, .v (.one (.sc (.int .u16 b)))), (11, .v (.one (.sl 1 4 tk))), (12, vi .i64 pr), (13, .p 13 0 0 0), (15, .v (.one (.sl 1 4 tk2))), (16, vi .i64 pr2), (17, .p 17 0 0 0), (19, .ow 1000), (20, vi .i64 p.1)],
        [(13, .bx [.sc (.bool b1), .sl 1 1 z1, .sc (.bool b2), .sl 1 1 z2]), (17, .bx [.sc (.bool b3), .sl 1 1 z3, .sc (.bool b4), .sl 1 1 z4]), (1000, .ar 31 4 p.2.2)]⟩) (fun p => us.length - p.2.1) (0, 0, []) ⟨rfl, Nat.zero_le _, rfl⟩ (by (refine Wk.of [(13, some 13), (17, some 17), (1000, none)] rfl ?_ ?_; (· (repeat (first | exact trivial | (refine And.intro ?_ ?_; (· first | exact trivial | exact Or.inl ⟨_, rfl, rfl⟩ | exact ⟨_, rfl, rfl⟩ | exact Or.inr ⟨rfl, rfl, by decide⟩))))); (· (repeat (first | exact trivial | (refine And.intro ?_ ?_; (· first | exact trivial | exact Or.inl rfl | rfl | exact Or.inr ⟨_, _, _, _, rfl, rfl, rfl, renNo rfl⟩ | exact ⟨ne_no rfl, Or.inl ⟨_, rfl, rfl⟩⟩ | exact ⟨ne_no rfl, Or.inr ⟨rfl, _, rfl⟩⟩ | exact ⟨_, rfl, rfl, ne_no rfl⟩))))))) ?_
      rintro ⟨iz, i, arr⟩ R ⟨hiz, hi, harr⟩ hR
      simp only at hiz hi harr
      have hal : arr.length = i := by rw [harr, qcl_len, List.length_take, hml]; omega
      cbv
      (refine Good.len' ‹_› ?_; intro _ _; cbv)
      refine h.dec rfl (fun hp2 => ?_) (fun hp2 => ?_)
      · have hil : i < us.length := by (simp only [inR, cmpP, loOk, hiOk, Int.ofNat_eq_natCast, Int.negSucc_eq, IntKind.bits, Int.toNat_natCast, ge_iff_le, gt_iff_lt, ne_eq, wl_len, hl_len, natCast_fold, not_true_eq_false, not_false_eq_true] at * <;> omega)
        obtain ⟨zq, r, g1, g2, g3⟩ := hrs.get (show i < rs.length by omega)
        have hgg := qd_get g1
        rw [← hg] at hgg
        obtain ⟨zs1, zt, zx, zs2, zt', zy⟩ := zq
        simp only at hgg g3
        have g4 := get_gR (l := B.taken) (i := i) (by omega)
        obtain ⟨f, hf⟩ : ∃ f, f = gR B.taken i := ⟨_, rfl⟩
        rw [← hf] at g4
        have hmi := addR_get g2 g4
        rw [← hms] at hmi
        obtain ⟨d1, d2, d3, d4, kf, hgf⟩ := canon2 htk2 g4
        have lf := qb2 _ (List.mem_of_getElem? g4)
        have lr := g3.ql
        have hts := take_snoc' hmi
        cbv
        refine h.get' i _ hiz hgg ?_
        cbv
        refine h.get' i _ hiz hgf ?_
        cbv
        refine fadd_s h (l := 900) (g3.le (by omega)) (kf.r.le (by omega)) (by omega) fun d5 d6 d7 d8 km => ?_
        have ho := qcl_one km
        cbv
        skip
        refine h.app' (by decide) (fun y hy => by simp at hy; rw [hy]; rfl) (by simp [maxLen]; omega) (by simp; omega) fun arr2 harr2 => ?_
        rw [ho, harr, qcl_app, ← hts] at harr2
        cbv
        (refine Good.chk' ‹_› rfl ?_; cbv; refine Good.add' ‹_› ?_ ?_; (· (simp only [inR, cmpP, loOk, hiOk, Int.ofNat_eq_natCast, Int.negSucc_eq, IntKind.bits, Int.toNat_natCast, ge_iff_le, gt_iff_lt, ne_eq, wl_len, hl_len, natCast_fold, not_true_eq_false, not_false_eq_true] at * <;> omega)); intro _ _; cbv)
        rename_i i1 hi1
        refine hR _ (i1, i + 1, arr2) ⟨by simp only; (simp only [inR, cmpP, loOk, hiOk, Int.ofNat_eq_natCast, Int.negSucc_eq, IntKind.bits, Int.toNat_natCast, ge_iff_le, gt_iff_lt, ne_eq, wl_len, hl_len, natCast_fold, not_true_eq_false, not_false_eq_true] at * <;> omega), by simp only; omega, harr2⟩ (by simp only; omega) (by (refine Wk.of [(13, some 13), (17, some 17), (1000, some 94)] rfl ?_ ?_; (· (repeat (first | exact trivial | (refine And.intro ?_ ?_; (· first | exact trivial | exact Or.inl ⟨_, rfl, rfl⟩ | exact ⟨_, rfl, rfl⟩ | exact Or.inr ⟨rfl, rfl, by decide⟩))))); (· (repeat (first | exact trivial | (refine And.intro ?_ ?_; (· first | exact trivial | exact Or.inl rfl | rfl | exact Or.inr ⟨_, _, _, _, rfl, rfl, rfl, renNo rfl⟩ | exact ⟨ne_no rfl, Or.inl ⟨_, rfl, rfl⟩⟩ | exact ⟨ne_no rfl, Or.inr ⟨rfl, _, rfl⟩⟩ | exact ⟨_, rfl, rfl, ne_no rfl⟩)))))))
      · have hi2 : i = us.length := by (simp only [inR, cmpP, loOk, hiOk, Int.ofNat_eq_natCast, Int.negSucc_eq, IntKind.bits, Int.toNat_natCast, ge_iff_le, gt_iff_lt, ne_eq, wl_len, hl_len, natCast_fold, not_true_eq_false, not_false_eq_true] at * <;> omega)
        rw [hi2, ← hml, List.take_length, qcl_qqd] at harr
        cbv
        (refine Good.convi ‹_› ?_ ?_; (· (simp only [inR, cmpP, loOk, hiOk, Int.ofNat_eq_natCast, Int.negSucc_eq, IntKind.bits, Int.toNat_natCast, ge_iff_le, gt_iff_lt, ne_eq, wl_len, hl_len, natCast_fold, not_true_eq_false, not_false_eq_true] at * <;> omega)); cbv)
        refine fill_s h he hb harr hou (by omega) (by omega) (by simp; omega) hmqs (by decide) (by (simp only [inR, cmpP, loOk, hiOk, Int.ofNat_eq_natCast, Int.negSucc_eq, IntKind.bits, Int.toNat_natCast, ge_iff_le, gt_iff_lt, ne_eq, wl_len, hl_len, natCast_fold, not_true_eq_false, not_false_eq_true] at * <;> omega)) (fun _ b5 z5 b6 z6 tk3 pr3 hq3 htk3 hpr3 => ?_) (fun e4 => absurd e3 e4)
        rw [← hC] at hq3 htk3 hpr3
        have ltk3 : tk3.length = us.length := by rw [htk3, qcl_len, lenC]
        have hmax : pr = max pr2 pr3 := by rw [hpr, hpr2, hpr3]; exact ha3
        have lst := ql_add B.short C.short
        cbv
        (refine Good.no ‹_› rfl ?_ ?_; (· (simp only [inR, cmpP, loOk, hiOk, Int.ofNat_eq_natCast, Int.negSucc_eq, IntKind.bits, Int.toNat_natCast, ge_iff_le, gt_iff_lt, ne_eq, wl_len, hl_len, natCast_fold, not_true_eq_false, not_false_eq_true] at * <;> omega)); cbv; refine Good.len' ‹_› ?_; intro _ _; cbv; refine Good.len' ‹_› ?_; intro _ _; cbv; refine Good.no ‹_› rfl ?_ ?_; (· (simp only [inR, cmpP, loOk, hiOk, Int.ofNat_eq_natCast, Int.negSucc_eq, IntKind.bits, Int.toNat_natCast, ge_iff_le, gt_iff_lt, ne_eq, wl_len, hl_len, natCast_fold, not_true_eq_false, not_false_eq_true] at * <;> omega)); cbv)
        refine h.dec rfl (fun hp3 => ?_) (fun hp3 => ?_)
        · (cbv
           (refine Good.no ‹_› rfl ?_ ?_; (· (simp only [inR, cmpP, loOk, hiOk, Int.ofNat_eq_natCast, Int.negSucc_eq, IntKind.bits, Int.toNat_natCast, ge_iff_le, gt_iff_lt, ne_eq, wl_len, hl_len, natCast_fold, not_true_eq_false, not_false_eq_true] at * <;> omega)); cbv)
           refine fadd_s h (l := 900) (hq2.r.le (by omega)) (hq3.r.le (by omega)) (by omega) fun d5 d6 d7 d8 km => ?_
           cbv
           refine fequal_s h (l := 900) (hq.r.le (by omega)) (km.r.le (by omega)) (by omega) fun c hc => ?_
           have hc : c = true := by rw [hc]; exact decide_eq_true ha1
           subst hc
           cbv
           (refine Good.chk' ‹_› rfl ?_; cbv)
           clear hR hiz hi harr hal hp2 hi2 hq hq2 hq3 hpr hpr2 hpr3 hmax hp3 ha1 ha3 lst hmqs hmq hml hms qa1 qb1 qc1 hrel hlo hlr h5 hf1 hnb hn0 hn1 e1 e0 e3 hsame hn2e hn2 hrs hou hs ho hz hma hmb l2 l3 lbl he hb hg km hA hB hC
           refine h.loop' (Int × Nat) (fun p => p.1 = (p.2 : Int) ∧ p.2 ≤ us.length) (fun p => ⟨[(0, .v (.one (.sl t 9 es))), (11, .v (.one (.sl 1 4 tk))), (15, .v (.one (.sl 1 4 tk2))), (21, .v (.one (.sl 1 4 tk3))), (25, vi .i64 p.1)], []⟩) (fun p => us.length - p.2) (0, 0) ⟨rfl, Nat.zero_le _⟩ (by (refine Wk.of [] rfl ?_ ?_; (· (repeat (first | exact trivial | (refine And.intro ?_ ?_; (· first | exact trivial | exact Or.inl ⟨_, rfl, rfl⟩ | exact ⟨_, rfl, rfl⟩ | exact Or.inr ⟨rfl, rfl, by decide⟩))))); (· (repeat (first | exact trivial | (refine And.intro ?_ ?_; (· first | exact trivial | exact Or.inl rfl | rfl | exact Or.inr ⟨_, _, _, _, rfl, rfl, rfl, renNo rfl⟩ | exact ⟨ne_no rfl, Or.inl ⟨_, rfl, rfl⟩⟩ | exact ⟨ne_no rfl, Or.inr ⟨rfl, _, rfl⟩⟩ | exact ⟨_, rfl, rfl, ne_no rfl⟩))))))) ?_
           rintro ⟨jz, j⟩ R2 ⟨hjz, hj⟩ hR2
           simp only at hjz hj
           cbv
           (refine Good.len' ‹_› ?_; intro _ _; cbv)
           refine h.dec rfl (fun hp4 => ?_) (fun hp4 => ?_)
           · have hjl : j < us.length := by (simp only [inR, cmpP, loOk, hiOk, Int.ofNat_eq_natCast, Int.negSucc_eq, IntKind.bits, Int.toNat_natCast, ge_iff_le, gt_iff_lt, ne_eq, wl_len, hl_len, natCast_fold, not_true_eq_false, not_false_eq_true] at * <;> omega)
             have ga := get_gR (l := A.taken) (i := j) (by omega)
             have gb := get_gR (l := B.taken) (i := j) (by omega)
             have gc := get_gR (l := C.taken) (i := j) (by omega)
             obtain ⟨p1, p2, p3, p4, ka, hga⟩ := canon2 htk ga
             obtain ⟨p5, p6, p7, p8, kb, hgb⟩ := canon2 htk2 gb
             obtain ⟨p9, p10, p11, p12, kc, hgc⟩ := canon2 htk3 gc
             have la := qa2 _ (List.mem_of_getElem? ga)
             have lb := qb2 _ (List.mem_of_getElem? gb)
             have lc := qc2 _ (List.mem_of_getElem? gc)
             have hsum := ha2 j hjl
             have lbc := ql_add (gR B.taken j) (gR C.taken j)
             obtain ⟨xa, hxa⟩ : ∃ xa, xa = gR A.taken j := ⟨_, rfl⟩
             obtain ⟨xb, hxb⟩ : ∃ xb, xb = gR B.taken j := ⟨_, rfl⟩
             obtain ⟨xc, hxc⟩ : ∃ xc, xc = gR C.taken j := ⟨_, rfl⟩
             rw [← hxa] at ka la hsum
             rw [← hxb] at kb lb hsum lbc
             rw [← hxc] at kc lc hsum lbc
             clear ga gb gc hxa hxb hxc
             cbv
             refine h.get' j _ hjz hga ?_
             cbv
             refine h.get' j _ hjz hgb ?_
             cbv
             refine h.get' j _ hjz hgc ?_
             cbv
             refine fadd_s h (l := 900) (kb.r.le (by omega)) (kc.r.le (by omega)) (by omega) fun d5 d6 d7 d8 km => ?_
             cbv
             refine fequal_s h (l := 900) (ka.r.le (by omega)) (km.r.le (by omega)) (by omega) fun c hc => ?_
             have hc : c = true := by rw [hc]; exact decide_eq_true hsum
             subst hc
             cbv
             (refine Good.chk' ‹_› rfl ?_; cbv; refine Good.add' ‹_› ?_ ?_; (· (simp only [inR, cmpP, loOk, hiOk, Int.ofNat_eq_natCast, Int.negSucc_eq, IntKind.bits, Int.toNat_natCast, ge_iff_le, gt_iff_lt, ne_eq, wl_len, hl_len, natCast_fold, not_true_eq_false, not_false_eq_true] at * <;> omega)); intro _ _; cbv)
             rename_i j1 hj1
             refine hR2 _ (j1, j + 1) ⟨by simp only; (simp only [inR, cmpP, loOk, hiOk, Int.ofNat_eq_natCast, Int.negSucc_eq, IntKind.bits, Int.toNat_natCast, ge_iff_le, gt_iff_lt, ne_eq, wl_len, hl_len, natCast_fold, not_true_eq_false, not_false_eq_true] at * <;> omega), by simp only; omega⟩ (by simp only; omega) (by (refine Wk.of [] rfl ?_ ?_; (· (repeat (first | exact trivial | (refine And.intro ?_ ?_; (· first | exact trivial | exact Or.inl ⟨_, rfl, rfl⟩ | exact ⟨_, rfl, rfl⟩ | exact Or.inr ⟨rfl, rfl, by decide⟩))))); (· (repeat (first | exact trivial | (refine And.intro ?_ ?_; (· first | exact trivial | exact Or.inl rfl | rfl | exact Or.inr ⟨_, _, _, _, rfl, rfl, rfl, renNo rfl⟩ | exact ⟨ne_no rfl, Or.inl ⟨_, rfl, rfl⟩⟩ | exact ⟨ne_no rfl, Or.inr ⟨rfl, _, rfl⟩⟩ | exact ⟨_, rfl, rfl, ne_no rfl⟩)))))))
           · cbv
             skip
             exact hQ
          )
        · (cbv
           (refine Good.no ‹_› rfl ?_ ?_; (· (simp only [inR, cmpP, loOk, hiOk, Int.ofNat_eq_natCast, Int.negSucc_eq, IntKind.bits, Int.toNat_natCast, ge_iff_le, gt_iff_lt, ne_eq, wl_len, hl_len, natCast_fold, not_true_eq_false, not_false_eq_true] at * <;> omega)); cbv)
           refine fadd_s h (l := 900) (hq2.r.le (by omega)) (hq3.r.le (by omega)) (by omega) fun d5 d6 d7 d8 km => ?_
           cbv
           refine fequal_s h (l := 900) (hq.r.le (by omega)) (km.r.le (by omega)) (by omega) fun c hc => ?_
           have hc : c = true := by rw [hc]; exact decide_eq_true ha1
           subst hc
           cbv
           (refine Good.chk' ‹_› rfl ?_; cbv)
           clear hR hiz hi harr hal hp2 hi2 hq hq2 hq3 hpr hpr2 hpr3 hmax hp3 ha1 ha3 lst hmqs hmq hml hms qa1 qb1 qc1 hrel hlo hlr h5 hf1 hnb hn0 hn1 e1 e0 e3 hsame hn2e hn2 hrs hou hs ho hz hma hmb l2 l3 lbl he hb hg km hA hB hC
           refine h.loop' (Int × Nat) (fun p => p.1 = (p.2 : Int) ∧ p.2 ≤ us.length) (fun p => ⟨[(0, .v (.one (.sl t 9 es))), (11, .v (.one (.sl 1 4 tk))), (15, .v (.one (.sl 1 4 tk2))), (21, .v (.one (.sl 1 4 tk3))), (25, vi .i64 p.1)], []⟩) (fun p => us.length - p.2) (0, 0) ⟨rfl, Nat.zero_le _⟩ (by (refine Wk.of [] rfl ?_ ?_; (· (repeat (first | exact trivial | (refine And.intro ?_ ?_; (· first | exact trivial | exact Or.inl ⟨_, rfl, rfl⟩ | exact ⟨_, rfl, rfl⟩ | exact Or.inr ⟨rfl, rfl, by decide⟩))))); (· (repeat (first | exact trivial | (refine And.intro ?_ ?_; (· first | exact trivial | exact Or.inl rfl | rfl | exact Or.inr ⟨_, _, _, _, rfl, rfl, rfl, renNo rfl⟩ | exact ⟨ne_no rfl, Or.inl ⟨_, rfl, rfl⟩⟩ | exact ⟨ne_no rfl, Or.inr ⟨rfl, _, rfl⟩⟩ | exact ⟨_, rfl, rfl, ne_no rfl⟩))))))) ?_
           rintro ⟨jz, j⟩ R2 ⟨hjz, hj⟩ hR2
           simp only at hjz hj
           cbv
           (refine Good.len' ‹_› ?_; intro _ _; cbv)
           refine h.dec rfl (fun hp4 => ?_) (fun hp4 => ?_)
           · have hjl : j < us.length := by (simp only [inR, cmpP, loOk, hiOk, Int.ofNat_eq_natCast, Int.negSucc_eq, IntKind.bits, Int.toNat_natCast, ge_iff_le, gt_iff_lt, ne_eq, wl_len, hl_len, natCast_fold, not_true_eq_false, not_false_eq_true] at * <;> omega)
             have ga := get_gR (l := A.taken) (i := j) (by omega)
             have gb := get_gR (l := B.taken) (i := j) (by omega)
             have gc := get_gR (l := C.taken) (i := j) (by omega)
             obtain ⟨p1, p2, p3, p4, ka, hga⟩ := canon2 htk ga
             obtain ⟨p5, p6, p7, p8, kb, hgb⟩ := canon2 htk2 gb
             obtain ⟨p9, p10, p11, p12, kc, hgc⟩ := canon2 htk3 gc
             have la := qa2 _ (List.mem_of_getElem? ga)
             have lb := qb2 _ (List.mem_of_getElem? gb)
             have lc := qc2 _ (List.mem_of_getElem? gc)
             have hsum := ha2 j hjl
             have lbc := ql_add (gR B.taken j) (gR C.taken j)
             obtain ⟨xa, hxa⟩ : ∃ xa, xa = gR A.taken j := ⟨_, rfl⟩
             obtain ⟨xb, hxb⟩ : ∃ xb, xb = gR B.taken j := ⟨_, rfl⟩
             obtain ⟨xc, hxc⟩ : ∃ xc, xc = gR C.taken j := ⟨_, rfl⟩
             rw [← hxa] at ka la hsum
             rw [← hxb] at kb lb hsum lbc
             rw [← hxc] at kc lc hsum lbc
             clear ga gb gc hxa hxb hxc
             cbv
             refine h.get' j _ hjz hga ?_
             cbv
             refine h.get' j _ hjz hgb ?_
             cbv
             refine h.get' j _ hjz hgc ?_
             cbv
             refine fadd_s h (l := 900) (kb.r.le (by omega)) (kc.r.le (by omega)) (by omega) fun d5 d6 d7 d8 km => ?_
             cbv
             refine fequal_s h (l := 900) (ka.r.le (by omega)) (km.r.le (by omega)) (by omega) fun c hc => ?_
             have hc : c = true := by rw [hc]; exact decide_eq_true hsum
             subst hc
             cbv
             (refine Good.chk' ‹_› rfl ?_; cbv; refine Good.add' ‹_› ?_ ?_; (· (simp only [inR, cmpP, loOk, hiOk, Int.ofNat_eq_natCast, Int.negSucc_eq, IntKind.bits, Int.toNat_natCast, ge_iff_le, gt_iff_lt, ne_eq, wl_len, hl_len, natCast_fold, not_true_eq_false, not_false_eq_true] at * <;> omega)); intro _ _; cbv)
             rename_i j1 hj1
             refine hR2 _ (j1, j + 1) ⟨by simp only; (simp only [inR, cmpP, loOk, hiOk, Int.ofNat_eq_natCast, Int.negSucc_eq, IntKind.bits, Int.toNat_natCast, ge_iff_le, gt_iff_lt, ne_eq, wl_len, hl_len, natCast_fold, not_true_eq_false, not_false_eq_true] at * <;> omega), by simp only; omega⟩ (by simp only; omega) (by (refine Wk.of [] rfl ?_ ?_; (· (repeat (first | exact trivial | (refine And.intro ?_ ?_; (· first | exact trivial | exact Or.inl ⟨_, rfl, rfl⟩ | exact ⟨_, rfl, rfl⟩ | exact Or.inr ⟨rfl, rfl, by decide⟩))))); (· (repeat (first | exact trivial | (refine And.intro ?_ ?_; (· first | exact trivial | exact Or.inl rfl | rfl | exact Or.inr ⟨_, _, _, _, rfl, rfl, rfl, renNo rfl⟩ | exact ⟨ne_no rfl, Or.inl ⟨_, rfl, rfl⟩⟩ | exact ⟨ne_no rfl, Or.inr ⟨rfl, _, rfl⟩⟩ | exact ⟨_, rfl, rfl, ne_no rfl⟩)))))))
           · cbv
             skip
             exact hQ
          )
    · have e1 := e0
      rw [hsame] at e1
      obtain ⟨e, hee⟩ : ∃ e, e = fillE us os rs n2 := ⟨_, rfl⟩
      rw [← hee] at e0 hsame ⊢
      cbv
      (refine Good.convi ‹_› ?_ ?_; (· (simp only [inR, cmpP, loOk, hiOk, Int.ofNat_eq_natCast, Int.negSucc_eq, IntKind.bits, Int.toNat_natCast, ge_iff_le, gt_iff_lt, ne_eq, wl_len, hl_len, natCast_fold, not_true_eq_false, not_false_eq_true] at * <;> omega)); cbv)
      refine fill_s h he hb hg hou (by omega) (by omega) (by omega) hrs (by decide) (by (simp only [inR, cmpP, loOk, hiOk, Int.ofNat_eq_natCast, Int.negSucc_eq, IntKind.bits, Int.toNat_natCast, ge_iff_le, gt_iff_lt, ne_eq, wl_len, hl_len, natCast_fold, not_true_eq_false, not_false_eq_true] at * <;> omega)) (fun e2 => absurd e2 e1) (fun e2 => ?_)
      obtain ⟨e', hee'⟩ : ∃ e', e' = fillE us os rs a := ⟨_, rfl⟩
      rw [← hee'] at e2 hsame ⊢
      have hsame : e = e' := hsame
      clear hee hee' e1
      subst hsame
      cbv
      (refine Good.no ‹_› rfl ?_ ?_; (· (simp only [inR, cmpP, loOk, hiOk, Int.ofNat_eq_natCast, Int.negSucc_eq, IntKind.bits, Int.toNat_natCast, ge_iff_le, gt_iff_lt, ne_eq, wl_len, hl_len, natCast_fold, not_true_eq_false, not_false_eq_true] at * <;> omega)); cbv; refine Good.yes ‹_› ?_ ?_; (· (simp only [inR, cmpP, loOk, hiOk, Int.ofNat_eq_natCast, Int.negSucc_eq, IntKind.bits, Int.toNat_natCast, ge_iff_le, gt_iff_lt, ne_eq, wl_len, hl_len, natCast_fold, not_true_eq_false, not_false_eq_true] at * <;> omega)); cbv)
      exact hQ
end Go.Proofs.YtpmlocilhhjifaaGreat.Eng
