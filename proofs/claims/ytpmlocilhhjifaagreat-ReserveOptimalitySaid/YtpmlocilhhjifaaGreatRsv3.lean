/- Rationals in slices; reserve.rooms. -/
import Derived.Test.YtpmlocilhhjifaaGreatQst
import Derived.Test.YtpmlocilhhjifaaGreatUnt2
section
set_option maxRecDepth 100000
set_option linter.unusedSimpArgs false
set_option linter.unusedVariables false
set_option pp.maxSteps 200
namespace Go.Proofs.YtpmlocilhhjifaaGreat.Eng
open Go.RowKit Go.Proofs
/-- A canonical rational as it lies in a slice. -/
def qcell (q : Rat) : List D := [.sc (.bool (decide (q.num < 0))), .sl 1 1 (wl (dg BW q.num.natAbs)), .sc (.bool false), .sl 1 1 (if q.den = 1 then [] else wl (dg BW q.den))]
theorem Qc.cell {b b' : Bool} {z z' : List (List D)} {q : Rat} (h : Qc b z b' z' q) : [.sc (.bool b), .sl 1 1 z, .sc (.bool b'), .sl 1 1 z'] = qcell q := by
  obtain ⟨⟨h1, h2⟩, h3⟩ := h
  unfold qcell
  by_cases hd : q.den = 1
  · rw [if_pos hd] at h3 ⊢
    rw [h1, h2, h3.1, h3.2]
  · rw [if_neg hd] at h3 ⊢
    obtain ⟨h3, h4⟩ := h3
    rw [h1, h2, h3, h4]
    have : decide ((q.den : Int) < 0) = false := decide_eq_false (by omega)
    rw [this, Int.natAbs_natCast]
theorem qcell_ex (q : Rat) : ∃ b z b' z', Qc b z b' z' q ∧ qcell q = [.sc (.bool b), .sl 1 1 z, .sc (.bool b'), .sl 1 1 z'] := by
  obtain ⟨b, z, b', z', h⟩ := qcx q
  exact ⟨b, z, b', z', h, h.cell.symm⟩
theorem qcell_zero : qcell 0 = [.sc (.bool false), .sl 1 1 [], .sc (.bool false), .sl 1 1 []] := by
  have h : Qc false [] false [] (0 : Rat) := ⟨⟨by decide, rfl⟩, by rw [if_pos (show (0 : Rat).den = 1 from rfl)]; exact ⟨rfl, rfl⟩⟩
  exact h.cell.symm
def qcl (rs : List Rat) : List (List D) := rs.map qcell
theorem qcl_len (rs : List Rat) : (qcl rs).length = rs.length := by simp [qcl]
theorem qcl_get {rs : List Rat} {i : Nat} {r : Rat} (h : rs[i]? = some r) : (qcl rs)[i]? = some (qcell r) := by simp [qcl, h]
theorem qcl_set (rs : List Rat) (i : Nat) (r : Rat) : (qcl rs).set i (qcell r) = qcl (rs.set i r) := by simp [qcl]
theorem qcl_rep (n : Nat) : List.replicate n [D.sc (.bool false), D.sl 1 1 [], D.sc (.bool false), D.sl 1 1 []] = qcl (List.replicate n 0) := by simp [qcl, qcell_zero]
theorem qcl_four {rs : List Rat} {y : List D} (h : y ∈ qcl rs) : y.length = 4 := by
  simp only [qcl, List.mem_map] at h; obtain ⟨_, _, rfl⟩ := h; rfl
/-- A rational in any form, as it lies in a slice. -/
structure QD where
  s : Bool
  t : Nat
  xs : List (List D)
  s' : Bool
  t' : Nat
  ys : List (List D)
def QD.cell (z : QD) : List D := [.sc (.bool z.s), .sl z.t 1 z.xs, .sc (.bool z.s'), .sl z.t' 1 z.ys]
/-- Rationals in any form, of at most L words. -/
def Qrs (zs : List QD) (rs : List Rat) (L : Nat) : Prop := zs.length = rs.length ∧ ∀ (i : Nat) z r, zs[i]? = some z → rs[i]? = some r → Qr z.s z.xs z.s' z.ys r L
theorem Qrs.get {zs : List QD} {rs : List Rat} {L i : Nat} (h : Qrs zs rs L) (hi : i < rs.length) : ∃ z r, zs[i]? = some z ∧ rs[i]? = some r ∧ Qr z.s z.xs z.s' z.ys r L := by
  obtain ⟨h1, h2⟩ := h
  exact ⟨zs[i]'(by omega), rs[i], List.getElem?_eq_getElem _, List.getElem?_eq_getElem _, h2 i _ _ (List.getElem?_eq_getElem _) (List.getElem?_eq_getElem _)⟩
theorem qd_get {zs : List QD} {i : Nat} {z : QD} (h : zs[i]? = some z) : (zs.map QD.cell)[i]? = some [.sc (.bool z.s), .sl z.t 1 z.xs, .sc (.bool z.s'), .sl z.t' 1 z.ys] := by simp [h, QD.cell]
/-- A canonical one as one in any form. -/
def qqd (q : Rat) : QD := ⟨decide (q.num < 0), 1, wl (dg BW q.num.natAbs), false, 1, if q.den = 1 then [] else wl (dg BW q.den)⟩
theorem qcl_qqd (rs : List Rat) : qcl rs = (rs.map qqd).map QD.cell := by
  unfold qcl
  rw [List.map_map]
  rfl
theorem qqd_qr (q : Rat) : Qr (qqd q).s (qqd q).xs (qqd q).s' (qqd q).ys q (ql q) := by
  obtain ⟨b, z, b', z', h⟩ := qcx q
  have e := h.cell
  unfold qcell at e
  simp only [List.cons.injEq, D.sc.injEq, Value.bool.injEq, D.sl.injEq, true_and, and_true] at e
  obtain ⟨e1, e2, e3, e4⟩ := e
  have := h.r
  rw [e1, e2, e3, e4] at this
  exact this
theorem qcl_qrs {rs : List Rat} {L : Nat} (h : ∀ r ∈ rs, ql r ≤ L) : Qrs (rs.map qqd) rs L := by
  refine ⟨by simp, fun i z r hz hr => ?_⟩
  rw [List.getElem?_map, hr] at hz
  simp only [Option.map_some, Option.some.injEq] at hz
  subst hz
  exact (qqd_qr r).le (h r (List.mem_of_getElem? hr))
def bl (l : List Bool) : List (List D) := l.map fun b => [.sc (.bool b)]
theorem bl_len (l : List Bool) : (bl l).length = l.length := by simp [bl]
theorem bl_get {l : List Bool} {i : Nat} {b : Bool} (h : l[i]? = some b) : (bl l)[i]? = some [.sc (.bool b)] := by simp [bl, h]
/-- The unused capacity. -/
def rmQ (u : UD) (o : Bool) (r : Rat) : Rat := (((if o then maxE u.steps else 0 : Int)) : Rat) - r
structure Rooms (us : List UD) (os : List Bool) (rs rms : List Rat) : Prop where
  los : os.length = us.length
  lrs : rs.length = us.length
  lrm : rms.length = us.length
  at' : ∀ (i : Nat) u o r, us[i]? = some u → os[i]? = some o → rs[i]? = some r → rms[i]? = some (rmQ u o r)
def badR (rs rms : List Rat) : Prop := ∃ (i : Nat) (r m : Rat), rs[i]? = some r ∧ rms[i]? = some m ∧ (r < 0 ∨ m < 0)
theorem sgnQ_neg' {q : Rat} : sgnQ q < 0 ↔ q < 0 := by
  rcases sgnQ_cases q with ⟨h, k⟩ | ⟨h, k⟩ | ⟨h, k⟩
  · exact ⟨fun _ => h, fun _ => by omega⟩
  · exact ⟨fun _ => by omega, fun h' => by subst h; exact absurd h' (by decide)⟩
  · exact ⟨fun _ => by omega, fun h' => by exfalso; grind⟩
theorem sgnQ_pos' {q : Rat} : 0 < sgnQ q ↔ 0 < q := by
  rcases sgnQ_cases q with ⟨h, k⟩ | ⟨h, k⟩ | ⟨h, k⟩
  · exact ⟨fun _ => by omega, fun h' => by exfalso; grind⟩
  · exact ⟨fun _ => by omega, fun h' => by subst h; exact absurd h' (by decide)⟩
  · exact ⟨fun _ => h, fun _ => by omega⟩
theorem sgnQ_le' {q : Rat} : sgnQ q ≤ 0 ↔ q ≤ 0 := by
  rcases sgnQ_cases q with ⟨h, k⟩ | ⟨h, k⟩ | ⟨h, k⟩
  · exact ⟨fun _ => by grind, fun _ => by omega⟩
  · exact ⟨fun _ => by grind, fun _ => by omega⟩
  · exact ⟨fun _ => by omega, fun h' => by exfalso; grind⟩
theorem ql_int (n : Int) : ql (n : Rat) ≤ max (dg BW n.natAbs).length 1 := by
  obtain ⟨b, z, h⟩ := zcx n
  exact (int_qr h.r).ql
theorem len1 {n : Int} (h1 : -4294967296 < n) (h2 : n < 4294967296) : (dg BW n.natAbs).length ≤ 1 := dg_len BW2 (by rw [Nat.pow_one, BW_eq]; omega)
theorem len2' {n : Int} (h : inR .i64 n) : (dg BW n.natAbs).length ≤ 2 := dg_len BW2 (by simp only [inR] at h; rw [show BW ^ 2 = 18446744073709551616 by decide]; omega)
theorem rmQ_ql {u : UD} {o : Bool} {r : Rat} {L : Nat} (h : ql r ≤ L) : ql (rmQ u o r) ≤ L + 2 := by
  unfold rmQ
  have h1 := ql_sub (((if o then maxE u.steps else 0 : Int)) : Rat) r
  have h2 := maxE_le u.steps
  have h3 := ql_int (if o then maxE u.steps else 0)
  have h4 : (dg BW (if o then maxE u.steps else 0).natAbs).length ≤ 1 := len1 (by split <;> omega) (by split <;> omega)
  omega
end Go.Proofs.YtpmlocilhhjifaaGreat.Eng
end
section
set_option maxRecDepth 100000
set_option linter.unusedSimpArgs false
set_option linter.unusedVariables false
set_option pp.maxSteps 200
namespace Go.Proofs.YtpmlocilhhjifaaGreat.Eng
open Go.RowKit Go.Proofs
theorem rooms_get {us : List UD} {os : List Bool} {rs rms : List Rat} (h : Rooms us os rs rms) {i : Nat} (hi : i < us.length) : ∃ u o r, us[i]? = some u ∧ os[i]? = some o ∧ rs[i]? = some r ∧ rms[i]? = some (rmQ u o r) := by
  have h1 := h.los
  have h2 := h.lrs
  refine ⟨us[i], os[i]'(by omega), rs[i]'(by omega), List.getElem?_eq_getElem _, List.getElem?_eq_getElem _, List.getElem?_eq_getElem _, ?_⟩
  exact h.at' i _ _ _ (List.getElem?_eq_getElem _) (List.getElem?_eq_getElem _) (List.getElem?_eq_getElem _)
theorem set_fill {rms : List Rat} {i n : Nat} {m : Rat} (hn : rms.length = n) (h : rms[i]? = some m) : (rms.take i ++ List.replicate (n - i) 0).set i m = rms.take (i + 1) ++ List.replicate (n - (i + 1)) 0 := by
  have hi := (List.getElem?_eq_some_iff.1 h).1
  rw [List.set_append_right _ _ (by simp; omega), List.take_add_one, h]
  have : (rms.take i).length = i := by simp; omega
  rw [this, Nat.sub_self, show n - i = (n - (i + 1)) + 1 by omega, List.replicate_succ]
  simp
variable {t t' t'' : Nat} {us : List UD} {os : List Bool} {rs rms : List Rat} {es bs gs : List (List D)} {zs : List QD} {L : Nat}
set_option maxHeartbeats 8000000 in
theorem rooms_b (he : es = us.map UD.cell) (hb' : bs = bl os) (hg' : gs = zs.map QD.cell) (ho : ∀ u ∈ us, u.Ok) (hl : us.length ≤ 1000) (hz : Qrs zs rs L) (hL : L ≤ 100) (hr : Rooms us os rs rms) {ms : List (List D)} (hms : ms = qcl rms)
    {π : Pi} (h : Good TT π) {Q : List DV → Prop} (hQ1 : ¬ badR rs rms → Q [.one (.sl 1 4 ms), .one (.sc (.bool true))]) (hQ2 : badR rs rms → Q [.one (.sl 3 4 []), .one (.sc (.bool false))]) : abody π ty Tryz.f37 [.one (.sl t 9 es), .one (.sl t' 1 bs), .one (.sl t'' 4 gs)] Q := by
  (have hle : es.length = us.length := by rw [he]; simp
   have hn1 := hr.los
   have hn2 := hr.lrs
   have hn3 := hr.lrm
   cbv
   (refine Good.len' ‹_› ?_; intro _ _; cbv)
   refine h.mks' us.length (by (simp only [inR, cmpP, loOk, hiOk, Int.ofNat_eq_natCast, Int.negSucc_eq, IntKind.bits, Int.toNat_natCast, ge_iff_le, gt_iff_lt, ne_eq, wl_len, hl_len, natCast_fold, not_true_eq_false, not_false_eq_true] at * <;> omega)) (by (simp only [inR, cmpP, loOk, hiOk, Int.ofNat_eq_natCast, Int.negSucc_eq, IntKind.bits, Int.toNat_natCast, ge_iff_le, gt_iff_lt, ne_eq, wl_len, hl_len, natCast_fold, not_true_eq_false, not_false_eq_true] at * <;> omega)) (by omega) (by simp [maxLen]; omega) (by simp) fun a0 ha0 => ?_
   rw [qcl_rep] at ha0
   cbv
   (refine Good.len' ‹_› ?_; intro _ _; cbv)
   rename_i nl hnl
   refine h.loop' (Int × Nat × List (List D)) (fun p => p.1 = (p.2.1 : Int) ∧ p.2.1 ≤ us.length ∧ p.2.2 = qcl (rms.take p.2.1 ++ List.replicate (us.length - p.2.1) 0) ∧ ∀ (j : Nat) r m, j < p.2.1 → rs[j]? = some r → rms[j]? = some m → ¬ r < 0 ∧ ¬ m < 0) (fun p => ⟨[(0, .v (.one (.sl t 9 es))), (1, .v (.one (.sl t' 1 bs))), (2, .v (.one (.sl t'' 4 gs))), (8, .ow 14), (15, .v (.one (.sl t 9 es))), (16, vi .i64 nl), (17, vi .i64 p.1)], [(14, .ar 31 4 p.2.2)]⟩) (fun p => us.length - p.2.1) (0, 0, a0) ⟨rfl, Nat.zero_le _, by rw [ha0]; rfl, fun j r m hj => absurd hj (Nat.not_lt_zero _)⟩ (by (refine Wk.of [(14, some 14)] rfl ?_ ?_; (· (repeat (first | exact trivial | (refine And.intro ?_ ?_; (· first | exact trivial | exact Or.inl ⟨_, rfl, rfl⟩ | exact ⟨_, rfl, rfl⟩ | exact Or.inr ⟨rfl, rfl, by decide⟩))))); (· (repeat (first | exact trivial | (refine And.intro ?_ ?_; (· first | exact trivial | exact Or.inl rfl | rfl | exact Or.inr ⟨_, _, _, _, rfl, rfl, rfl, renNo rfl⟩ | exact ⟨ne_no rfl, Or.inl ⟨_, rfl, rfl⟩⟩ | exact ⟨ne_no rfl, Or.inr ⟨rfl, _, rfl⟩⟩ | exact ⟨_, rfl, rfl, ne_no rfl⟩))))))) ?_
   rintro ⟨iz, i, arr⟩ R ⟨hiz, hi, ha, hok⟩ hR
   simp only at hiz hi ha hok
   have hal : arr.length = us.length := by rw [ha, qcl_len]; simp; omega
   cbv
   refine h.dec rfl (fun hp => ?_) (fun hp => ?_)
   · obtain ⟨u, o, r, g1, g2, g3, g4⟩ := rooms_get hr (show i < us.length by (simp only [inR, cmpP, loOk, hiOk, Int.ofNat_eq_natCast, Int.negSucc_eq, IntKind.bits, Int.toNat_natCast, ge_iff_le, gt_iff_lt, ne_eq, wl_len, hl_len, natCast_fold, not_true_eq_false, not_false_eq_true] at * <;> omega))
     obtain ⟨z, r', g5, g6, g7⟩ := hz.get (show i < rs.length by (simp only [inR, cmpP, loOk, hiOk, Int.ofNat_eq_natCast, Int.negSucc_eq, IntKind.bits, Int.toNat_natCast, ge_iff_le, gt_iff_lt, ne_eq, wl_len, hl_len, natCast_fold, not_true_eq_false, not_false_eq_true] at * <;> omega))
     rw [g3] at g6
     cases g6
     have hge := ud_get g1
     rw [← he] at hge
     obtain ⟨ss, hss⟩ : ∃ ss, ss = stl u.steps := ⟨_, rfl⟩
     rw [← hss] at hge
     have hb := bl_get g2
     rw [← hb'] at hb
     have hg := qd_get g5
     rw [← hg'] at hg
     have hqr := g7.ql
     have hrl := rmQ_ql (u := u) (o := o) (r := r) (L := max L 1) (by omega)
     obtain ⟨m, hm⟩ : ∃ m, m = rmQ u o r := ⟨_, rfl⟩
     rw [← hm] at g4 hrl
     have hu := ho u (List.mem_of_getElem? g1)
     obtain ⟨zs1, zt, zx, zs2, zt', zy⟩ := z
     simp only at hg g7
     obtain ⟨mx, hmx⟩ : ∃ mx : Int, mx = if o then maxE u.steps else 0 := ⟨_, rfl⟩
     have hmr : inR .i64 mx := by
       have := maxE_le u.steps
       have : 0 ≤ mx ∧ mx ≤ 3000000 := by rw [hmx]; split <;> omega
       simp only [inR]
       omega
     have hrm : m = (mx : Rat) - r := by rw [hm]; unfold rmQ; rw [← hmx]
     have hx0 : arr[i]? = some (qcell 0) := by
       rw [ha]
       refine qcl_get ?_
       rw [List.getElem?_append_right (by simp; omega)]
       have : (rms.take i).length = i := by simp; omega
       rw [this, Nat.sub_self, List.getElem?_replicate]
       rw [if_pos (by (simp only [inR, cmpP, loOk, hiOk, Int.ofNat_eq_natCast, Int.negSucc_eq, IntKind.bits, Int.toNat_natCast, ge_iff_le, gt_iff_lt, ne_eq, wl_len, hl_len, natCast_fold, not_true_eq_false, not_false_eq_true] at * <;> omega))]
     have hlq := ql_int mx
     have hlm : (dg BW mx.natAbs).length ≤ 2 := len2' hmr
     cbv
     refine h.get' i _ hiz hge ?_
     cbv
     skip
     refine h.get' i _ hiz hb ?_
     cbv
     cases o
     · have hmx : mx = 0 := hmx
       subst hmx
       cbv
       skip
       (refine ffromInt_s h hmr fun b1 z1 hq1 => ?_
        cbv
        refine h.get' i _ hiz hg ?_
        cbv
        refine fsub_s h (l := L + 2) (hq1.r.le (by omega)) (g7.le (by omega)) (by omega) fun b2 z2 b3 z3 hq2 => ?_
        rw [← hrm] at hq2
        have hcl := hq2.cell
        cbv
        refine h.inb' i hiz (by rw [hal]; (simp only [inR, cmpP, loOk, hiOk, Int.ofNat_eq_natCast, Int.negSucc_eq, IntKind.bits, Int.toNat_natCast, ge_iff_le, gt_iff_lt, ne_eq, wl_len, hl_len, natCast_fold, not_true_eq_false, not_false_eq_true] at * <;> omega)) fun j hj => ?_
        replace hj := hj.symm; subst hj
        cbv
        refine h.put' _ _ hx0 rfl (by rfl) fun arr2 harr2 => ?_
        have harr3 : arr2 = qcl (rms.take (i + 1) ++ List.replicate (us.length - (i + 1)) 0) := by
          rw [harr2, ← set_fill hn3 g4, ← qcl_set, ← hcl, ha]
          rfl
        have hal2 : arr2.length = us.length := by rw [harr3, qcl_len]; simp; omega
        have hx1 : arr2[i]? = some [.sc (.bool b2), .sl 1 1 z2, .sc (.bool b3), .sl 1 1 z3] := by
          rw [harr2, List.getElem?_set_self (by rw [hal]; (simp only [inR, cmpP, loOk, hiOk, Int.ofNat_eq_natCast, Int.negSucc_eq, IntKind.bits, Int.toNat_natCast, ge_iff_le, gt_iff_lt, ne_eq, wl_len, hl_len, natCast_fold, not_true_eq_false, not_false_eq_true] at * <;> omega))]
          rfl
        clear harr2
        cbv
        (refine Good.chk' ‹_› rfl ?_; cbv)
        refine h.get' i _ hiz hg ?_
        cbv
        refine fsign_s h (l := L) g7 (by omega) fun c1 hc1 => ?_
        have s1 := sgnQ_neg' (q := r)
        cbv
        refine h.dec rfl (fun hp1 => ?_) (fun hp1 => ?_)
        · have hbad : badR rs rms := ⟨i, r, _, g3, g4, .inl (s1.1 (by (simp only [inR, cmpP, loOk, hiOk, Int.ofNat_eq_natCast, Int.negSucc_eq, IntKind.bits, Int.toNat_natCast, ge_iff_le, gt_iff_lt, ne_eq, wl_len, hl_len, natCast_fold, not_true_eq_false, not_false_eq_true] at * <;> omega)))⟩
          cbv
          skip
          exact hQ2 hbad
        · cbv
          refine h.inb' i hiz (by rw [hal2]; (simp only [inR, cmpP, loOk, hiOk, Int.ofNat_eq_natCast, Int.negSucc_eq, IntKind.bits, Int.toNat_natCast, ge_iff_le, gt_iff_lt, ne_eq, wl_len, hl_len, natCast_fold, not_true_eq_false, not_false_eq_true] at * <;> omega)) fun j hj => ?_
          replace hj := hj.symm; subst hj
          cbv
          refine h.getN' _ hx1 ?_
          cbv
          refine fsign_s h (hq2.r.le (m := L + 3) (by omega)) (by omega) fun c2 hc2 => ?_
          have s2 := sgnQ_neg' (q := m)
          cbv
          refine h.dec rfl (fun hp2 => ?_) (fun hp2 => ?_)
          · have hbad : badR rs rms := ⟨i, r, _, g3, g4, .inr (s2.1 (by (simp only [inR, cmpP, loOk, hiOk, Int.ofNat_eq_natCast, Int.negSucc_eq, IntKind.bits, Int.toNat_natCast, ge_iff_le, gt_iff_lt, ne_eq, wl_len, hl_len, natCast_fold, not_true_eq_false, not_false_eq_true] at * <;> omega)))⟩
            cbv
            skip
            exact hQ2 hbad
          · cbv
            (refine Good.add' ‹_› ?_ ?_; (· (simp only [inR, cmpP, loOk, hiOk, Int.ofNat_eq_natCast, Int.negSucc_eq, IntKind.bits, Int.toNat_natCast, ge_iff_le, gt_iff_lt, ne_eq, wl_len, hl_len, natCast_fold, not_true_eq_false, not_false_eq_true] at * <;> omega)); intro _ _; cbv)
            rename_i i1 hi1
            refine hR _ (i1, i + 1, arr2) ⟨by simp only; (simp only [inR, cmpP, loOk, hiOk, Int.ofNat_eq_natCast, Int.negSucc_eq, IntKind.bits, Int.toNat_natCast, ge_iff_le, gt_iff_lt, ne_eq, wl_len, hl_len, natCast_fold, not_true_eq_false, not_false_eq_true] at * <;> omega), by simp only; (simp only [inR, cmpP, loOk, hiOk, Int.ofNat_eq_natCast, Int.negSucc_eq, IntKind.bits, Int.toNat_natCast, ge_iff_le, gt_iff_lt, ne_eq, wl_len, hl_len, natCast_fold, not_true_eq_false, not_false_eq_true] at * <;> omega), harr3, fun j r' m' hj h1 h2 => ?_⟩ (by simp only; (simp only [inR, cmpP, loOk, hiOk, Int.ofNat_eq_natCast, Int.negSucc_eq, IntKind.bits, Int.toNat_natCast, ge_iff_le, gt_iff_lt, ne_eq, wl_len, hl_len, natCast_fold, not_true_eq_false, not_false_eq_true] at * <;> omega)) (by (refine Wk.of [(14, some 14)] rfl ?_ ?_; (· (repeat (first | exact trivial | (refine And.intro ?_ ?_; (· first | exact trivial | exact Or.inl ⟨_, rfl, rfl⟩ | exact ⟨_, rfl, rfl⟩ | exact Or.inr ⟨rfl, rfl, by decide⟩))))); (· (repeat (first | exact trivial | (refine And.intro ?_ ?_; (· first | exact trivial | exact Or.inl rfl | rfl | exact Or.inr ⟨_, _, _, _, rfl, rfl, rfl, renNo rfl⟩ | exact ⟨ne_no rfl, Or.inl ⟨_, rfl, rfl⟩⟩ | exact ⟨ne_no rfl, Or.inr ⟨rfl, _, rfl⟩⟩ | exact ⟨_, rfl, rfl, ne_no rfl⟩)))))))
            by_cases hji : j = i
            · subst hji
              rw [g3] at h1
              rw [g4] at h2
              cases h1
              cases h2
              exact ⟨fun hh => hp1 (by have := s1.2 hh; (simp only [inR, cmpP, loOk, hiOk, Int.ofNat_eq_natCast, Int.negSucc_eq, IntKind.bits, Int.toNat_natCast, ge_iff_le, gt_iff_lt, ne_eq, wl_len, hl_len, natCast_fold, not_true_eq_false, not_false_eq_true] at * <;> omega)), fun hh => hp2 (by have := s2.2 hh; (simp only [inR, cmpP, loOk, hiOk, Int.ofNat_eq_natCast, Int.negSucc_eq, IntKind.bits, Int.toNat_natCast, ge_iff_le, gt_iff_lt, ne_eq, wl_len, hl_len, natCast_fold, not_true_eq_false, not_false_eq_true] at * <;> omega))⟩
            · exact hok j r' m' (by simp only at hj; omega) h1 h2
       )
     · have hmx : mx = maxE u.steps := hmx
       cbv
       skip
       refine h.call' _ (max_c hss hu.steps hu.len hmx) ?_
       cbv
       skip
       (refine ffromInt_s h hmr fun b1 z1 hq1 => ?_
        cbv
        refine h.get' i _ hiz hg ?_
        cbv
        refine fsub_s h (l := L + 2) (hq1.r.le (by omega)) (g7.le (by omega)) (by omega) fun b2 z2 b3 z3 hq2 => ?_
        rw [← hrm] at hq2
        have hcl := hq2.cell
        cbv
        refine h.inb' i hiz (by rw [hal]; (simp only [inR, cmpP, loOk, hiOk, Int.ofNat_eq_natCast, Int.negSucc_eq, IntKind.bits, Int.toNat_natCast, ge_iff_le, gt_iff_lt, ne_eq, wl_len, hl_len, natCast_fold, not_true_eq_false, not_false_eq_true] at * <;> omega)) fun j hj => ?_
        replace hj := hj.symm; subst hj
        cbv
        refine h.put' _ _ hx0 rfl (by rfl) fun arr2 harr2 => ?_
        have harr3 : arr2 = qcl (rms.take (i + 1) ++ List.replicate (us.length - (i + 1)) 0) := by
          rw [harr2, ← set_fill hn3 g4, ← qcl_set, ← hcl, ha]
          rfl
        have hal2 : arr2.length = us.length := by rw [harr3, qcl_len]; simp; omega
        have hx1 : arr2[i]? = some [.sc (.bool b2), .sl 1 1 z2, .sc (.bool b3), .sl 1 1 z3] := by
          rw [harr2, List.getElem?_set_self (by rw [hal]; (simp only [inR, cmpP, loOk, hiOk, Int.ofNat_eq_natCast, Int.negSucc_eq, IntKind.bits, Int.toNat_natCast, ge_iff_le, gt_iff_lt, ne_eq, wl_len, hl_len, natCast_fold, not_true_eq_false, not_false_eq_true] at * <;> omega))]
          rfl
        clear harr2
        cbv
        (refine Good.chk' ‹_› rfl ?_; cbv)
        refine h.get' i _ hiz hg ?_
        cbv
        refine fsign_s h (l := L) g7 (by omega) fun c1 hc1 => ?_
        have s1 := sgnQ_neg' (q := r)
        cbv
        refine h.dec rfl (fun hp1 => ?_) (fun hp1 => ?_)
        · have hbad : badR rs rms := ⟨i, r, _, g3, g4, .inl (s1.1 (by (simp only [inR, cmpP, loOk, hiOk, Int.ofNat_eq_natCast, Int.negSucc_eq, IntKind.bits, Int.toNat_natCast, ge_iff_le, gt_iff_lt, ne_eq, wl_len, hl_len, natCast_fold, not_true_eq_false, not_false_eq_true] at * <;> omega)))⟩
          cbv
          skip
          exact hQ2 hbad
        · cbv
          refine h.inb' i hiz (by rw [hal2]; (simp only [inR, cmpP, loOk, hiOk, Int.ofNat_eq_natCast, Int.negSucc_eq, IntKind.bits, Int.toNat_natCast, ge_iff_le, gt_iff_lt, ne_eq, wl_len, hl_len, natCast_fold, not_true_eq_false, not_false_eq_true] at * <;> omega)) fun j hj => ?_
          replace hj := hj.symm; subst hj
          cbv
          refine h.getN' _ hx1 ?_
          cbv
          refine fsign_s h (hq2.r.le (m := L + 3) (by omega)) (by omega) fun c2 hc2 => ?_
          have s2 := sgnQ_neg' (q := m)
          cbv
          refine h.dec rfl (fun hp2 => ?_) (fun hp2 => ?_)
          · have hbad : badR rs rms := ⟨i, r, _, g3, g4, .inr (s2.1 (by (simp only [inR, cmpP, loOk, hiOk, Int.ofNat_eq_natCast, Int.negSucc_eq, IntKind.bits, Int.toNat_natCast, ge_iff_le, gt_iff_lt, ne_eq, wl_len, hl_len, natCast_fold, not_true_eq_false, not_false_eq_true] at * <;> omega)))⟩
            cbv
            skip
            exact hQ2 hbad
          · cbv
            (refine Good.add' ‹_› ?_ ?_; (· (simp only [inR, cmpP, loOk, hiOk, Int.ofNat_eq_natCast, Int.negSucc_eq, IntKind.bits, Int.toNat_natCast, ge_iff_le, gt_iff_lt, ne_eq, wl_len, hl_len, natCast_fold, not_true_eq_false, not_false_eq_true] at * <;> omega)); intro _ _; cbv)
            rename_i i1 hi1
            refine hR _ (i1, i + 1, arr2) ⟨by simp only; (simp only [inR, cmpP, loOk, hiOk, Int.ofNat_eq_natCast, Int.negSucc_eq, IntKind.bits, Int.toNat_natCast, ge_iff_le, gt_iff_lt, ne_eq, wl_len, hl_len, natCast_fold, not_true_eq_false, not_false_eq_true] at * <;> omega), by simp only; (simp only [inR, cmpP, loOk, hiOk, Int.ofNat_eq_natCast, Int.negSucc_eq, IntKind.bits, Int.toNat_natCast, ge_iff_le, gt_iff_lt, ne_eq, wl_len, hl_len, natCast_fold, not_true_eq_false, not_false_eq_true] at * <;> omega), harr3, fun j r' m' hj h1 h2 => ?_⟩ (by simp only; (simp only [inR, cmpP, loOk, hiOk, Int.ofNat_eq_natCast, Int.negSucc_eq, IntKind.bits, Int.toNat_natCast, ge_iff_le, gt_iff_lt, ne_eq, wl_len, hl_len, natCast_fold, not_true_eq_false, not_false_eq_true] at * <;> omega)) (by (refine Wk.of [(14, some 14)] rfl ?_ ?_; (· (repeat (first | exact trivial | (refine And.intro ?_ ?_; (· first | exact trivial | exact Or.inl ⟨_, rfl, rfl⟩ | exact ⟨_, rfl, rfl⟩ | exact Or.inr ⟨rfl, rfl, by decide⟩))))); (· (repeat (first | exact trivial | (refine And.intro ?_ ?_; (· first | exact trivial | exact Or.inl rfl | rfl | exact Or.inr ⟨_, _, _, _, rfl, rfl, rfl, renNo rfl⟩ | exact ⟨ne_no rfl, Or.inl ⟨_, rfl, rfl⟩⟩ | exact ⟨ne_no rfl, Or.inr ⟨rfl, _, rfl⟩⟩ | exact ⟨_, rfl, rfl, ne_no rfl⟩)))))))
            by_cases hji : j = i
            · subst hji
              rw [g3] at h1
              rw [g4] at h2
              cases h1
              cases h2
              exact ⟨fun hh => hp1 (by have := s1.2 hh; (simp only [inR, cmpP, loOk, hiOk, Int.ofNat_eq_natCast, Int.negSucc_eq, IntKind.bits, Int.toNat_natCast, ge_iff_le, gt_iff_lt, ne_eq, wl_len, hl_len, natCast_fold, not_true_eq_false, not_false_eq_true] at * <;> omega)), fun hh => hp2 (by have := s2.2 hh; (simp only [inR, cmpP, loOk, hiOk, Int.ofNat_eq_natCast, Int.negSucc_eq, IntKind.bits, Int.toNat_natCast, ge_iff_le, gt_iff_lt, ne_eq, wl_len, hl_len, natCast_fold, not_true_eq_false, not_false_eq_true] at * <;> omega))⟩
            · exact hok j r' m' (by simp only at hj; omega) h1 h2
       )
   · have hi2 : i = us.length := by (simp only [inR, cmpP, loOk, hiOk, Int.ofNat_eq_natCast, Int.negSucc_eq, IntKind.bits, Int.toNat_natCast, ge_iff_le, gt_iff_lt, ne_eq, wl_len, hl_len, natCast_fold, not_true_eq_false, not_false_eq_true] at * <;> omega)
     have e1 : arr = ms := by
       rw [ha, hms, hi2]
       congr 1
       simp [hn3]
       rw [← hn3, List.take_length]
     subst e1
     cbv
     skip
     refine hQ1 fun ⟨j, r, m, k1, k2, k3⟩ => ?_
     have hj := (List.getElem?_eq_some_iff.1 k1).1
     have := hok j r m (by omega) k1 k2
     rcases k3 with k3 | k3
     · exact this.1 k3
     · exact this.2 k3
  )
theorem rooms_s (he : es = us.map UD.cell) (hb' : bs = bl os) (hg' : gs = zs.map QD.cell) (ho : ∀ u ∈ us, u.Ok) (hl : us.length ≤ 1000) (hz : Qrs zs rs L) (hL : L ≤ 100) (hr : Rooms us os rs rms)
    {π : Pi} (h : Good TT π) {K : List DV → Prop} (hQ1 : ¬ badR rs rms → ∀ ms, ms = qcl rms → K [.one (.sl 1 4 ms), .one (.sc (.bool true))]) (hQ2 : badR rs rms → K [.one (.sl 3 4 []), .one (.sc (.bool false))]) : π.call 37 [.one (.sl t 9 es), .one (.sl t' 1 bs), .one (.sl t'' 4 gs)] K := by
  by_cases hb : badR rs rms
  · refine h.call' _ ?_ (hQ2 hb)
    exact con Tryz.func37 rfl (by kernel_rfl) (by kernel_rfl) fun π Q h hQ => rooms_b he hb' hg' ho hl hz hL hr rfl h (fun hh => absurd hb hh) (fun _ => hQ)
  · refine h.call' _ ?_ (hQ1 hb _ rfl)
    exact con Tryz.func37 rfl (by kernel_rfl) (by kernel_rfl) fun π Q h hQ => rooms_b he hb' hg' ho hl hz hL hr rfl h (fun _ => hQ) (fun hh => absurd hh hb)
end Go.Proofs.YtpmlocilhhjifaaGreat.Eng
end
section
set_option maxRecDepth 100000
set_option linter.unusedSimpArgs false
set_option linter.unusedVariables false
set_option pp.maxSteps 200
namespace Go.Proofs.YtpmlocilhhjifaaGreat.Eng
open Go.RowKit Go.Proofs
/-- The unused capacity as the law and the reference take it. -/
def rmR (u : UD) (o : Bool) (r : Rat) : Rat := if o = true then ((maxE u.steps : Int) : Rat) - r else 0
theorem rmR_ql {u : UD} {o : Bool} {r : Rat} {L : Nat} (h : ql r ≤ L) : ql (rmR u o r) ≤ L + 2 := by
  unfold rmR
  cases o
  · rw [if_neg (by decide)]
    have := ql_int 0
    have h4 : (dg BW (0 : Int).natAbs).length ≤ 1 := len1 (by decide) (by decide)
    have e : ((0 : Int) : Rat) = 0 := rfl
    rw [e] at this
    omega
  · rw [if_pos rfl]
    have h1 := ql_sub ((maxE u.steps : Int) : Rat) r
    have h2 := maxE_le u.steps
    have h3 := ql_int (maxE u.steps)
    have h4 : (dg BW (maxE u.steps).natAbs).length ≤ 1 := len1 (by omega) (by omega)
    omega
variable {t t' t'' : Nat} {us : List UD} {os : List Bool} {rs rms : List Rat} {es bs gs : List (List D)} {zs : List QD} {L : Nat}
theorem rRoom_c {u : UD} {o : Bool} {r : Rat} {xs : List (List D)} {s s' b b' : Bool} {x y z z' : List (List D)} (ho : u.Ok) (hx : xs = stl u.steps) (hq : Qr s x s' y r L) (hL : L ≤ 300) (hres : Qc b z b' z' (rmR u o r)) :
    TT 50 [ua u.bus u.least u.t xs u.up u.down u.start u.idle u.spin u.on, .one (.sc (.bool o)), qa s t x s' t' y] [qa b 1 z b' 1 z'] := by
  refine con Tryz.func50 rfl (by kernel_rfl) (by kernel_rfl) fun π Q h hQ => ?_
  (have hmx := maxE_le u.steps
   have hqr := hq.ql
   have hmr : inR .i64 (maxE u.steps) := by simp only [inR]; omega
   have hlq := ql_int (maxE u.steps)
   have hlm : (dg BW (maxE u.steps).natAbs).length ≤ 2 := len2' hmr
   cases o
   · have e : rmR u false r = ((0 : Int) : Rat) := rfl
     rw [e] at hres
     cbv
     skip
     refine rrint_s h (n := 0) (by (simp only [inR, cmpP, loOk, hiOk, Int.ofNat_eq_natCast, Int.negSucc_eq, IntKind.bits, Int.toNat_natCast, ge_iff_le, gt_iff_lt, ne_eq, wl_len, hl_len, natCast_fold, not_true_eq_false, not_false_eq_true] at * <;> omega)) fun b1 z1 hq1 => ?_
     have e1 := hq1.cell
     rw [← hres.cell] at e1
     simp only [List.cons.injEq, D.sc.injEq, Value.bool.injEq, D.sl.injEq, true_and, and_true] at e1
     obtain ⟨e1, e2, e3, e4⟩ := e1
     subst e1 e2 e3 e4
     cbv
     skip
     exact hQ
   · have e : rmR u true r = ((maxE u.steps : Int) : Rat) - r := rfl
     rw [e] at hres
     cbv
     skip
     refine h.call' _ (rmax_c hx ho.steps ho.len rfl) ?_
     obtain ⟨m, hm⟩ : ∃ m, m = maxE u.steps := ⟨_, rfl⟩
     rw [← hm] at hmr hlq hlm hres ⊢
     cbv
     refine rrint_s h hmr fun b1 z1 hq1 => ?_
     cbv
     refine rrsub_s h (l := L + 2) (hq1.r.le (by omega)) (hq.le (by omega)) (by omega) fun b2 z2 b3 z3 hq2 => ?_
     have e1 := hq2.cell
     rw [← hres.cell] at e1
     simp only [List.cons.injEq, D.sc.injEq, Value.bool.injEq, D.sl.injEq, true_and, and_true] at e1
     obtain ⟨e1, e2, e3, e4⟩ := e1
     subst e1 e2 e3 e4
     cbv
     (refine Good.chk' ‹_› rfl ?_; cbv)
     exact hQ
  )
theorem lroom_c {u : UD} {o : Bool} {r : Rat} {xs : List (List D)} {s s' b b' : Bool} {x y z z' : List (List D)} (ho : u.Ok) (hx : xs = stl u.steps) (hq : Qr s x s' y r L) (hL : L ≤ 300) (hres : Qc b z b' z' (rmR u o r)) :
    TT 17 [ua u.bus u.least u.t xs u.up u.down u.start u.idle u.spin u.on, .one (.sc (.bool o)), qa s t x s' t' y] [qa b 1 z b' 1 z'] := by
  refine con Tryz.func17 rfl (by kernel_rfl) (by kernel_rfl) fun π Q h hQ => ?_
  (have hmx := maxE_le u.steps
   have hqr := hq.ql
   have hmr : inR .i64 (maxE u.steps) := by simp only [inR]; omega
   have hlq := ql_int (maxE u.steps)
   have hlm : (dg BW (maxE u.steps).natAbs).length ≤ 2 := len2' hmr
   cases o
   · have e : rmR u false r = ((0 : Int) : Rat) := rfl
     rw [e] at hres
     cbv
     skip
     refine ffromInt_s h (n := 0) (by (simp only [inR, cmpP, loOk, hiOk, Int.ofNat_eq_natCast, Int.negSucc_eq, IntKind.bits, Int.toNat_natCast, ge_iff_le, gt_iff_lt, ne_eq, wl_len, hl_len, natCast_fold, not_true_eq_false, not_false_eq_true] at * <;> omega)) fun b1 z1 hq1 => ?_
     have e1 := hq1.cell
     rw [← hres.cell] at e1
     simp only [List.cons.injEq, D.sc.injEq, Value.bool.injEq, D.sl.injEq, true_and, and_true] at e1
     obtain ⟨e1, e2, e3, e4⟩ := e1
     subst e1 e2 e3 e4
     cbv
     skip
     exact hQ
   · have e : rmR u true r = ((maxE u.steps : Int) : Rat) - r := rfl
     rw [e] at hres
     cbv
     skip
     refine h.call' _ (max_c hx ho.steps ho.len rfl) ?_
     obtain ⟨m, hm⟩ : ∃ m, m = maxE u.steps := ⟨_, rfl⟩
     rw [← hm] at hmr hlq hlm hres ⊢
     cbv
     refine ffromInt_s h hmr fun b1 z1 hq1 => ?_
     cbv
     refine fsub_s h (l := L + 2) (hq1.r.le (by omega)) (hq.le (by omega)) (by omega) fun b2 z2 b3 z3 hq2 => ?_
     have e1 := hq2.cell
     rw [← hres.cell] at e1
     simp only [List.cons.injEq, D.sc.injEq, Value.bool.injEq, D.sl.injEq, true_and, and_true] at e1
     obtain ⟨e1, e2, e3, e4⟩ := e1
     subst e1 e2 e3 e4
     cbv
     (refine Good.chk' ‹_› rfl ?_; cbv)
     exact hQ
  )
theorem rRoom_s {π : Pi} (h : Good TT π) {K : List DV → Prop} {u : UD} {o : Bool} {r : Rat} {xs : List (List D)} {s s' : Bool} {x y : List (List D)} (ho : u.Ok) (hx : xs = stl u.steps) (hq : Qr s x s' y r L) (hL : L ≤ 300)
    (hk : ∀ b z b' z', Qc b z b' z' (rmR u o r) → K [qa b 1 z b' 1 z']) : π.call 50 [ua u.bus u.least u.t xs u.up u.down u.start u.idle u.spin u.on, .one (.sc (.bool o)), qa s t x s' t' y] K := by
  obtain ⟨b, z, b', z', hz⟩ := qcx (rmR u o r)
  exact h.call' _ (rRoom_c ho hx hq hL hz) (hk _ _ _ _ hz)
theorem lroom_s {π : Pi} (h : Good TT π) {K : List DV → Prop} {u : UD} {o : Bool} {r : Rat} {xs : List (List D)} {s s' : Bool} {x y : List (List D)} (ho : u.Ok) (hx : xs = stl u.steps) (hq : Qr s x s' y r L) (hL : L ≤ 300)
    (hk : ∀ b z b' z', Qc b z b' z' (rmR u o r) → K [qa b 1 z b' 1 z']) : π.call 17 [ua u.bus u.least u.t xs u.up u.down u.start u.idle u.spin u.on, .one (.sc (.bool o)), qa s t x s' t' y] K := by
  obtain ⟨b, z, b', z', hz⟩ := qcx (rmR u o r)
  exact h.call' _ (lroom_c ho hx hq hL hz) (hk _ _ _ _ hz)
def rmsF : List UD → List Bool → List Rat → List Rat
  | u :: us, o :: os, r :: rs => rmQ u o r :: rmsF us os rs
  | _, _, _ => []
theorem rmsF_rooms : ∀ {us : List UD} {os : List Bool} {rs : List Rat}, os.length = us.length → rs.length = us.length → Rooms us os rs (rmsF us os rs)
  | [], [], [], _, _ => ⟨rfl, rfl, rfl, fun i u o r h => by simp at h⟩
  | u :: us, o :: os, r :: rs, h1, h2 => by
    have ih := rmsF_rooms (us := us) (os := os) (rs := rs) (by simpa using h1) (by simpa using h2)
    refine ⟨h1, h2, by simp [rmsF, ih.lrm], fun i u' o' r' a b c => ?_⟩
    cases i with
    | zero =>
      simp at a b c
      subst a b c
      rfl
    | succ i => exact ih.at' i u' o' r' (by simpa using a) (by simpa using b) (by simpa using c)
  | [], _ :: _, _, h, _ => by simp at h
  | _ :: _, [], _, h, _ => by simp at h
  | [], [], _ :: _, _, h => by simp at h
  | _ :: _, _ :: _, [], _, h => by simp at h
def badB : List Rat → List Rat → Bool
  | r :: rs, m :: ms => decide (r < 0) || decide (m < 0) || badB rs ms
  | _, _ => false
theorem badB_iff : ∀ {rs rms : List Rat}, badB rs rms = true ↔ badR rs rms
  | [], ms => ⟨fun h => by simp [badB] at h, fun ⟨i, r, m, h, _⟩ => by simp at h⟩
  | _ :: _, [] => ⟨fun h => by simp [badB] at h, fun ⟨i, r, m, _, h, _⟩ => by simp at h⟩
  | r :: rs, m :: ms => by
    simp only [badB, Bool.or_eq_true, decide_eq_true_eq]
    constructor
    · rintro ((h | h) | h)
      · exact ⟨0, r, m, rfl, rfl, .inl h⟩
      · exact ⟨0, r, m, rfl, rfl, .inr h⟩
      · obtain ⟨i, r', m', a, b, c⟩ := badB_iff.1 h
        exact ⟨i + 1, r', m', by simpa using a, by simpa using b, c⟩
    · rintro ⟨i, r', m', a, b, c⟩
      cases i with
      | zero =>
        simp at a b
        subst a b
        rcases c with c | c
        · exact .inl (.inl c)
        · exact .inl (.inr c)
      | succ i => exact .inr (badB_iff.2 ⟨i, r', m', by simpa using a, by simpa using b, c⟩)
def fillE (us : List UD) (os : List Bool) (rs : List Rat) (need : Int) : Int :=
  if enE us os.length = 0 then (if rs.length = us.length then (if badB rs (rmsF us os rs) = true ∨ need < 0 ∨ 1000000 < need then 1 else 0) else 3) else enE us os.length
theorem enE_len {us : List UD} {n : Nat} (h : enE us n = 0) : n = us.length ∧ us.length ≤ 5 ∧ firstE us = 0 := by
  unfold enE at h
  split at h
  · omega
  · split at h
    · split at h
      · exact ⟨by assumption, by omega, by assumption⟩
      · omega
    · omega
set_option maxHeartbeats 8000000 in
theorem rwrong_c {need e : Int} (he : es = us.map UD.cell) (hb' : bs = bl os) (hg' : gs = zs.map QD.cell) (ho : ∀ u ∈ us, u.Ok) (hl : us.length ≤ 1000) (hl' : os.length ≤ 1000) (hl2 : zs.length ≤ 1000) (hz : Qrs zs rs L) (hL : L ≤ 100) (hn : inR .i64 need) (hE : e = fillE us os rs need) :
    TT 48 [.one (.sl t 9 es), .one (.sl t' 1 bs), .one (.sl t'' 4 gs), .one (.sc (.int .i64 need))] [.one (.sc (.int .i64 e))] := by
  have hle : es.length = us.length := by rw [he]; simp
  have hlb : bs.length = os.length := by rw [hb', bl_len]
  have hlg : gs.length = rs.length := by rw [hg', List.length_map, hz.1]
  refine con Tryz.func48 rfl (by kernel_rfl) (by kernel_rfl) fun π Q h hQ => ?_
  cbv
  refine h.call' _ (rencheck_c he ho (by omega) (by omega) rfl) ?_
  obtain ⟨e0, he0⟩ : ∃ e0, e0 = enE us bs.length := ⟨_, rfl⟩
  rw [← he0]
  rw [hlb] at he0
  unfold fillE at hE
  rw [← he0] at hE
  cbv
  refine h.dec rfl (fun hp1 => ?_) (fun hp1 => ?_)
  · rw [if_pos (show e0 = 0 by (simp only [inR, cmpP, loOk, hiOk, Int.ofNat_eq_natCast, Int.negSucc_eq, IntKind.bits, Int.toNat_natCast, ge_iff_le, gt_iff_lt, ne_eq, wl_len, hl_len, natCast_fold, not_true_eq_false, not_false_eq_true] at * <;> omega))] at hE
    have hos := (enE_len (by rw [← he0]; (simp only [inR, cmpP, loOk, hiOk, Int.ofNat_eq_natCast, Int.negSucc_eq, IntKind.bits, Int.toNat_natCast, ge_iff_le, gt_iff_lt, ne_eq, wl_len, hl_len, natCast_fold, not_true_eq_false, not_false_eq_true] at * <;> omega))).1
    cbv
    (refine Good.len' ‹_› ?_; intro _ _; cbv; refine Good.len' ‹_› ?_; intro _ _; cbv)
    refine h.dec rfl (fun hp2 => ?_) (fun hp2 => ?_)
    · rw [if_neg (by (simp only [inR, cmpP, loOk, hiOk, Int.ofNat_eq_natCast, Int.negSucc_eq, IntKind.bits, Int.toNat_natCast, ge_iff_le, gt_iff_lt, ne_eq, wl_len, hl_len, natCast_fold, not_true_eq_false, not_false_eq_true] at * <;> omega))] at hE
      subst hE
      cbv
      refine h.loop' Unit (fun p => True) (fun p => ⟨[(0, .v (.one (.sl t 9 es))), (1, .v (.one (.sl t' 1 bs))), (2, .v (.one (.sl t'' 4 gs))), (3, vi .i64 need), (9, vi .i64 3), (10, vi .i64 0)], []⟩) (fun p => 0) () trivial (by (refine Wk.of [] rfl ?_ ?_; (· (repeat (first | exact trivial | (refine And.intro ?_ ?_; (· first | exact trivial | exact Or.inl ⟨_, rfl, rfl⟩ | exact ⟨_, rfl, rfl⟩ | exact Or.inr ⟨rfl, rfl, by decide⟩))))); (· (repeat (first | exact trivial | (refine And.intro ?_ ?_; (· first | exact trivial | exact Or.inl rfl | rfl | exact Or.inr ⟨_, _, _, _, rfl, rfl, rfl, renNo rfl⟩ | exact ⟨ne_no rfl, Or.inl ⟨_, rfl, rfl⟩⟩ | exact ⟨ne_no rfl, Or.inr ⟨rfl, _, rfl⟩⟩ | exact ⟨_, rfl, rfl, ne_no rfl⟩))))))) ?_
      rintro ⟨⟩ R - hR
      cbv
      (refine Good.len' ‹_› ?_; intro _ _; cbv)
      refine h.dec rfl (fun hp3 => ?_) (fun hp3 => ?_)
      · cbv
        (refine Good.no ‹_› rfl ?_ ?_; (· (simp only [inR, cmpP, loOk, hiOk, Int.ofNat_eq_natCast, Int.negSucc_eq, IntKind.bits, Int.toNat_natCast, ge_iff_le, gt_iff_lt, ne_eq, wl_len, hl_len, natCast_fold, not_true_eq_false, not_false_eq_true] at * <;> omega)); cbv; refine Good.no ‹_› rfl ?_ ?_; (· (simp only [inR, cmpP, loOk, hiOk, Int.ofNat_eq_natCast, Int.negSucc_eq, IntKind.bits, Int.toNat_natCast, ge_iff_le, gt_iff_lt, ne_eq, wl_len, hl_len, natCast_fold, not_true_eq_false, not_false_eq_true] at * <;> omega)); cbv)
        exact hQ
      · cbv
        (refine Good.no ‹_› rfl ?_ ?_; (· (simp only [inR, cmpP, loOk, hiOk, Int.ofNat_eq_natCast, Int.negSucc_eq, IntKind.bits, Int.toNat_natCast, ge_iff_le, gt_iff_lt, ne_eq, wl_len, hl_len, natCast_fold, not_true_eq_false, not_false_eq_true] at * <;> omega)); cbv)
        exact hQ
    · have hrl : rs.length = us.length := by (simp only [inR, cmpP, loOk, hiOk, Int.ofNat_eq_natCast, Int.negSucc_eq, IntKind.bits, Int.toNat_natCast, ge_iff_le, gt_iff_lt, ne_eq, wl_len, hl_len, natCast_fold, not_true_eq_false, not_false_eq_true] at * <;> omega)
      rw [if_pos hrl] at hE
      have hr := rmsF_rooms (us := us) (os := os) (rs := rs) hos hrl
      have hbi := badB_iff (rs := rs) (rms := rmsF us os rs)
      obtain ⟨rms, hrms⟩ : ∃ rms, rms = rmsF us os rs := ⟨_, rfl⟩
      rw [← hrms] at hr hbi hE
      cbv
      skip
      refine h.loop' (Int × Int × Nat) (fun p => p.2.1 = (p.2.2 : Int) ∧ p.2.2 ≤ us.length ∧ ((p.1 = 0 ∧ ∀ (j : Nat) r m, j < p.2.2 → rs[j]? = some r → rms[j]? = some m → ¬ r < 0 ∧ ¬ m < 0) ∨ (p.1 = 1 ∧ badR rs rms))) (fun p => ⟨[(0, .v (.one (.sl t 9 es))), (1, .v (.one (.sl t' 1 bs))), (2, .v (.one (.sl t'' 4 gs))), (3, vi .i64 need), (9, vi .i64 p.1), (10, vi .i64 p.2.1)], []⟩) (fun p => us.length - p.2.2) (e0, 0, 0) ⟨rfl, Nat.zero_le _, .inl ⟨by (simp only [inR, cmpP, loOk, hiOk, Int.ofNat_eq_natCast, Int.negSucc_eq, IntKind.bits, Int.toNat_natCast, ge_iff_le, gt_iff_lt, ne_eq, wl_len, hl_len, natCast_fold, not_true_eq_false, not_false_eq_true] at * <;> omega), fun j r m hj => absurd hj (Nat.not_lt_zero _)⟩⟩ (by (refine Wk.of [] rfl ?_ ?_; (· (repeat (first | exact trivial | (refine And.intro ?_ ?_; (· first | exact trivial | exact Or.inl ⟨_, rfl, rfl⟩ | exact ⟨_, rfl, rfl⟩ | exact Or.inr ⟨rfl, rfl, by decide⟩))))); (· (repeat (first | exact trivial | (refine And.intro ?_ ?_; (· first | exact trivial | exact Or.inl rfl | rfl | exact Or.inr ⟨_, _, _, _, rfl, rfl, rfl, renNo rfl⟩ | exact ⟨ne_no rfl, Or.inl ⟨_, rfl, rfl⟩⟩ | exact ⟨ne_no rfl, Or.inr ⟨rfl, _, rfl⟩⟩ | exact ⟨_, rfl, rfl, ne_no rfl⟩))))))) ?_
      rintro ⟨ee, iz, i⟩ R ⟨hiz, hi, hv⟩ hR
      simp only at hiz hi hv
      cbv
      (refine Good.len' ‹_› ?_; intro _ _; cbv)
      refine h.dec rfl (fun hp3 => ?_) (fun hp3 => ?_)
      · cbv
        refine h.dec rfl (fun hp4 => ?_) (fun hp4 => ?_)
        · have hok : ∀ (j : Nat) r m, j < i → rs[j]? = some r → rms[j]? = some m → ¬ r < 0 ∧ ¬ m < 0 := by
            rcases hv with hv | hv
            · exact hv.2
            · (simp only [inR, cmpP, loOk, hiOk, Int.ofNat_eq_natCast, Int.negSucc_eq, IntKind.bits, Int.toNat_natCast, ge_iff_le, gt_iff_lt, ne_eq, wl_len, hl_len, natCast_fold, not_true_eq_false, not_false_eq_true] at * <;> omega)
          obtain ⟨u, o, r, g1, g2, g3, g4⟩ := rooms_get hr (show i < us.length by (simp only [inR, cmpP, loOk, hiOk, Int.ofNat_eq_natCast, Int.negSucc_eq, IntKind.bits, Int.toNat_natCast, ge_iff_le, gt_iff_lt, ne_eq, wl_len, hl_len, natCast_fold, not_true_eq_false, not_false_eq_true] at * <;> omega))
          obtain ⟨z, r', g5, g6, g7⟩ := hz.get (show i < rs.length by (simp only [inR, cmpP, loOk, hiOk, Int.ofNat_eq_natCast, Int.negSucc_eq, IntKind.bits, Int.toNat_natCast, ge_iff_le, gt_iff_lt, ne_eq, wl_len, hl_len, natCast_fold, not_true_eq_false, not_false_eq_true] at * <;> omega))
          rw [g3] at g6
          cases g6
          have hge := ud_get g1
          rw [← he] at hge
          obtain ⟨ss, hss⟩ : ∃ ss, ss = stl u.steps := ⟨_, rfl⟩
          rw [← hss] at hge
          have hb := bl_get g2
          rw [← hb'] at hb
          have hg := qd_get g5
          rw [← hg'] at hg
          have hqr := g7.ql
          have hrl2 := rmR_ql (u := u) (o := true) (r := r) (L := max L 1) (by omega)
          have hu := ho u (List.mem_of_getElem? g1)
          obtain ⟨zs1, zt, zx, zs2, zt', zy⟩ := z
          simp only at hg g7
          have isbad : (r < 0 ∨ rmQ u o r < 0) → badR rs rms := fun hh => ⟨i, r, _, g3, g4, hh⟩
          have isok : ¬ r < 0 → ¬ rmQ u o r < 0 → ∀ (j : Nat) r m, j < i + 1 → rs[j]? = some r → rms[j]? = some m → ¬ r < 0 ∧ ¬ m < 0 := fun k1 k2 j r' m' hj h1 h2 => by
            by_cases hji : j = i
            · subst hji
              rw [g3] at h1
              rw [g4] at h2
              cases h1
              cases h2
              exact ⟨k1, k2⟩
            · exact hok j r' m' (by omega) h1 h2
          have sr := sgnQ_cases r
          cbv
          refine h.get' i _ hiz hb ?_
          cbv
          cases o
          · have e2 : rmQ u false r = -r := by unfold rmQ; rw [if_neg (by decide), show ((0 : Int) : Rat) = 0 from rfl]; grind
            rw [e2] at isbad isok
            cbv
            refine h.get' i _ hiz hg ?_
            cbv
            refine rrsign_s h (l := L) g7 (by omega) fun c1 hc1 => ?_
            cbv
            refine h.dec rfl (fun hp5 => ?_) (fun hp5 => ?_)
            · have hbad := isbad (by
                rcases sr with ⟨k, _⟩ | ⟨_, k⟩ | ⟨k, _⟩
                · exact .inl k
                · exfalso; (simp only [inR, cmpP, loOk, hiOk, Int.ofNat_eq_natCast, Int.negSucc_eq, IntKind.bits, Int.toNat_natCast, ge_iff_le, gt_iff_lt, ne_eq, wl_len, hl_len, natCast_fold, not_true_eq_false, not_false_eq_true] at * <;> omega)
                · exact .inr (by grind))
              cbv
              (refine Good.chk' ‹_› rfl ?_; cbv; refine Good.add' ‹_› ?_ ?_; (· (simp only [inR, cmpP, loOk, hiOk, Int.ofNat_eq_natCast, Int.negSucc_eq, IntKind.bits, Int.toNat_natCast, ge_iff_le, gt_iff_lt, ne_eq, wl_len, hl_len, natCast_fold, not_true_eq_false, not_false_eq_true] at * <;> omega)); intro _ _; cbv)
              rename_i i1 hi1
              refine hR _ (1, i1, i + 1) ⟨by simp only; (simp only [inR, cmpP, loOk, hiOk, Int.ofNat_eq_natCast, Int.negSucc_eq, IntKind.bits, Int.toNat_natCast, ge_iff_le, gt_iff_lt, ne_eq, wl_len, hl_len, natCast_fold, not_true_eq_false, not_false_eq_true] at * <;> omega), by simp only; (simp only [inR, cmpP, loOk, hiOk, Int.ofNat_eq_natCast, Int.negSucc_eq, IntKind.bits, Int.toNat_natCast, ge_iff_le, gt_iff_lt, ne_eq, wl_len, hl_len, natCast_fold, not_true_eq_false, not_false_eq_true] at * <;> omega), .inr ⟨rfl, hbad⟩⟩ (by simp only; (simp only [inR, cmpP, loOk, hiOk, Int.ofNat_eq_natCast, Int.negSucc_eq, IntKind.bits, Int.toNat_natCast, ge_iff_le, gt_iff_lt, ne_eq, wl_len, hl_len, natCast_fold, not_true_eq_false, not_false_eq_true] at * <;> omega)) (by (refine Wk.of [] rfl ?_ ?_; (· (repeat (first | exact trivial | (refine And.intro ?_ ?_; (· first | exact trivial | exact Or.inl ⟨_, rfl, rfl⟩ | exact ⟨_, rfl, rfl⟩ | exact Or.inr ⟨rfl, rfl, by decide⟩))))); (· (repeat (first | exact trivial | (refine And.intro ?_ ?_; (· first | exact trivial | exact Or.inl rfl | rfl | exact Or.inr ⟨_, _, _, _, rfl, rfl, rfl, renNo rfl⟩ | exact ⟨ne_no rfl, Or.inl ⟨_, rfl, rfl⟩⟩ | exact ⟨ne_no rfl, Or.inr ⟨rfl, _, rfl⟩⟩ | exact ⟨_, rfl, rfl, ne_no rfl⟩)))))))
            · have r0 : r = 0 := by
                rcases sr with ⟨_, k⟩ | ⟨k, _⟩ | ⟨_, k⟩
                · exfalso; (simp only [inR, cmpP, loOk, hiOk, Int.ofNat_eq_natCast, Int.negSucc_eq, IntKind.bits, Int.toNat_natCast, ge_iff_le, gt_iff_lt, ne_eq, wl_len, hl_len, natCast_fold, not_true_eq_false, not_false_eq_true] at * <;> omega)
                · exact k
                · exfalso; (simp only [inR, cmpP, loOk, hiOk, Int.ofNat_eq_natCast, Int.negSucc_eq, IntKind.bits, Int.toNat_natCast, ge_iff_le, gt_iff_lt, ne_eq, wl_len, hl_len, natCast_fold, not_true_eq_false, not_false_eq_true] at * <;> omega)
              cbv
              refine h.get' i _ hiz hg ?_
              cbv
              refine rrsign_s h (l := L) g7 (by omega) fun c2 hc2 => ?_
              cbv
              refine h.no rfl (by (simp only [inR, cmpP, loOk, hiOk, Int.ofNat_eq_natCast, Int.negSucc_eq, IntKind.bits, Int.toNat_natCast, ge_iff_le, gt_iff_lt, ne_eq, wl_len, hl_len, natCast_fold, not_true_eq_false, not_false_eq_true] at * <;> omega)) ?_
              cbv
              refine h.get' i _ hiz hb ?_
              cbv
              (refine Good.chk' ‹_› rfl ?_; cbv; refine Good.add' ‹_› ?_ ?_; (· (simp only [inR, cmpP, loOk, hiOk, Int.ofNat_eq_natCast, Int.negSucc_eq, IntKind.bits, Int.toNat_natCast, ge_iff_le, gt_iff_lt, ne_eq, wl_len, hl_len, natCast_fold, not_true_eq_false, not_false_eq_true] at * <;> omega)); intro _ _; cbv)
              rename_i i1 hi1
              refine hR _ (ee, i1, i + 1) ⟨by simp only; (simp only [inR, cmpP, loOk, hiOk, Int.ofNat_eq_natCast, Int.negSucc_eq, IntKind.bits, Int.toNat_natCast, ge_iff_le, gt_iff_lt, ne_eq, wl_len, hl_len, natCast_fold, not_true_eq_false, not_false_eq_true] at * <;> omega), by simp only; (simp only [inR, cmpP, loOk, hiOk, Int.ofNat_eq_natCast, Int.negSucc_eq, IntKind.bits, Int.toNat_natCast, ge_iff_le, gt_iff_lt, ne_eq, wl_len, hl_len, natCast_fold, not_true_eq_false, not_false_eq_true] at * <;> omega), .inl ⟨by simp only; (simp only [inR, cmpP, loOk, hiOk, Int.ofNat_eq_natCast, Int.negSucc_eq, IntKind.bits, Int.toNat_natCast, ge_iff_le, gt_iff_lt, ne_eq, wl_len, hl_len, natCast_fold, not_true_eq_false, not_false_eq_true] at * <;> omega), isok (by rw [r0]; decide) (by rw [r0]; decide)⟩⟩ (by simp only; (simp only [inR, cmpP, loOk, hiOk, Int.ofNat_eq_natCast, Int.negSucc_eq, IntKind.bits, Int.toNat_natCast, ge_iff_le, gt_iff_lt, ne_eq, wl_len, hl_len, natCast_fold, not_true_eq_false, not_false_eq_true] at * <;> omega)) (by (refine Wk.of [] rfl ?_ ?_; (· (repeat (first | exact trivial | (refine And.intro ?_ ?_; (· first | exact trivial | exact Or.inl ⟨_, rfl, rfl⟩ | exact ⟨_, rfl, rfl⟩ | exact Or.inr ⟨rfl, rfl, by decide⟩))))); (· (repeat (first | exact trivial | (refine And.intro ?_ ?_; (· first | exact trivial | exact Or.inl rfl | rfl | exact Or.inr ⟨_, _, _, _, rfl, rfl, rfl, renNo rfl⟩ | exact ⟨ne_no rfl, Or.inl ⟨_, rfl, rfl⟩⟩ | exact ⟨ne_no rfl, Or.inr ⟨rfl, _, rfl⟩⟩ | exact ⟨_, rfl, rfl, ne_no rfl⟩)))))))
          · have e2 : rmQ u true r = rmR u true r := rfl
            rw [e2] at isbad isok
            cbv
            refine h.get' i _ hiz hg ?_
            cbv
            refine rrsign_s h (l := L) g7 (by omega) fun c1 hc1 => ?_
            have s1 := sgnQ_neg' (q := r)
            cbv
            refine h.dec rfl (fun hp5 => ?_) (fun hp5 => ?_)
            · have hbad := isbad (.inl (s1.1 (by (simp only [inR, cmpP, loOk, hiOk, Int.ofNat_eq_natCast, Int.negSucc_eq, IntKind.bits, Int.toNat_natCast, ge_iff_le, gt_iff_lt, ne_eq, wl_len, hl_len, natCast_fold, not_true_eq_false, not_false_eq_true] at * <;> omega))))
              cbv
              (refine Good.chk' ‹_› rfl ?_; cbv; refine Good.add' ‹_› ?_ ?_; (· (simp only [inR, cmpP, loOk, hiOk, Int.ofNat_eq_natCast, Int.negSucc_eq, IntKind.bits, Int.toNat_natCast, ge_iff_le, gt_iff_lt, ne_eq, wl_len, hl_len, natCast_fold, not_true_eq_false, not_false_eq_true] at * <;> omega)); intro _ _; cbv)
              rename_i i1 hi1
              refine hR _ (1, i1, i + 1) ⟨by simp only; (simp only [inR, cmpP, loOk, hiOk, Int.ofNat_eq_natCast, Int.negSucc_eq, IntKind.bits, Int.toNat_natCast, ge_iff_le, gt_iff_lt, ne_eq, wl_len, hl_len, natCast_fold, not_true_eq_false, not_false_eq_true] at * <;> omega), by simp only; (simp only [inR, cmpP, loOk, hiOk, Int.ofNat_eq_natCast, Int.negSucc_eq, IntKind.bits, Int.toNat_natCast, ge_iff_le, gt_iff_lt, ne_eq, wl_len, hl_len, natCast_fold, not_true_eq_false, not_false_eq_true] at * <;> omega), .inr ⟨rfl, hbad⟩⟩ (by simp only; (simp only [inR, cmpP, loOk, hiOk, Int.ofNat_eq_natCast, Int.negSucc_eq, IntKind.bits, Int.toNat_natCast, ge_iff_le, gt_iff_lt, ne_eq, wl_len, hl_len, natCast_fold, not_true_eq_false, not_false_eq_true] at * <;> omega)) (by (refine Wk.of [] rfl ?_ ?_; (· (repeat (first | exact trivial | (refine And.intro ?_ ?_; (· first | exact trivial | exact Or.inl ⟨_, rfl, rfl⟩ | exact ⟨_, rfl, rfl⟩ | exact Or.inr ⟨rfl, rfl, by decide⟩))))); (· (repeat (first | exact trivial | (refine And.intro ?_ ?_; (· first | exact trivial | exact Or.inl rfl | rfl | exact Or.inr ⟨_, _, _, _, rfl, rfl, rfl, renNo rfl⟩ | exact ⟨ne_no rfl, Or.inl ⟨_, rfl, rfl⟩⟩ | exact ⟨ne_no rfl, Or.inr ⟨rfl, _, rfl⟩⟩ | exact ⟨_, rfl, rfl, ne_no rfl⟩)))))))
            · cbv
              refine h.get' i _ hiz hb ?_
              cbv
              refine h.get' i _ hiz hge ?_
              cbv
              refine h.get' i _ hiz hg ?_
              cbv
              refine rRoom_s h hu hss g7 (by omega) fun b1 z1 b2 z2 hq1 => ?_
              cbv
              refine rrsign_s h (hq1.r.le (m := L + 3) (by omega)) (by omega) fun c2 hc2 => ?_
              have s2 := sgnQ_neg' (q := rmR u true r)
              cbv
              refine h.dec rfl (fun hp6 => ?_) (fun hp6 => ?_)
              · have hbad := isbad (.inr (s2.1 (by (simp only [inR, cmpP, loOk, hiOk, Int.ofNat_eq_natCast, Int.negSucc_eq, IntKind.bits, Int.toNat_natCast, ge_iff_le, gt_iff_lt, ne_eq, wl_len, hl_len, natCast_fold, not_true_eq_false, not_false_eq_true] at * <;> omega))))
                cbv
                (refine Good.chk' ‹_› rfl ?_; cbv; refine Good.add' ‹_› ?_ ?_; (· (simp only [inR, cmpP, loOk, hiOk, Int.ofNat_eq_natCast, Int.negSucc_eq, IntKind.bits, Int.toNat_natCast, ge_iff_le, gt_iff_lt, ne_eq, wl_len, hl_len, natCast_fold, not_true_eq_false, not_false_eq_true] at * <;> omega)); intro _ _; cbv)
                rename_i i1 hi1
                refine hR _ (1, i1, i + 1) ⟨by simp only; (simp only [inR, cmpP, loOk, hiOk, Int.ofNat_eq_natCast, Int.negSucc_eq, IntKind.bits, Int.toNat_natCast, ge_iff_le, gt_iff_lt, ne_eq, wl_len, hl_len, natCast_fold, not_true_eq_false, not_false_eq_true] at * <;> omega), by simp only; (simp only [inR, cmpP, loOk, hiOk, Int.ofNat_eq_natCast, Int.negSucc_eq, IntKind.bits, Int.toNat_natCast, ge_iff_le, gt_iff_lt, ne_eq, wl_len, hl_len, natCast_fold, not_true_eq_false, not_false_eq_true] at * <;> omega), .inr ⟨rfl, hbad⟩⟩ (by simp only; (simp only [inR, cmpP, loOk, hiOk, Int.ofNat_eq_natCast, Int.negSucc_eq, IntKind.bits, Int.toNat_natCast, ge_iff_le, gt_iff_lt, ne_eq, wl_len, hl_len, natCast_fold, not_true_eq_false, not_false_eq_true] at * <;> omega)) (by (refine Wk.of [] rfl ?_ ?_; (· (repeat (first | exact trivial | (refine And.intro ?_ ?_; (· first | exact trivial | exact Or.inl ⟨_, rfl, rfl⟩ | exact ⟨_, rfl, rfl⟩ | exact Or.inr ⟨rfl, rfl, by decide⟩))))); (· (repeat (first | exact trivial | (refine And.intro ?_ ?_; (· first | exact trivial | exact Or.inl rfl | rfl | exact Or.inr ⟨_, _, _, _, rfl, rfl, rfl, renNo rfl⟩ | exact ⟨ne_no rfl, Or.inl ⟨_, rfl, rfl⟩⟩ | exact ⟨ne_no rfl, Or.inr ⟨rfl, _, rfl⟩⟩ | exact ⟨_, rfl, rfl, ne_no rfl⟩)))))))
              · cbv
                (refine Good.chk' ‹_› rfl ?_; cbv; refine Good.add' ‹_› ?_ ?_; (· (simp only [inR, cmpP, loOk, hiOk, Int.ofNat_eq_natCast, Int.negSucc_eq, IntKind.bits, Int.toNat_natCast, ge_iff_le, gt_iff_lt, ne_eq, wl_len, hl_len, natCast_fold, not_true_eq_false, not_false_eq_true] at * <;> omega)); intro _ _; cbv)
                rename_i i1 hi1
                refine hR _ (ee, i1, i + 1) ⟨by simp only; (simp only [inR, cmpP, loOk, hiOk, Int.ofNat_eq_natCast, Int.negSucc_eq, IntKind.bits, Int.toNat_natCast, ge_iff_le, gt_iff_lt, ne_eq, wl_len, hl_len, natCast_fold, not_true_eq_false, not_false_eq_true] at * <;> omega), by simp only; (simp only [inR, cmpP, loOk, hiOk, Int.ofNat_eq_natCast, Int.negSucc_eq, IntKind.bits, Int.toNat_natCast, ge_iff_le, gt_iff_lt, ne_eq, wl_len, hl_len, natCast_fold, not_true_eq_false, not_false_eq_true] at * <;> omega), .inl ⟨by simp only; (simp only [inR, cmpP, loOk, hiOk, Int.ofNat_eq_natCast, Int.negSucc_eq, IntKind.bits, Int.toNat_natCast, ge_iff_le, gt_iff_lt, ne_eq, wl_len, hl_len, natCast_fold, not_true_eq_false, not_false_eq_true] at * <;> omega), isok (fun hh => hp5 (by have := s1.2 hh; (simp only [inR, cmpP, loOk, hiOk, Int.ofNat_eq_natCast, Int.negSucc_eq, IntKind.bits, Int.toNat_natCast, ge_iff_le, gt_iff_lt, ne_eq, wl_len, hl_len, natCast_fold, not_true_eq_false, not_false_eq_true] at * <;> omega))) (fun hh => hp6 (by have := s2.2 hh; (simp only [inR, cmpP, loOk, hiOk, Int.ofNat_eq_natCast, Int.negSucc_eq, IntKind.bits, Int.toNat_natCast, ge_iff_le, gt_iff_lt, ne_eq, wl_len, hl_len, natCast_fold, not_true_eq_false, not_false_eq_true] at * <;> omega)))⟩⟩ (by simp only; (simp only [inR, cmpP, loOk, hiOk, Int.ofNat_eq_natCast, Int.negSucc_eq, IntKind.bits, Int.toNat_natCast, ge_iff_le, gt_iff_lt, ne_eq, wl_len, hl_len, natCast_fold, not_true_eq_false, not_false_eq_true] at * <;> omega)) (by (refine Wk.of [] rfl ?_ ?_; (· (repeat (first | exact trivial | (refine And.intro ?_ ?_; (· first | exact trivial | exact Or.inl ⟨_, rfl, rfl⟩ | exact ⟨_, rfl, rfl⟩ | exact Or.inr ⟨rfl, rfl, by decide⟩))))); (· (repeat (first | exact trivial | (refine And.intro ?_ ?_; (· first | exact trivial | exact Or.inl rfl | rfl | exact Or.inr ⟨_, _, _, _, rfl, rfl, rfl, renNo rfl⟩ | exact ⟨ne_no rfl, Or.inl ⟨_, rfl, rfl⟩⟩ | exact ⟨ne_no rfl, Or.inr ⟨rfl, _, rfl⟩⟩ | exact ⟨_, rfl, rfl, ne_no rfl⟩)))))))
        · have hee : ee = 1 ∧ badR rs rms := by
            rcases hv with hv | hv
            · (simp only [inR, cmpP, loOk, hiOk, Int.ofNat_eq_natCast, Int.negSucc_eq, IntKind.bits, Int.toNat_natCast, ge_iff_le, gt_iff_lt, ne_eq, wl_len, hl_len, natCast_fold, not_true_eq_false, not_false_eq_true] at * <;> omega)
            · exact hv
          rw [if_pos (.inl (hbi.2 hee.2)), ← hee.1] at hE
          subst hE
          have h1 := hee.1
          cbv
          (refine Good.no ‹_› rfl ?_ ?_; (· omega); cbv)
          exact hQ
      · rcases hv with hv | hv
        · have hnb : ¬ badR rs rms := fun ⟨j, r, m, k1, k2, k3⟩ => by
            have hj := (List.getElem?_eq_some_iff.1 k1).1
            have := hv.2 j r m (by (simp only [inR, cmpP, loOk, hiOk, Int.ofNat_eq_natCast, Int.negSucc_eq, IntKind.bits, Int.toNat_natCast, ge_iff_le, gt_iff_lt, ne_eq, wl_len, hl_len, natCast_fold, not_true_eq_false, not_false_eq_true] at * <;> omega)) k1 k2
            rcases k3 with k3 | k3
            · exact this.1 k3
            · exact this.2 k3
          have h0 := hv.1
          cbv
          (refine Good.yes ‹_› ?_ ?_; (· (simp only [inR, cmpP, loOk, hiOk, Int.ofNat_eq_natCast, Int.negSucc_eq, IntKind.bits, Int.toNat_natCast, ge_iff_le, gt_iff_lt, ne_eq, wl_len, hl_len, natCast_fold, not_true_eq_false, not_false_eq_true] at * <;> omega)); cbv)
          refine h.dec rfl (fun hp6 => ?_) (fun hp6 => ?_)
          · rw [if_pos (.inr (.inl (by (simp only [inR, cmpP, loOk, hiOk, Int.ofNat_eq_natCast, Int.negSucc_eq, IntKind.bits, Int.toNat_natCast, ge_iff_le, gt_iff_lt, ne_eq, wl_len, hl_len, natCast_fold, not_true_eq_false, not_false_eq_true] at * <;> omega))))] at hE
            subst hE
            cbv
            skip
            exact hQ
          · cbv
            refine h.dec rfl (fun hp7 => ?_) (fun hp7 => ?_)
            · rw [if_pos (.inr (.inr (by (simp only [inR, cmpP, loOk, hiOk, Int.ofNat_eq_natCast, Int.negSucc_eq, IntKind.bits, Int.toNat_natCast, ge_iff_le, gt_iff_lt, ne_eq, wl_len, hl_len, natCast_fold, not_true_eq_false, not_false_eq_true] at * <;> omega))))] at hE
              subst hE
              cbv
              skip
              exact hQ
            · rw [if_neg (fun hh => by
                rcases hh with hh | hh | hh
                · exact hnb (hbi.1 hh)
                · (simp only [inR, cmpP, loOk, hiOk, Int.ofNat_eq_natCast, Int.negSucc_eq, IntKind.bits, Int.toNat_natCast, ge_iff_le, gt_iff_lt, ne_eq, wl_len, hl_len, natCast_fold, not_true_eq_false, not_false_eq_true] at * <;> omega)
                · (simp only [inR, cmpP, loOk, hiOk, Int.ofNat_eq_natCast, Int.negSucc_eq, IntKind.bits, Int.toNat_natCast, ge_iff_le, gt_iff_lt, ne_eq, wl_len, hl_len, natCast_fold, not_true_eq_false, not_false_eq_true] at * <;> omega))] at hE
              have : ee = e := by omega
              subst this
              cbv
              skip
              exact hQ
        · rw [if_pos (.inl (hbi.2 hv.2)), ← hv.1] at hE
          subst hE
          have h1 := hv.1
          cbv
          (refine Good.no ‹_› rfl ?_ ?_; (· (simp only [inR, cmpP, loOk, hiOk, Int.ofNat_eq_natCast, Int.negSucc_eq, IntKind.bits, Int.toNat_natCast, ge_iff_le, gt_iff_lt, ne_eq, wl_len, hl_len, natCast_fold, not_true_eq_false, not_false_eq_true] at * <;> omega)); cbv)
          exact hQ
  · rw [if_neg (show ¬ e0 = 0 by (simp only [inR, cmpP, loOk, hiOk, Int.ofNat_eq_natCast, Int.negSucc_eq, IntKind.bits, Int.toNat_natCast, ge_iff_le, gt_iff_lt, ne_eq, wl_len, hl_len, natCast_fold, not_true_eq_false, not_false_eq_true] at * <;> omega))] at hE
    subst hE
    cbv
    refine h.loop' Unit (fun p => True) (fun p => ⟨[(0, .v (.one (.sl t 9 es))), (1, .v (.one (.sl t' 1 bs))), (2, .v (.one (.sl t'' 4 gs))), (3, vi .i64 need), (9, vi .i64 e), (10, vi .i64 0)], []⟩) (fun p => 0) () trivial (by (refine Wk.of [] rfl ?_ ?_; (· (repeat (first | exact trivial | (refine And.intro ?_ ?_; (· first | exact trivial | exact Or.inl ⟨_, rfl, rfl⟩ | exact ⟨_, rfl, rfl⟩ | exact Or.inr ⟨rfl, rfl, by decide⟩))))); (· (repeat (first | exact trivial | (refine And.intro ?_ ?_; (· first | exact trivial | exact Or.inl rfl | rfl | exact Or.inr ⟨_, _, _, _, rfl, rfl, rfl, renNo rfl⟩ | exact ⟨ne_no rfl, Or.inl ⟨_, rfl, rfl⟩⟩ | exact ⟨ne_no rfl, Or.inr ⟨rfl, _, rfl⟩⟩ | exact ⟨_, rfl, rfl, ne_no rfl⟩))))))) ?_
    rintro ⟨⟩ R - hR
    cbv
    (refine Good.len' ‹_› ?_; intro _ _; cbv)
    refine h.dec rfl (fun hp3 => ?_) (fun hp3 => ?_)
    · cbv
      (refine Good.no ‹_› rfl ?_ ?_; (· omega); cbv; refine Good.no ‹_› rfl ?_ ?_; (· omega); cbv)
      exact hQ
    · cbv
      (refine Good.no ‹_› rfl ?_ ?_; (· omega); cbv)
      exact hQ
end Go.Proofs.YtpmlocilhhjifaaGreat.Eng
end
