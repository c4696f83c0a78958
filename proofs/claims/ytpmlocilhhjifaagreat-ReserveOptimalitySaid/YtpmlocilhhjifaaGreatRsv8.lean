/- reserve.Fill, Pay and their references as callers take them; Rows, Long. -/
import Derived.Test.YtpmlocilhhjifaaGreatSrt3
section
set_option maxRecDepth 100000
set_option linter.unusedSimpArgs false
set_option linter.unusedVariables false
set_option pp.maxSteps 200
namespace Go.Proofs.YtpmlocilhhjifaaGreat.Eng
open Go.RowKit Go.Proofs
def insN (sp : Nat → Int) (n : Nat) : List Nat → List Nat
  | [] => [n]
  | y :: l => if sp n < sp y then n :: y :: l else y :: insN sp n l
def ordN (sp : Nat → Int) : Nat → List Nat
  | 0 => []
  | n + 1 => insN sp n (ordN sp n)
theorem insN_mem {sp : Nat → Int} {n : Nat} : ∀ {l : List Nat} {x : Nat}, x ∈ insN sp n l ↔ x = n ∨ x ∈ l
  | [], x => by simp [insN]
  | y :: l, x => by
    simp only [insN]
    split
    · simp
    · simp only [List.mem_cons, insN_mem (l := l)]
      constructor
      · rintro (h | h | h)
        · exact .inr (.inl h)
        · exact .inl h
        · exact .inr (.inr h)
      · rintro (h | h | h)
        · exact .inr (.inl h)
        · exact .inl h
        · exact .inr (.inr h)
theorem insN_len {sp : Nat → Int} {n : Nat} : ∀ {l : List Nat}, (insN sp n l).length = l.length + 1
  | [] => rfl
  | y :: l => by
    simp only [insN]
    split
    · rfl
    · simp [insN_len (l := l)]
theorem insN_srt {sp : Nat → Int} {n : Nat} : ∀ {l : List Nat}, l.Pairwise (lexlt sp) → (∀ x ∈ l, x < n) → (insN sp n l).Pairwise (lexlt sp)
  | [], _, _ => by simp [insN]
  | y :: l, h, hl => by
    obtain ⟨h1, h2⟩ := List.pairwise_cons.1 h
    simp only [insN]
    split
    · rename_i hs
      refine List.pairwise_cons.2 ⟨fun z hz => ?_, h⟩
      rcases List.mem_cons.1 hz with rfl | hz
      · exact .inl hs
      · exact lexlt_trans (.inl hs) (h1 z hz)
    · rename_i hs
      refine List.pairwise_cons.2 ⟨fun z hz => ?_, insN_srt h2 fun x hx => hl x (by simp [hx])⟩
      rcases insN_mem.1 hz with rfl | hz
      · have := hl y (by simp)
        unfold lexlt
        omega
      · exact h1 z hz
theorem ordN_all (sp : Nat → Int) : ∀ n, (ordN sp n).length = n ∧ (∀ x, x ∈ ordN sp n ↔ x < n) ∧ (ordN sp n).Pairwise (lexlt sp)
  | 0 => ⟨rfl, fun x => by simp [ordN], by simp [ordN]⟩
  | n + 1 => by
    obtain ⟨h1, h2, h3⟩ := ordN_all sp n
    refine ⟨by simp [ordN, insN_len, h1], fun x => ?_, insN_srt h3 fun x hx => (h2 x).1 hx⟩
    simp only [ordN, insN_mem, h2]
    omega
def ordF (us : List UD) : List Nat := ordN (spn us) us.length
theorem ordF_ord (us : List UD) : Ord us (ordF us) := by
  obtain ⟨h1, h2, h3⟩ := ordN_all (spn us) us.length
  exact ⟨h1, fun i hi => (h2 i).1 hi, fun i hi => (h2 i).2 hi, h3⟩
/-- What Fill gives. -/
def fillR (us : List UD) (os : List Bool) (rs : List Rat) (need : Int) : FS := fillF us (rmsF us os rs) (ordF us) need
theorem Qc.inj {b c : Bool} {z y : List (List D)} {b' c' : Bool} {z' y' : List (List D)} {q : Rat} (h : Qc b z b' z' q) (h' : Qc c y c' y' q) : b = c ∧ z = y ∧ b' = c' ∧ z' = y' := by
  have e := h.cell
  rw [← h'.cell] at e
  simpa using e
variable {t t' t'' : Nat} {us : List UD} {os : List Bool} {rs : List Rat} {es bs gs : List (List D)} {zs : List QD} {L : Nat}
theorem fill_s {π : Pi} (h : Good TT π) {K : List DV → Prop} {need : Int} (he : es = us.map UD.cell) (hb' : bs = bl os) (hg' : gs = zs.map QD.cell) (ho : ∀ u ∈ us, u.Ok) (hl1 : us.length ≤ 1000) (hl' : os.length ≤ 1000) (hl2 : zs.length ≤ 1000) (hz : Qrs zs rs L) (hL : L ≤ 100) (hn : inR .i64 need)
    (hk0 : fillE us os rs need = 0 → ∀ b z b' z' tk pr, Qc b z b' z' (fillR us os rs need).short → tk = qcl (fillR us os rs need).taken → pr = (fillR us os rs need).price → K [.one (.sl 1 4 tk), .one (.sc (.int .i64 pr)), qa b 1 z b' 1 z', .one (.sc (.int .i64 0))])
    (hk1 : fillE us os rs need ≠ 0 → K [.one (.sl 3 4 []), .one (.sc (.int .i64 0)), qa false 1 [] false 1 [], .one (.sc (.int .i64 (fillE us os rs need)))]) :
    π.call 12 [.one (.sl t 9 es), .one (.sl t' 1 bs), .one (.sl t'' 4 gs), .one (.sc (.int .i64 need))] K := by
  have hrow : us.length ≤ 5 → TT 38 [.one (.sl t 9 es)] [.one (.sl 1 1 (hl (ordF us)))] := fun h5 => row_c he (by omega) (ordF_ord us) rfl
  by_cases e0 : fillE us os rs need = 0
  · obtain ⟨b, z, b', z', hq⟩ := qcx (fillR us os rs need).short
    refine h.call' _ ?_ (hk0 e0 b z b' z' _ _ hq rfl rfl)
    refine con Tryz.func12 rfl (by kernel_rfl) (by kernel_rfl) fun π Q h hQ => fill_b he hb' hg' ho hl1 hl' hl2 hz hL hn rfl (ordF_ord us) rfl hrow h (fun _ c y c' y' tk pr hq2 htk hpr => ?_) (fun hh => absurd e0 hh)
    obtain ⟨rfl, rfl, rfl, rfl⟩ := hq.inj hq2
    subst htk hpr
    exact hQ
  · refine h.call' _ ?_ (hk1 e0)
    exact con Tryz.func12 rfl (by kernel_rfl) (by kernel_rfl) fun π Q h hQ => fill_b he hb' hg' ho hl1 hl' hl2 hz hL hn rfl (ordF_ord us) rfl hrow h (fun hh => absurd hh e0) (fun _ => hQ)
theorem rfill_s {π : Pi} (h : Good TT π) {K : List DV → Prop} {need : Int} (he : es = us.map UD.cell) (hb' : bs = bl os) (hg' : gs = zs.map QD.cell) (ho : ∀ u ∈ us, u.Ok) (hl1 : us.length ≤ 1000) (hl' : os.length ≤ 1000) (hl2 : zs.length ≤ 1000) (hz : Qrs zs rs L) (hL : L ≤ 100) (hn : inR .i64 need)
    (hk0 : fillE us os rs need = 0 → ∀ b z b' z' tk pr, Qc b z b' z' (fillR us os rs need).short → tk = qcl (fillR us os rs need).taken → pr = (fillR us os rs need).price → K [.one (.sl 1 4 tk), .one (.sc (.int .i64 pr)), qa b 1 z b' 1 z', .one (.sc (.int .i64 0))])
    (hk1 : fillE us os rs need ≠ 0 → K [.one (.sl 3 4 []), .one (.sc (.int .i64 0)), qa false 1 [] false 1 [], .one (.sc (.int .i64 (fillE us os rs need)))]) :
    π.call 21 [.one (.sl t 9 es), .one (.sl t' 1 bs), .one (.sl t'' 4 gs), .one (.sc (.int .i64 need))] K := by
  by_cases e0 : fillE us os rs need = 0
  · obtain ⟨b, z, b', z', hq⟩ := qcx (fillR us os rs need).short
    refine h.call' _ ?_ (hk0 e0 b z b' z' _ _ hq rfl rfl)
    refine con Tryz.func21 rfl (by kernel_rfl) (by kernel_rfl) fun π Q h hQ => rfill_b he hb' hg' ho hl1 hl' hl2 hz hL hn rfl (ordF_ord us) h (fun _ c y c' y' tk pr hq2 htk hpr => ?_) (fun hh => absurd e0 hh)
    obtain ⟨rfl, rfl, rfl, rfl⟩ := hq.inj hq2
    subst htk hpr
    exact hQ
  · refine h.call' _ ?_ (hk1 e0)
    exact con Tryz.func21 rfl (by kernel_rfl) (by kernel_rfl) fun π Q h hQ => rfill_b he hb' hg' ho hl1 hl' hl2 hz hL hn rfl (ordF_ord us) h (fun hh => absurd hh e0) (fun _ => hQ)
end Go.Proofs.YtpmlocilhhjifaaGreat.Eng
end
section
set_option maxRecDepth 100000
set_option linter.unusedSimpArgs false
set_option linter.unusedVariables false
set_option pp.maxSteps 200
namespace Go.Proofs.YtpmlocilhhjifaaGreat.Eng
open Go.RowKit Go.Proofs
def payL (rs : List Rat) (p : Rat) : List Rat := rs.map (· * p)
def sumR (l : List Rat) : Rat := l.foldl (· + ·) 0
theorem sumR_snoc (l : List Rat) (x : Rat) : sumR (l ++ [x]) = sumR l + x := by simp [sumR]
theorem sumR_take {l : List Rat} {i : Nat} {x : Rat} (h : l[i]? = some x) : sumR (l.take (i + 1)) = sumR (l.take i) + x := by
  rw [List.take_add_one, h]
  exact sumR_snoc _ _
theorem take_snoc' {α : Type} {l : List α} {i : Nat} {x : α} (h : l[i]? = some x) : l.take (i + 1) = l.take i ++ [x] := by rw [List.take_add_one, h]; rfl
variable {t t' t'' : Nat} {us : List UD} {os : List Bool} {rs : List Rat} {es bs gs : List (List D)} {zs : List QD} {L : Nat}
theorem zero_qc : Qc false [] false [] (0 : Rat) := ⟨⟨by decide, rfl⟩, by rw [if_pos (show (0 : Rat).den = 1 from rfl)]; exact ⟨rfl, rfl⟩⟩
theorem qcl_one {x : Rat} {b b' : Bool} {z z' : List (List D)} (h : Qc b z b' z' x) : [[D.sc (.bool b), D.sl 1 1 z, D.sc (.bool b'), D.sl 1 1 z']] = qcl [x] := by simp [qcl, h.cell]
theorem qcl_app (a b : List Rat) : qcl a ++ qcl b = qcl (a ++ b) := by simp [qcl]
theorem sum_bd {A k : Nat} {q x : Rat} (h : ql q ≤ 1 + A * k) (hx : ql x + 1 ≤ A) : ql (q + x) ≤ 1 + A * (k + 1) := by
  have := ql_add q x
  rw [Nat.mul_add]
  omega
theorem bd_le {A k n : Nat} (hk : k ≤ n) (h : A * n ≤ 900) : A * k ≤ 900 := Nat.le_trans (Nat.mul_le_mul_left _ hk) h
set_option maxHeartbeats 4000000 in
theorem pay_b {p : Int} {pr : Rat} (hpr : pr = (p : Rat)) (hg' : gs = zs.map QD.cell) (hz : Qrs zs rs L) (hp : inR .i64 p) (hn : zs.length ≤ 1000) (hL : (L + 4) * zs.length ≤ 900) (hL2 : L ≤ 900) {π : Pi} (h : Good TT π) {Q : List DV → Prop}
    (hQ : ∀ b z b' z' ea, Qc b z b' z' (sumR (payL rs pr)) → ea = qcl (payL rs pr) → Q [.one (.sl 1 4 ea), qa b 1 z b' 1 z']) : abody π ty Tryz.f13 [.one (.sl t 4 gs), .one (.sc (.int .i64 p))] Q := by
  have hle : gs.length = rs.length := by rw [hg', List.length_map, hz.1]
  have hz1 := hz.1
  have hpl : (payL rs pr).length = rs.length := by simp [payL]
  have hqp : ql pr ≤ 2 := by rw [hpr]; have := ql_int p; have := len2' hp; omega
  have hpg : ∀ (i : Nat) r, rs[i]? = some r → (payL rs pr)[i]? = some (r * pr) := fun i r hr => by simp [payL, hr]
  rw [hz1] at hL
  cbv
  (refine Good.len' ‹_› ?_; intro _ _; cbv)
  rename_i nl hnl
  refine h.loop' (Int × Nat × Bool × List (List D) × Bool × List (List D) × List (List D)) (fun q => q.1 = (q.2.1 : Int) ∧ q.2.1 ≤ rs.length ∧ Qc q.2.2.1 q.2.2.2.1 q.2.2.2.2.1 q.2.2.2.2.2.1 (sumR ((payL rs pr).take q.2.1)) ∧ q.2.2.2.2.2.2 = qcl ((payL rs pr).take q.2.1) ∧ ql (sumR ((payL rs pr).take q.2.1)) ≤ 1 + (L + 4) * q.2.1)
    (fun q => ⟨[(1, vi .i64 p), (4, .ow 1000), (5, .p 5 0 0 0), (9, .v (.one (.sl t 4 gs))), (10, vi .i64 nl), (11, vi .i64 q.1)], [(5, .bx [.sc (.bool q.2.2.1), .sl 1 1 q.2.2.2.1, .sc (.bool q.2.2.2.2.1), .sl 1 1 q.2.2.2.2.2.1]), (1000, .ar 31 4 q.2.2.2.2.2.2)]⟩) (fun q => rs.length - q.2.1) (0, 0, false, [], false, [], []) ⟨rfl, Nat.zero_le _, zero_qc, rfl, ql_zero⟩ (by (refine Wk.of [(5, some 5), (1000, none)] rfl ?_ ?_; (· (repeat (first | exact trivial | (refine And.intro ?_ ?_; (· first | exact trivial | exact Or.inl ⟨_, rfl, rfl⟩ | exact ⟨_, rfl, rfl⟩ | exact Or.inr ⟨rfl, rfl, by decide⟩))))); (· (repeat (first | exact trivial | (refine And.intro ?_ ?_; (· first | exact trivial | exact Or.inl rfl | rfl | exact Or.inr ⟨_, _, _, _, rfl, rfl, rfl, renNo rfl⟩ | exact ⟨ne_no rfl, Or.inl ⟨_, rfl, rfl⟩⟩ | exact ⟨ne_no rfl, Or.inr ⟨rfl, _, rfl⟩⟩ | exact ⟨_, rfl, rfl, ne_no rfl⟩))))))) ?_
  rintro ⟨iz, i, b, z, b', z', arr⟩ R ⟨hiz, hi, hS, hA, hB⟩ hR
  simp only at hiz hi hS hA hB
  have hal : arr.length = i := by rw [hA, qcl_len, List.length_take, hpl]; omega
  cbv
  refine h.dec rfl (fun hp1 => ?_) (fun hp1 => ?_)
  · obtain ⟨zq, r, g1, g2, g3⟩ := hz.get (show i < rs.length by (simp only [inR, cmpP, loOk, hiOk, Int.ofNat_eq_natCast, Int.negSucc_eq, IntKind.bits, Int.toNat_natCast, ge_iff_le, gt_iff_lt, ne_eq, wl_len, hl_len, natCast_fold, not_true_eq_false, not_false_eq_true] at * <;> omega))
    have hg := qd_get g1
    rw [← hg'] at hg
    obtain ⟨zs1, zt, zx, zs2, zt', zy⟩ := zq
    simp only at hg g3
    have hqr := g3.ql
    have hx := hpg i r g2
    have hxq := ql_mul r pr
    have h9 := bd_le hi hL
    have hb2 := sum_bd hB (show ql (r * pr) + 1 ≤ L + 4 by
      rcases Nat.eq_zero_or_pos L with h0 | h0
      · subst h0; omega
      · omega)
    rw [← sumR_take hx] at hb2
    have hts := take_snoc' hx
    have hss := sumR_take hx
    cbv
    refine h.get' i _ hiz hg ?_
    cbv
    skip
    refine ffromInt_s h hp fun b1 z1 hq1 => ?_
    have hq1 : Qc b1 z1 false [] pr := by rw [hpr]; exact hq1
    cbv
    refine fmul_s h (l := 1000) (g3.le (by omega)) (hq1.r.le (by omega)) (by omega) fun b2 z2 b3 z3 hq2 => ?_
    have ho := qcl_one hq2
    cbv
    (refine Good.chk' ‹_› rfl ?_; cbv)
    refine h.app' (by decide) (fun y hy => by simp at hy; rw [hy]; rfl) (by simp [maxLen]; omega) (by simp; omega) fun arr2 harr2 => ?_
    rw [ho, hA, qcl_app, ← hts] at harr2
    cbv
    refine fadd_s h (l := 1000) (hS.r.le (by omega)) (hq2.r.le (by omega)) (by omega) fun b4 z4 b5 z5 hq4 => ?_
    rw [← hss] at hq4
    cbv
    (refine Good.add' ‹_› ?_ ?_; (· (simp only [inR, cmpP, loOk, hiOk, Int.ofNat_eq_natCast, Int.negSucc_eq, IntKind.bits, Int.toNat_natCast, ge_iff_le, gt_iff_lt, ne_eq, wl_len, hl_len, natCast_fold, not_true_eq_false, not_false_eq_true] at * <;> omega)); intro _ _; cbv)
    rename_i i1 hi1
    refine hR _ (i1, i + 1, b4, z4, b5, z5, arr2) ⟨by simp only; (simp only [inR, cmpP, loOk, hiOk, Int.ofNat_eq_natCast, Int.negSucc_eq, IntKind.bits, Int.toNat_natCast, ge_iff_le, gt_iff_lt, ne_eq, wl_len, hl_len, natCast_fold, not_true_eq_false, not_false_eq_true] at * <;> omega), by simp only; (simp only [inR, cmpP, loOk, hiOk, Int.ofNat_eq_natCast, Int.negSucc_eq, IntKind.bits, Int.toNat_natCast, ge_iff_le, gt_iff_lt, ne_eq, wl_len, hl_len, natCast_fold, not_true_eq_false, not_false_eq_true] at * <;> omega), hq4, harr2, hb2⟩ (by simp only; (simp only [inR, cmpP, loOk, hiOk, Int.ofNat_eq_natCast, Int.negSucc_eq, IntKind.bits, Int.toNat_natCast, ge_iff_le, gt_iff_lt, ne_eq, wl_len, hl_len, natCast_fold, not_true_eq_false, not_false_eq_true] at * <;> omega)) (by (refine Wk.of [(5, some 5), (1000, some 22)] rfl ?_ ?_; (· (repeat (first | exact trivial | (refine And.intro ?_ ?_; (· first | exact trivial | exact Or.inl ⟨_, rfl, rfl⟩ | exact ⟨_, rfl, rfl⟩ | exact Or.inr ⟨rfl, rfl, by decide⟩))))); (· (repeat (first | exact trivial | (refine And.intro ?_ ?_; (· first | exact trivial | exact Or.inl rfl | rfl | exact Or.inr ⟨_, _, _, _, rfl, rfl, rfl, renNo rfl⟩ | exact ⟨ne_no rfl, Or.inl ⟨_, rfl, rfl⟩⟩ | exact ⟨ne_no rfl, Or.inr ⟨rfl, _, rfl⟩⟩ | exact ⟨_, rfl, rfl, ne_no rfl⟩)))))))
  · have hi2 : i = rs.length := by (simp only [inR, cmpP, loOk, hiOk, Int.ofNat_eq_natCast, Int.negSucc_eq, IntKind.bits, Int.toNat_natCast, ge_iff_le, gt_iff_lt, ne_eq, wl_len, hl_len, natCast_fold, not_true_eq_false, not_false_eq_true] at * <;> omega)
    rw [hi2, ← hpl, List.take_length] at hS hA
    have hQ := hQ b z b' z' arr hS hA
    cbv
    (refine Good.chk' ‹_› rfl ?_; cbv)
    exact hQ
set_option maxHeartbeats 4000000 in
theorem rpay_b {p : Int} {pr : Rat} (hpr : pr = (p : Rat)) (hg' : gs = zs.map QD.cell) (hz : Qrs zs rs L) (hp : inR .i64 p) (hn : zs.length ≤ 1000) (hL : (L + 4) * zs.length ≤ 900) (hL2 : L ≤ 900) {π : Pi} (h : Good TT π) {Q : List DV → Prop}
    (hQ : ∀ b z b' z' ea, Qc b z b' z' (sumR (payL rs pr)) → ea = qcl (payL rs pr) → Q [.one (.sl 1 4 ea), qa b 1 z b' 1 z']) : abody π ty Tryz.f25 [.one (.sl t 4 gs), .one (.sc (.int .i64 p))] Q := by
  have hle : gs.length = rs.length := by rw [hg', List.length_map, hz.1]
  have hz1 := hz.1
  have hpl : (payL rs pr).length = rs.length := by simp [payL]
  have hqp : ql pr ≤ 2 := by rw [hpr]; have := ql_int p; have := len2' hp; omega
  have hpg : ∀ (i : Nat) r, rs[i]? = some r → (payL rs pr)[i]? = some (r * pr) := fun i r hr => by simp [payL, hr]
  rw [hz1] at hL
  cbv
  refine rrint_s h (n := 0) (by (simp only [inR, cmpP, loOk, hiOk, Int.ofNat_eq_natCast, Int.negSucc_eq, IntKind.bits, Int.toNat_natCast, ge_iff_le, gt_iff_lt, ne_eq, wl_len, hl_len, natCast_fold, not_true_eq_false, not_false_eq_true] at * <;> omega)) fun b0 z0 hq0 => ?_
  have hq0 : Qc b0 z0 false [] (0 : Rat) := hq0
  cbv
  refine h.loop' (Int × Nat × Bool × List (List D) × Bool × List (List D) × List (List D)) (fun q => q.1 = (q.2.1 : Int) ∧ q.2.1 ≤ rs.length ∧ Qc q.2.2.1 q.2.2.2.1 q.2.2.2.2.1 q.2.2.2.2.2.1 (sumR ((payL rs pr).take q.2.1)) ∧ q.2.2.2.2.2.2 = qcl ((payL rs pr).take q.2.1) ∧ ql (sumR ((payL rs pr).take q.2.1)) ≤ 1 + (L + 4) * q.2.1)
    (fun q => ⟨[(0, .v (.one (.sl t 4 gs))), (1, vi .i64 p), (5, .p 5 0 0 0), (6, .ow 1000), (7, .p 7 0 0 0), (8, vi .i64 q.1)], [(5, .bx [.sc (.bool false), .sl 1 1 [], .sc (.bool false), .sl 1 1 []]), (7, .bx [.sc (.bool q.2.2.1), .sl 1 1 q.2.2.2.1, .sc (.bool q.2.2.2.2.1), .sl 1 1 q.2.2.2.2.2.1]), (1000, .ar 31 4 q.2.2.2.2.2.2)]⟩) (fun q => rs.length - q.2.1) (0, 0, b0, z0, false, [], []) ⟨rfl, Nat.zero_le _, hq0, rfl, ql_zero⟩ (by (refine Wk.of [(5, some 5), (7, some 7), (1000, none)] rfl ?_ ?_; (· (repeat (first | exact trivial | (refine And.intro ?_ ?_; (· first | exact trivial | exact Or.inl ⟨_, rfl, rfl⟩ | exact ⟨_, rfl, rfl⟩ | exact Or.inr ⟨rfl, rfl, by decide⟩))))); (· (repeat (first | exact trivial | (refine And.intro ?_ ?_; (· first | exact trivial | exact Or.inl rfl | rfl | exact Or.inr ⟨_, _, _, _, rfl, rfl, rfl, renNo rfl⟩ | exact ⟨ne_no rfl, Or.inl ⟨_, rfl, rfl⟩⟩ | exact ⟨ne_no rfl, Or.inr ⟨rfl, _, rfl⟩⟩ | exact ⟨_, rfl, rfl, ne_no rfl⟩))))))) ?_
  rintro ⟨iz, i, b, z, b', z', arr⟩ R ⟨hiz, hi, hS, hA, hB⟩ hR
  simp only at hiz hi hS hA hB
  have hal : arr.length = i := by rw [hA, qcl_len, List.length_take, hpl]; omega
  cbv
  (refine Good.len' ‹_› ?_; intro _ _; cbv)
  refine h.dec rfl (fun hp1 => ?_) (fun hp1 => ?_)
  · obtain ⟨zq, r, g1, g2, g3⟩ := hz.get (show i < rs.length by (simp only [inR, cmpP, loOk, hiOk, Int.ofNat_eq_natCast, Int.negSucc_eq, IntKind.bits, Int.toNat_natCast, ge_iff_le, gt_iff_lt, ne_eq, wl_len, hl_len, natCast_fold, not_true_eq_false, not_false_eq_true] at * <;> omega))
    have hg := qd_get g1
    rw [← hg'] at hg
    obtain ⟨zs1, zt, zx, zs2, zt', zy⟩ := zq
    simp only at hg g3
    have hqr := g3.ql
    have hx := hpg i r g2
    have hxq := ql_mul r pr
    have h9 := bd_le hi hL
    have hb2 := sum_bd hB (show ql (r * pr) + 1 ≤ L + 4 by omega)
    rw [← sumR_take hx] at hb2
    have hts := take_snoc' hx
    have hss := sumR_take hx
    cbv
    refine h.get' i _ hiz hg ?_
    cbv
    refine rrint_s h hp fun b1 z1 hq1 => ?_
    have hq1 : Qc b1 z1 false [] pr := by rw [hpr]; exact hq1
    cbv
    refine rrmul_s h (l := 1000) (g3.le (by omega)) (hq1.r.le (by omega)) (by omega) fun b2 z2 b3 z3 hq2 => ?_
    have ho := qcl_one hq2
    cbv
    skip
    refine h.app' (by decide) (fun y hy => by simp at hy; rw [hy]; rfl) (by simp [maxLen]; omega) (by simp; omega) fun arr2 harr2 => ?_
    rw [ho, hA, qcl_app, ← hts] at harr2
    have hal2 : arr2.length = i + 1 := by rw [harr2, qcl_len, List.length_take, hpl]; (simp only [inR, cmpP, loOk, hiOk, Int.ofNat_eq_natCast, Int.negSucc_eq, IntKind.bits, Int.toNat_natCast, ge_iff_le, gt_iff_lt, ne_eq, wl_len, hl_len, natCast_fold, not_true_eq_false, not_false_eq_true] at * <;> omega)
    have hge2 : arr2[i]? = some [.sc (.bool b2), .sl 1 1 z2, .sc (.bool b3), .sl 1 1 z3] := by
      rw [harr2, hq2.cell]
      refine qcl_get ?_
      rw [List.getElem?_take, if_pos (by omega)]
      exact hx
    cbv
    (refine Good.chk' ‹_› rfl ?_; cbv)
    refine h.inb' i hiz (by rw [hal2]; omega) fun j hj => ?_
    replace hj := hj.symm
    subst hj
    cbv
    refine h.getN' _ hge2 ?_
    cbv
    refine rradd_s h (l := 1000) (hS.r.le (by omega)) (hq2.r.le (by omega)) (by omega) fun b4 z4 b5 z5 hq4 => ?_
    rw [← hss] at hq4
    cbv
    (refine Good.chk' ‹_› rfl ?_; cbv; refine Good.add' ‹_› ?_ ?_; (· (simp only [inR, cmpP, loOk, hiOk, Int.ofNat_eq_natCast, Int.negSucc_eq, IntKind.bits, Int.toNat_natCast, ge_iff_le, gt_iff_lt, ne_eq, wl_len, hl_len, natCast_fold, not_true_eq_false, not_false_eq_true] at * <;> omega)); intro _ _; cbv)
    rename_i i1 hi1
    refine hR _ (i1, i + 1, b4, z4, b5, z5, arr2) ⟨by simp only; (simp only [inR, cmpP, loOk, hiOk, Int.ofNat_eq_natCast, Int.negSucc_eq, IntKind.bits, Int.toNat_natCast, ge_iff_le, gt_iff_lt, ne_eq, wl_len, hl_len, natCast_fold, not_true_eq_false, not_false_eq_true] at * <;> omega), by simp only; (simp only [inR, cmpP, loOk, hiOk, Int.ofNat_eq_natCast, Int.negSucc_eq, IntKind.bits, Int.toNat_natCast, ge_iff_le, gt_iff_lt, ne_eq, wl_len, hl_len, natCast_fold, not_true_eq_false, not_false_eq_true] at * <;> omega), hq4, harr2, hb2⟩ (by simp only; (simp only [inR, cmpP, loOk, hiOk, Int.ofNat_eq_natCast, Int.negSucc_eq, IntKind.bits, Int.toNat_natCast, ge_iff_le, gt_iff_lt, ne_eq, wl_len, hl_len, natCast_fold, not_true_eq_false, not_false_eq_true] at * <;> omega)) (by (refine Wk.of [(5, some 5), (7, some 7), (1000, some 25)] rfl ?_ ?_; (· (repeat (first | exact trivial | (refine And.intro ?_ ?_; (· first | exact trivial | exact Or.inl ⟨_, rfl, rfl⟩ | exact ⟨_, rfl, rfl⟩ | exact Or.inr ⟨rfl, rfl, by decide⟩))))); (· (repeat (first | exact trivial | (refine And.intro ?_ ?_; (· first | exact trivial | exact Or.inl rfl | rfl | exact Or.inr ⟨_, _, _, _, rfl, rfl, rfl, renNo rfl⟩ | exact ⟨ne_no rfl, Or.inl ⟨_, rfl, rfl⟩⟩ | exact ⟨ne_no rfl, Or.inr ⟨rfl, _, rfl⟩⟩ | exact ⟨_, rfl, rfl, ne_no rfl⟩)))))))
  · have hi2 : i = rs.length := by (simp only [inR, cmpP, loOk, hiOk, Int.ofNat_eq_natCast, Int.negSucc_eq, IntKind.bits, Int.toNat_natCast, ge_iff_le, gt_iff_lt, ne_eq, wl_len, hl_len, natCast_fold, not_true_eq_false, not_false_eq_true] at * <;> omega)
    rw [hi2, ← hpl, List.take_length] at hS hA
    have hQ := hQ b z b' z' arr hS hA
    cbv
    (refine Good.chk' ‹_› rfl ?_; cbv)
    exact hQ
theorem pay_s {π : Pi} (h : Good TT π) {K : List DV → Prop} {p : Int} (hg' : gs = zs.map QD.cell) (hz : Qrs zs rs L) (hp : inR .i64 p) (hn : zs.length ≤ 1000) (hL : (L + 4) * zs.length ≤ 900) (hL2 : L ≤ 900)
    (hk : ∀ b z b' z' ea, Qc b z b' z' (sumR (payL rs (p : Rat))) → ea = qcl (payL rs (p : Rat)) → K [.one (.sl 1 4 ea), qa b 1 z b' 1 z']) : π.call 13 [.one (.sl t 4 gs), .one (.sc (.int .i64 p))] K := by
  obtain ⟨b, z, b', z', hq⟩ := qcx (sumR (payL rs (p : Rat)))
  refine h.call' _ ?_ (hk b z b' z' _ hq rfl)
  refine con Tryz.func13 rfl (by kernel_rfl) (by kernel_rfl) fun π Q h hQ => pay_b rfl hg' hz hp hn hL hL2 h (fun c y c' y' ea hq2 hea => ?_)
  obtain ⟨rfl, rfl, rfl, rfl⟩ := hq.inj hq2
  subst hea
  exact hQ
theorem rpay_s {π : Pi} (h : Good TT π) {K : List DV → Prop} {p : Int} (hg' : gs = zs.map QD.cell) (hz : Qrs zs rs L) (hp : inR .i64 p) (hn : zs.length ≤ 1000) (hL : (L + 4) * zs.length ≤ 900) (hL2 : L ≤ 900)
    (hk : ∀ b z b' z' ea, Qc b z b' z' (sumR (payL rs (p : Rat))) → ea = qcl (payL rs (p : Rat)) → K [.one (.sl 1 4 ea), qa b 1 z b' 1 z']) : π.call 25 [.one (.sl t 4 gs), .one (.sc (.int .i64 p))] K := by
  obtain ⟨b, z, b', z', hq⟩ := qcx (sumR (payL rs (p : Rat)))
  refine h.call' _ ?_ (hk b z b' z' _ hq rfl)
  refine con Tryz.func25 rfl (by kernel_rfl) (by kernel_rfl) fun π Q h hQ => rpay_b rfl hg' hz hp hn hL hL2 h (fun c y c' y' ea hq2 hea => ?_)
  obtain ⟨rfl, rfl, rfl, rfl⟩ := hq.inj hq2
  subst hea
  exact hQ
end Go.Proofs.YtpmlocilhhjifaaGreat.Eng
end
section
set_option maxRecDepth 100000
set_option linter.unusedSimpArgs false
set_option linter.unusedVariables false
set_option pp.maxSteps 200
namespace Go.Proofs.YtpmlocilhhjifaaGreat.Eng
open Go.RowKit Go.Proofs
variable {t t' t'' : Nat} {us : List UD} {os : List Bool} {rs : List Rat} {es bs gs : List (List D)} {zs : List QD} {L : Nat}
theorem take_eq_succ {α : Type} {a b : List α} {i : Nat} {x : α} (h : a.take i = b.take i) (ha : a[i]? = some x) (hb : b[i]? = some x) : a.take (i + 1) = b.take (i + 1) := by rw [List.take_add_one, List.take_add_one, h, ha, hb]
theorem rows_c {va bs : List Rat} {xs ys : List (List D)} {c : Bool} (hx : xs = qcl va) (hy : ys = qcl bs) (ha : ∀ r ∈ va, ql r ≤ 10000) (hb : ∀ r ∈ bs, ql r ≤ 10000) (hl : va.length ≤ 1000000) (hc : c = decide (va = bs)) :
    TT 23 [.one (.sl t 4 xs), .one (.sl t' 4 ys)] [.one (.sc (.bool c))] := by
  refine con Tryz.func23 rfl (by kernel_rfl) (by kernel_rfl) fun π Q h hQ => ?_
  have hxl : xs.length = va.length := by rw [hx, qcl_len]
  have hyl : ys.length = bs.length := by rw [hy, qcl_len]
  cbv
  (refine Good.len' ‹_› ?_; intro _ _; cbv; refine Good.len' ‹_› ?_; intro _ _; cbv)
  refine h.dec rfl (fun hp => ?_) (fun hp => ?_)
  · have : c = false := by rw [hc]; exact decide_eq_false fun e => by rw [e] at hxl; (simp only [inR, cmpP, loOk, hiOk, Int.ofNat_eq_natCast, Int.negSucc_eq, IntKind.bits, Int.toNat_natCast, ge_iff_le, gt_iff_lt, ne_eq, wl_len, hl_len, natCast_fold, not_true_eq_false, not_false_eq_true] at * <;> omega)
    subst this
    cbv
    skip
    exact hQ
  · cbv
    refine h.loop' (Int × Nat) (fun p => p.1 = (p.2 : Int) ∧ p.2 ≤ va.length ∧ va.take p.2 = bs.take p.2) (fun p => ⟨[(0, .v (.one (.sl t 4 xs))), (1, .v (.one (.sl t' 4 ys))), (5, vi .i64 p.1)], []⟩) (fun p => va.length - p.2) (0, 0) ⟨rfl, Nat.zero_le _, rfl⟩ (by (refine Wk.of [] rfl ?_ ?_; (· (repeat (first | exact trivial | (refine And.intro ?_ ?_; (· first | exact trivial | exact Or.inl ⟨_, rfl, rfl⟩ | exact ⟨_, rfl, rfl⟩ | exact Or.inr ⟨rfl, rfl, by decide⟩))))); (· (repeat (first | exact trivial | (refine And.intro ?_ ?_; (· first | exact trivial | exact Or.inl rfl | rfl | exact Or.inr ⟨_, _, _, _, rfl, rfl, rfl, renNo rfl⟩ | exact ⟨ne_no rfl, Or.inl ⟨_, rfl, rfl⟩⟩ | exact ⟨ne_no rfl, Or.inr ⟨rfl, _, rfl⟩⟩ | exact ⟨_, rfl, rfl, ne_no rfl⟩))))))) ?_
    rintro ⟨iz, i⟩ R ⟨hiz, hi, hv⟩ hR
    simp only at hiz hi hv
    cbv
    (refine Good.len' ‹_› ?_; intro _ _; cbv)
    refine h.dec rfl (fun hp2 => ?_) (fun hp2 => ?_)
    · obtain ⟨p, hgp⟩ : ∃ p, va[i]? = some p := ⟨va[i]'(by (simp only [inR, cmpP, loOk, hiOk, Int.ofNat_eq_natCast, Int.negSucc_eq, IntKind.bits, Int.toNat_natCast, ge_iff_le, gt_iff_lt, ne_eq, wl_len, hl_len, natCast_fold, not_true_eq_false, not_false_eq_true] at * <;> omega)), List.getElem?_eq_getElem _⟩
      obtain ⟨q, hgq⟩ : ∃ q, bs[i]? = some q := ⟨bs[i]'(by (simp only [inR, cmpP, loOk, hiOk, Int.ofNat_eq_natCast, Int.negSucc_eq, IntKind.bits, Int.toNat_natCast, ge_iff_le, gt_iff_lt, ne_eq, wl_len, hl_len, natCast_fold, not_true_eq_false, not_false_eq_true] at * <;> omega)), List.getElem?_eq_getElem _⟩
      obtain ⟨b1, z1, b2, z2, k1, e1⟩ := qcell_ex p
      obtain ⟨b3, z3, b4, z4, k2, e2⟩ := qcell_ex q
      have g1 := qcl_get hgp
      have g2 := qcl_get hgq
      rw [e1, ← hx] at g1
      rw [e2, ← hy] at g2
      cbv
      refine h.get' i _ hiz g1 ?_
      cbv
      refine h.get' i _ hiz g2 ?_
      cbv
      refine is_q h k1 k2 (ha p (List.mem_of_getElem? hgp)) (hb q (List.mem_of_getElem? hgq)) fun c1 hc1 => ?_
      by_cases hpq : p = q
      · have : c1 = true := by rw [hc1]; exact decide_eq_true hpq
        subst this
        subst hpq
        cbv
        (refine Good.chk' ‹_› rfl ?_; cbv; refine Good.add' ‹_› ?_ ?_; (· (simp only [inR, cmpP, loOk, hiOk, Int.ofNat_eq_natCast, Int.negSucc_eq, IntKind.bits, Int.toNat_natCast, ge_iff_le, gt_iff_lt, ne_eq, wl_len, hl_len, natCast_fold, not_true_eq_false, not_false_eq_true] at * <;> omega)); intro _ _; cbv)
        rename_i i1 hi1
        refine hR _ (i1, i + 1) ⟨by simp only; (simp only [inR, cmpP, loOk, hiOk, Int.ofNat_eq_natCast, Int.negSucc_eq, IntKind.bits, Int.toNat_natCast, ge_iff_le, gt_iff_lt, ne_eq, wl_len, hl_len, natCast_fold, not_true_eq_false, not_false_eq_true] at * <;> omega), by simp only; (simp only [inR, cmpP, loOk, hiOk, Int.ofNat_eq_natCast, Int.negSucc_eq, IntKind.bits, Int.toNat_natCast, ge_iff_le, gt_iff_lt, ne_eq, wl_len, hl_len, natCast_fold, not_true_eq_false, not_false_eq_true] at * <;> omega), take_eq_succ hv hgp hgq⟩ (by simp only; (simp only [inR, cmpP, loOk, hiOk, Int.ofNat_eq_natCast, Int.negSucc_eq, IntKind.bits, Int.toNat_natCast, ge_iff_le, gt_iff_lt, ne_eq, wl_len, hl_len, natCast_fold, not_true_eq_false, not_false_eq_true] at * <;> omega)) (by (refine Wk.of [] rfl ?_ ?_; (· (repeat (first | exact trivial | (refine And.intro ?_ ?_; (· first | exact trivial | exact Or.inl ⟨_, rfl, rfl⟩ | exact ⟨_, rfl, rfl⟩ | exact Or.inr ⟨rfl, rfl, by decide⟩))))); (· (repeat (first | exact trivial | (refine And.intro ?_ ?_; (· first | exact trivial | exact Or.inl rfl | rfl | exact Or.inr ⟨_, _, _, _, rfl, rfl, rfl, renNo rfl⟩ | exact ⟨ne_no rfl, Or.inl ⟨_, rfl, rfl⟩⟩ | exact ⟨ne_no rfl, Or.inr ⟨rfl, _, rfl⟩⟩ | exact ⟨_, rfl, rfl, ne_no rfl⟩)))))))
      · have : c1 = false := by rw [hc1]; exact decide_eq_false hpq
        subst this
        have : c = false := by
          rw [hc]
          refine decide_eq_false fun e => hpq ?_
          rw [e, hgq] at hgp
          exact (Option.some.inj hgp).symm
        subst this
        cbv
        (refine Good.chk' ‹_› rfl ?_; cbv)
        exact hQ
    · have hi2 : i = va.length := by (simp only [inR, cmpP, loOk, hiOk, Int.ofNat_eq_natCast, Int.negSucc_eq, IntKind.bits, Int.toNat_natCast, ge_iff_le, gt_iff_lt, ne_eq, wl_len, hl_len, natCast_fold, not_true_eq_false, not_false_eq_true] at * <;> omega)
      have : c = true := by
        rw [hc]
        refine decide_eq_true ?_
        rw [hi2, List.take_length, List.take_of_length_le (by (simp only [inR, cmpP, loOk, hiOk, Int.ofNat_eq_natCast, Int.negSucc_eq, IntKind.bits, Int.toNat_natCast, ge_iff_le, gt_iff_lt, ne_eq, wl_len, hl_len, natCast_fold, not_true_eq_false, not_false_eq_true] at * <;> omega))] at hv
        exact hv
      subst this
      cbv
      skip
      exact hQ
theorem rows_s {π : Pi} (h : Good TT π) {K : List DV → Prop} {va bs : List Rat} {xs ys : List (List D)} (hx : xs = qcl va) (hy : ys = qcl bs) (ha : ∀ r ∈ va, ql r ≤ 10000) (hb : ∀ r ∈ bs, ql r ≤ 10000) (hl : va.length ≤ 1000000) (hk : ∀ c, c = decide (va = bs) → K [.one (.sc (.bool c))]) :
    π.call 23 [.one (.sl t 4 xs), .one (.sl t' 4 ys)] K := h.call' _ (rows_c hx hy ha hb hl rfl) (hk _ rfl)
def QD.long (z : QD) : Bool := decide (6 < z.xs.length ∨ 6 < z.ys.length)
theorem long23_c {c : Bool} (hg : gs = zs.map QD.cell) (hl : zs.length ≤ 1000000) (hc : c = zs.any QD.long) : TT 34 [.one (.sl t 4 gs)] [.one (.sc (.bool c))] := by
  refine con Tryz.func34 rfl (by kernel_rfl) (by kernel_rfl) fun π Q h hQ => ?_
  have hle : gs.length = zs.length := by rw [hg]; simp
  cbv
  refine h.loop' (Int × Nat) (fun p => p.1 = (p.2 : Int) ∧ p.2 ≤ zs.length ∧ ((zs.take p.2).any QD.long) = false) (fun p => ⟨[(0, .v (.one (.sl t 4 gs))), (3, vi .i64 p.1)], []⟩) (fun p => zs.length - p.2) (0, 0) ⟨rfl, Nat.zero_le _, rfl⟩ (by (refine Wk.of [] rfl ?_ ?_; (· (repeat (first | exact trivial | (refine And.intro ?_ ?_; (· first | exact trivial | exact Or.inl ⟨_, rfl, rfl⟩ | exact ⟨_, rfl, rfl⟩ | exact Or.inr ⟨rfl, rfl, by decide⟩))))); (· (repeat (first | exact trivial | (refine And.intro ?_ ?_; (· first | exact trivial | exact Or.inl rfl | rfl | exact Or.inr ⟨_, _, _, _, rfl, rfl, rfl, renNo rfl⟩ | exact ⟨ne_no rfl, Or.inl ⟨_, rfl, rfl⟩⟩ | exact ⟨ne_no rfl, Or.inr ⟨rfl, _, rfl⟩⟩ | exact ⟨_, rfl, rfl, ne_no rfl⟩))))))) ?_
  rintro ⟨iz, i⟩ R ⟨hiz, hi, hv⟩ hR
  simp only at hiz hi hv
  cbv
  (refine Good.len' ‹_› ?_; intro _ _; cbv)
  refine h.dec rfl (fun hp => ?_) (fun hp => ?_)
  · obtain ⟨z, hgz⟩ : ∃ z, zs[i]? = some z := ⟨zs[i]'(by (simp only [inR, cmpP, loOk, hiOk, Int.ofNat_eq_natCast, Int.negSucc_eq, IntKind.bits, Int.toNat_natCast, ge_iff_le, gt_iff_lt, ne_eq, wl_len, hl_len, natCast_fold, not_true_eq_false, not_false_eq_true] at * <;> omega)), List.getElem?_eq_getElem _⟩
    have hge := qd_get hgz
    rw [← hg] at hge
    obtain ⟨zs1, zt, zx, zs2, zt', zy⟩ := z
    simp only at hge
    have yes : (6 < zx.length ∨ 6 < zy.length) → c = true := fun hh => by
      rw [hc, List.any_eq_true]
      exact ⟨_, List.mem_of_getElem? hgz, decide_eq_true hh⟩
    cbv
    refine h.get' i _ hiz hge ?_
    cbv
    (refine Good.len' ‹_› ?_; intro _ _; cbv)
    refine h.dec rfl (fun hp2 => ?_) (fun hp2 => ?_)
    · have := yes (by (simp only [inR, cmpP, loOk, hiOk, Int.ofNat_eq_natCast, Int.negSucc_eq, IntKind.bits, Int.toNat_natCast, ge_iff_le, gt_iff_lt, ne_eq, wl_len, hl_len, natCast_fold, not_true_eq_false, not_false_eq_true] at * <;> omega))
      rw [this] at hQ
      cbv
      skip
      exact hQ
    · cbv
      refine h.get' i _ hiz hge ?_
      cbv
      (refine Good.len' ‹_› ?_; intro _ _; cbv)
      refine h.dec rfl (fun hp3 => ?_) (fun hp3 => ?_)
      · have := yes (by (simp only [inR, cmpP, loOk, hiOk, Int.ofNat_eq_natCast, Int.negSucc_eq, IntKind.bits, Int.toNat_natCast, ge_iff_le, gt_iff_lt, ne_eq, wl_len, hl_len, natCast_fold, not_true_eq_false, not_false_eq_true] at * <;> omega))
        rw [this] at hQ
        cbv
        skip
        exact hQ
      · cbv
        (refine Good.add' ‹_› ?_ ?_; (· (simp only [inR, cmpP, loOk, hiOk, Int.ofNat_eq_natCast, Int.negSucc_eq, IntKind.bits, Int.toNat_natCast, ge_iff_le, gt_iff_lt, ne_eq, wl_len, hl_len, natCast_fold, not_true_eq_false, not_false_eq_true] at * <;> omega)); intro _ _; cbv)
        rename_i i1 hi1
        refine hR _ (i1, i + 1) ⟨by simp only; (simp only [inR, cmpP, loOk, hiOk, Int.ofNat_eq_natCast, Int.negSucc_eq, IntKind.bits, Int.toNat_natCast, ge_iff_le, gt_iff_lt, ne_eq, wl_len, hl_len, natCast_fold, not_true_eq_false, not_false_eq_true] at * <;> omega), by simp only; (simp only [inR, cmpP, loOk, hiOk, Int.ofNat_eq_natCast, Int.negSucc_eq, IntKind.bits, Int.toNat_natCast, ge_iff_le, gt_iff_lt, ne_eq, wl_len, hl_len, natCast_fold, not_true_eq_false, not_false_eq_true] at * <;> omega), ?_⟩ (by simp only; (simp only [inR, cmpP, loOk, hiOk, Int.ofNat_eq_natCast, Int.negSucc_eq, IntKind.bits, Int.toNat_natCast, ge_iff_le, gt_iff_lt, ne_eq, wl_len, hl_len, natCast_fold, not_true_eq_false, not_false_eq_true] at * <;> omega)) (by (refine Wk.of [] rfl ?_ ?_; (· (repeat (first | exact trivial | (refine And.intro ?_ ?_; (· first | exact trivial | exact Or.inl ⟨_, rfl, rfl⟩ | exact ⟨_, rfl, rfl⟩ | exact Or.inr ⟨rfl, rfl, by decide⟩))))); (· (repeat (first | exact trivial | (refine And.intro ?_ ?_; (· first | exact trivial | exact Or.inl rfl | rfl | exact Or.inr ⟨_, _, _, _, rfl, rfl, rfl, renNo rfl⟩ | exact ⟨ne_no rfl, Or.inl ⟨_, rfl, rfl⟩⟩ | exact ⟨ne_no rfl, Or.inr ⟨rfl, _, rfl⟩⟩ | exact ⟨_, rfl, rfl, ne_no rfl⟩)))))))
        show ((zs.take (i + 1)).any QD.long) = false
        rw [List.take_add_one, hgz]
        simp only [Option.toList_some, List.any_append, hv, List.any_cons, List.any_nil, Bool.or_false, Bool.false_or]
        exact decide_eq_false (by (simp only [inR, cmpP, loOk, hiOk, Int.ofNat_eq_natCast, Int.negSucc_eq, IntKind.bits, Int.toNat_natCast, ge_iff_le, gt_iff_lt, ne_eq, wl_len, hl_len, natCast_fold, not_true_eq_false, not_false_eq_true] at * <;> omega))
  · have hi2 : i = zs.length := by (simp only [inR, cmpP, loOk, hiOk, Int.ofNat_eq_natCast, Int.negSucc_eq, IntKind.bits, Int.toNat_natCast, ge_iff_le, gt_iff_lt, ne_eq, wl_len, hl_len, natCast_fold, not_true_eq_false, not_false_eq_true] at * <;> omega)
    rw [hi2, List.take_length, ← hc] at hv
    rw [hv] at hQ
    cbv
    skip
    exact hQ
def UD.long (u : UD) : Bool := decide (20 < u.steps.length)
theorem long28_c {c : Bool} (he : es = us.map UD.cell) (hc : c = (decide (30 < us.length) || decide (30 < bs.length) || us.any UD.long)) : TT 33 [.one (.sl t 9 es), .one (.sl t' 1 bs)] [.one (.sc (.bool c))] := by
  refine con Tryz.func33 rfl (by kernel_rfl) (by kernel_rfl) fun π Q h hQ => ?_
  have hle : es.length = us.length := by rw [he]; simp
  cbv
  (refine Good.len' ‹_› ?_; intro _ _; cbv)
  refine h.dec rfl (fun hp => ?_) (fun hp => ?_)
  · have : c = true := by rw [hc, decide_eq_true (show 30 < us.length by (simp only [inR, cmpP, loOk, hiOk, Int.ofNat_eq_natCast, Int.negSucc_eq, IntKind.bits, Int.toNat_natCast, ge_iff_le, gt_iff_lt, ne_eq, wl_len, hl_len, natCast_fold, not_true_eq_false, not_false_eq_true] at * <;> omega))]; rfl
    subst this
    cbv
    skip
    exact hQ
  · have d1 : decide (30 < us.length) = false := decide_eq_false (by (simp only [inR, cmpP, loOk, hiOk, Int.ofNat_eq_natCast, Int.negSucc_eq, IntKind.bits, Int.toNat_natCast, ge_iff_le, gt_iff_lt, ne_eq, wl_len, hl_len, natCast_fold, not_true_eq_false, not_false_eq_true] at * <;> omega))
    rw [d1, Bool.false_or] at hc
    cbv
    (refine Good.len' ‹_› ?_; intro _ _; cbv)
    refine h.dec rfl (fun hp2 => ?_) (fun hp2 => ?_)
    · have : c = true := by rw [hc, decide_eq_true (show 30 < bs.length by (simp only [inR, cmpP, loOk, hiOk, Int.ofNat_eq_natCast, Int.negSucc_eq, IntKind.bits, Int.toNat_natCast, ge_iff_le, gt_iff_lt, ne_eq, wl_len, hl_len, natCast_fold, not_true_eq_false, not_false_eq_true] at * <;> omega))]; rfl
      subst this
      cbv
      skip
      exact hQ
    · have d2 : decide (30 < bs.length) = false := decide_eq_false (by (simp only [inR, cmpP, loOk, hiOk, Int.ofNat_eq_natCast, Int.negSucc_eq, IntKind.bits, Int.toNat_natCast, ge_iff_le, gt_iff_lt, ne_eq, wl_len, hl_len, natCast_fold, not_true_eq_false, not_false_eq_true] at * <;> omega))
      rw [d2, Bool.false_or] at hc
      cbv
      refine h.loop' (Int × Nat) (fun p => p.1 = (p.2 : Int) ∧ p.2 ≤ us.length ∧ ((us.take p.2).any UD.long) = false) (fun p => ⟨[(0, .v (.one (.sl t 9 es))), (5, vi .i64 p.1)], []⟩) (fun p => us.length - p.2) (0, 0) ⟨rfl, Nat.zero_le _, rfl⟩ (by (refine Wk.of [] rfl ?_ ?_; (· (repeat (first | exact trivial | (refine And.intro ?_ ?_; (· first | exact trivial | exact Or.inl ⟨_, rfl, rfl⟩ | exact ⟨_, rfl, rfl⟩ | exact Or.inr ⟨rfl, rfl, by decide⟩))))); (· (repeat (first | exact trivial | (refine And.intro ?_ ?_; (· first | exact trivial | exact Or.inl rfl | rfl | exact Or.inr ⟨_, _, _, _, rfl, rfl, rfl, renNo rfl⟩ | exact ⟨ne_no rfl, Or.inl ⟨_, rfl, rfl⟩⟩ | exact ⟨ne_no rfl, Or.inr ⟨rfl, _, rfl⟩⟩ | exact ⟨_, rfl, rfl, ne_no rfl⟩))))))) ?_
      rintro ⟨iz, i⟩ R ⟨hiz, hi, hv⟩ hR
      simp only at hiz hi hv
      cbv
      (refine Good.len' ‹_› ?_; intro _ _; cbv)
      refine h.dec rfl (fun hp3 => ?_) (fun hp3 => ?_)
      · obtain ⟨u, hgu⟩ : ∃ u, us[i]? = some u := ⟨us[i]'(by (simp only [inR, cmpP, loOk, hiOk, Int.ofNat_eq_natCast, Int.negSucc_eq, IntKind.bits, Int.toNat_natCast, ge_iff_le, gt_iff_lt, ne_eq, wl_len, hl_len, natCast_fold, not_true_eq_false, not_false_eq_true] at * <;> omega)), List.getElem?_eq_getElem _⟩
        have hge := ud_get hgu
        rw [← he] at hge
        obtain ⟨ss, hss⟩ : ∃ ss, ss = stl u.steps := ⟨_, rfl⟩
        rw [← hss] at hge
        have hsl : ss.length = u.steps.length := by rw [hss, stl_len]
        cbv
        refine h.get' i _ hiz hge ?_
        cbv
        (refine Good.len' ‹_› ?_; intro _ _; cbv)
        refine h.dec rfl (fun hp4 => ?_) (fun hp4 => ?_)
        · have : c = true := by
            rw [hc, List.any_eq_true]
            exact ⟨u, List.mem_of_getElem? hgu, decide_eq_true (by (simp only [inR, cmpP, loOk, hiOk, Int.ofNat_eq_natCast, Int.negSucc_eq, IntKind.bits, Int.toNat_natCast, ge_iff_le, gt_iff_lt, ne_eq, wl_len, hl_len, natCast_fold, not_true_eq_false, not_false_eq_true] at * <;> omega))⟩
          subst this
          cbv
          skip
          exact hQ
        · cbv
          (refine Good.add' ‹_› ?_ ?_; (· (simp only [inR, cmpP, loOk, hiOk, Int.ofNat_eq_natCast, Int.negSucc_eq, IntKind.bits, Int.toNat_natCast, ge_iff_le, gt_iff_lt, ne_eq, wl_len, hl_len, natCast_fold, not_true_eq_false, not_false_eq_true] at * <;> omega)); intro _ _; cbv)
          rename_i i1 hi1
          refine hR _ (i1, i + 1) ⟨by simp only; (simp only [inR, cmpP, loOk, hiOk, Int.ofNat_eq_natCast, Int.negSucc_eq, IntKind.bits, Int.toNat_natCast, ge_iff_le, gt_iff_lt, ne_eq, wl_len, hl_len, natCast_fold, not_true_eq_false, not_false_eq_true] at * <;> omega), by simp only; (simp only [inR, cmpP, loOk, hiOk, Int.ofNat_eq_natCast, Int.negSucc_eq, IntKind.bits, Int.toNat_natCast, ge_iff_le, gt_iff_lt, ne_eq, wl_len, hl_len, natCast_fold, not_true_eq_false, not_false_eq_true] at * <;> omega), ?_⟩ (by simp only; (simp only [inR, cmpP, loOk, hiOk, Int.ofNat_eq_natCast, Int.negSucc_eq, IntKind.bits, Int.toNat_natCast, ge_iff_le, gt_iff_lt, ne_eq, wl_len, hl_len, natCast_fold, not_true_eq_false, not_false_eq_true] at * <;> omega)) (by (refine Wk.of [] rfl ?_ ?_; (· (repeat (first | exact trivial | (refine And.intro ?_ ?_; (· first | exact trivial | exact Or.inl ⟨_, rfl, rfl⟩ | exact ⟨_, rfl, rfl⟩ | exact Or.inr ⟨rfl, rfl, by decide⟩))))); (· (repeat (first | exact trivial | (refine And.intro ?_ ?_; (· first | exact trivial | exact Or.inl rfl | rfl | exact Or.inr ⟨_, _, _, _, rfl, rfl, rfl, renNo rfl⟩ | exact ⟨ne_no rfl, Or.inl ⟨_, rfl, rfl⟩⟩ | exact ⟨ne_no rfl, Or.inr ⟨rfl, _, rfl⟩⟩ | exact ⟨_, rfl, rfl, ne_no rfl⟩)))))))
          show ((us.take (i + 1)).any UD.long) = false
          rw [List.take_add_one, hgu]
          simp only [Option.toList_some, List.any_append, hv, List.any_cons, List.any_nil, Bool.or_false, Bool.false_or]
          exact decide_eq_false (by (simp only [inR, cmpP, loOk, hiOk, Int.ofNat_eq_natCast, Int.negSucc_eq, IntKind.bits, Int.toNat_natCast, ge_iff_le, gt_iff_lt, ne_eq, wl_len, hl_len, natCast_fold, not_true_eq_false, not_false_eq_true] at * <;> omega))
      · have hi2 : i = us.length := by (simp only [inR, cmpP, loOk, hiOk, Int.ofNat_eq_natCast, Int.negSucc_eq, IntKind.bits, Int.toNat_natCast, ge_iff_le, gt_iff_lt, ne_eq, wl_len, hl_len, natCast_fold, not_true_eq_false, not_false_eq_true] at * <;> omega)
        rw [hi2, List.take_length, ← hc] at hv
        rw [hv] at hQ
        cbv
        skip
        exact hQ
/-- What the statements speak of. -/
structure Small (us : List UD) (bs : List (List D)) (zs : List QD) : Prop where
  lu : us.length ≤ 30
  lb : bs.length ≤ 30
  lz : zs.length ≤ 30
  st : ∀ u ∈ us, u.steps.length ≤ 20
  w : ∀ z ∈ zs, z.xs.length ≤ 6 ∧ z.ys.length ≤ 6
theorem long30_s {π : Pi} (h : Good TT π) {K : List DV → Prop} (he : es = us.map UD.cell) (hg : gs = zs.map QD.cell) (hk1 : K [.one (.sc (.bool true))]) (hk0 : Small us bs zs → K [.one (.sc (.bool false))]) : π.call 10 [.one (.sl t 9 es), .one (.sl t' 1 bs), .one (.sl t'' 4 gs)] K := by
  have hlg : gs.length = zs.length := by rw [hg]; simp
  obtain ⟨c1, hc1⟩ : ∃ c1, c1 = (decide (30 < us.length) || decide (30 < bs.length) || us.any UD.long) := ⟨_, rfl⟩
  obtain ⟨c2, hc2⟩ : ∃ c2, c2 = zs.any QD.long := ⟨_, rfl⟩
  have key : ∀ c, (c = (c1 || decide (30 < zs.length) || c2)) → TT 10 [.one (.sl t 9 es), .one (.sl t' 1 bs), .one (.sl t'' 4 gs)] [.one (.sc (.bool c))] := fun c hc => by
    refine con Tryz.func10 rfl (by kernel_rfl) (by kernel_rfl) fun π Q h hQ => ?_
    cbv
    refine h.call' _ (long28_c he hc1) ?_
    cases c1
    · cbv
      (refine Good.len' ‹_› ?_; intro _ _; cbv)
      refine h.dec rfl (fun hp => ?_) (fun hp => ?_)
      · have : c = true := by rw [hc, decide_eq_true (show 30 < zs.length by (simp only [inR, cmpP, loOk, hiOk, Int.ofNat_eq_natCast, Int.negSucc_eq, IntKind.bits, Int.toNat_natCast, ge_iff_le, gt_iff_lt, ne_eq, wl_len, hl_len, natCast_fold, not_true_eq_false, not_false_eq_true] at * <;> omega))]; rfl
        subst this
        cbv
        skip
        exact hQ
      · have d : decide (30 < zs.length) = false := decide_eq_false (by (simp only [inR, cmpP, loOk, hiOk, Int.ofNat_eq_natCast, Int.negSucc_eq, IntKind.bits, Int.toNat_natCast, ge_iff_le, gt_iff_lt, ne_eq, wl_len, hl_len, natCast_fold, not_true_eq_false, not_false_eq_true] at * <;> omega))
        rw [d, Bool.false_or, Bool.false_or] at hc
        subst hc
        cbv
        skip
        refine h.call' _ (long23_c hg (by (simp only [inR, cmpP, loOk, hiOk, Int.ofNat_eq_natCast, Int.negSucc_eq, IntKind.bits, Int.toNat_natCast, ge_iff_le, gt_iff_lt, ne_eq, wl_len, hl_len, natCast_fold, not_true_eq_false, not_false_eq_true] at * <;> omega)) hc2) ?_
        cbv
        skip
        exact hQ
    · rw [Bool.true_or, Bool.true_or] at hc
      subst hc
      cbv
      skip
      exact hQ
  refine h.call' _ (key _ rfl) ?_
  cases hc : (c1 || decide (30 < zs.length) || c2) with
  | true => exact hk1
  | false =>
    rw [Bool.or_eq_false_iff, Bool.or_eq_false_iff] at hc
    obtain ⟨⟨h1, h2⟩, h3⟩ := hc
    rw [hc1, Bool.or_eq_false_iff, Bool.or_eq_false_iff] at h1
    obtain ⟨⟨h4, h5⟩, h6⟩ := h1
    rw [hc2] at h3
    refine hk0 ⟨?_, ?_, ?_, fun u hu => ?_, fun z hz => ?_⟩
    · have := of_decide_eq_false h4; omega
    · have := of_decide_eq_false h5; omega
    · have := of_decide_eq_false h2; omega
    · have h7 := List.any_eq_false.1 h6 u hu
      have : ¬ (20 < u.steps.length) := by simpa [UD.long] using h7
      omega
    · have h7 := List.any_eq_false.1 h3 z hz
      have : ¬ (6 < z.xs.length ∨ 6 < z.ys.length) := by simpa [QD.long] using h7
      omega
end Go.Proofs.YtpmlocilhhjifaaGreat.Eng
end
