/- Chapter 30: fills, refused, ex, awake. -/
import Derived.Test.YtpmlocilhhjifaaGreatRsva
section
set_option maxRecDepth 100000
set_option linter.unusedSimpArgs false
set_option linter.unusedVariables false
set_option pp.maxSteps 200
namespace Go.Proofs.YtpmlocilhhjifaaGreat.Eng
open Go.RowKit Go.Proofs
variable {t t' t'' : Nat} {us : List UD} {os : List Bool} {rs : List Rat} {es bs gs : List (List D)} {zs : List QD} {L : Nat}
theorem gR_ql {rms : List Rat} {M : Nat} (hM : 1 ≤ M) (h : ∀ r ∈ rms, ql r ≤ M) (i : Nat) : ql (gR rms i) ≤ M := by
  unfold gR
  cases hr : rms[i]? with
  | none =>
    have := ql_zero
    show ql 0 ≤ M
    omega
  | some r => exact h r (List.mem_of_getElem? hr)
theorem fill_ql {us : List UD} {rms : List Rat} {ord : List Nat} {need : Int} {M : Nat} (ho : Ord us ord) (hM : 1 ≤ M) (h : ∀ r ∈ rms, ql r ≤ M) (hn : ql (need : Rat) ≤ 2) :
    ql (fillF us rms ord need).short ≤ 2 + (M + 1) * us.length ∧ ∀ r ∈ (fillF us rms ord need).taken, ql r ≤ 2 + (M + 1) * us.length + M := by
  have key := steps_ind ho (fun dn => ql (fillF us rms dn need).short ≤ 2 + (M + 1) * dn.length ∧ ∀ r ∈ (fillF us rms dn need).taken, ql r ≤ 2 + (M + 1) * dn.length + M) ⟨by show ql (need : Rat) ≤ _; omega, fun r hr => by
    have hr : r ∈ List.replicate us.length 0 := hr
    rw [(List.mem_replicate.1 hr).2]
    have := ql_zero
    omega⟩ ?_
  · rw [ho.len] at key
    exact key
  · intro dn i ⟨h1, h2⟩ hi hd hle _
    have hg := gR_ql hM h i
    obtain ⟨x, hx⟩ : ∃ x, x = mn (fillF us rms dn need).short (gR rms i) := ⟨_, rfl⟩
    have hxl := mn_ql h1 hg
    have hsl := sub_mn_ql h1 hg
    rw [← hx] at hxl hsl
    rw [fillF_snoc, fstep_at hx, List.length_append, List.length_singleton, Nat.mul_add, Nat.mul_one]
    refine ⟨by simp only; omega, fun r hr => ?_⟩
    simp only at hr
    rcases List.mem_or_eq_of_mem_set hr with hr | hr
    · have := h2 r hr; omega
    · rw [hr]; omega
theorem rms_ql (hz : Qrs zs rs L) (hL : 1 ≤ L) : ∀ r ∈ rmsF us os rs, ql r ≤ L + 2 := by
  have hq : ∀ r ∈ rs, ql r ≤ L := fun r hr => by
    obtain ⟨i, hi⟩ := List.getElem?_of_mem hr
    have hl := (List.getElem?_eq_some_iff.1 hi).1
    obtain ⟨z, r', h1, h2, h3⟩ := hz.get hl
    rw [hi] at h2
    cases h2
    have := h3.ql
    omega
  have : ∀ (us : List UD) (os : List Bool) (rs : List Rat), (∀ r ∈ rs, ql r ≤ L) → ∀ r ∈ rmsF us os rs, ql r ≤ L + 2 := by
    intro us
    induction us with
    | nil => intro os rs _ r hr; simp [rmsF] at hr
    | cons u us ih =>
      intro os rs hq r hr
      cases os with
      | nil => simp [rmsF] at hr
      | cons o os =>
        cases rs with
        | nil => simp [rmsF] at hr
        | cons r0 rs =>
          simp only [rmsF] at hr
          rcases List.mem_cons.1 hr with rfl | hr
          · exact rmQ_ql (hq r0 (by simp))
          · exact ih os rs (fun r hr => hq r (by simp [hr])) r hr
  exact this us os rs hq
theorem need_ql {need : Int} (h : inR .i64 need) : ql (need : Rat) ≤ 2 := by have := ql_int need; have := len2' h; omega
theorem fillE_len {need : Int} (h : fillE us os rs need = 0) : os.length = us.length ∧ rs.length = us.length ∧ us.length ≤ 5 ∧ firstE us = 0 ∧ ¬ badR rs (rmsF us os rs) ∧ 0 ≤ need ∧ need ≤ 1000000 := by
  unfold fillE at h
  split at h
  · rename_i h1
    obtain ⟨h2, h3, h4⟩ := enE_len h1
    split at h
    · rename_i h5
      split at h
      · omega
      · rename_i h6
        exact ⟨h2, h5, h3, h4, fun hh => h6 (.inl (badB_iff.2 hh)), by omega, by omega⟩
    · omega
  · omega
theorem fillR_ql {need : Int} (hz : Qrs zs rs L) (hL : 1 ≤ L) (hn : inR .i64 need) (h : fillE us os rs need = 0) : ql (fillR us os rs need).short ≤ 2 + (L + 3) * 5 ∧ ∀ r ∈ (fillR us os rs need).taken, ql r ≤ 2 + (L + 3) * 5 + (L + 2) := by
  obtain ⟨_, _, h5, _⟩ := fillE_len h
  obtain ⟨h1, h2⟩ := fill_ql (ordF_ord us) (show 1 ≤ L + 2 by omega) (rms_ql (us := us) (os := os) hz hL) (need_ql hn)
  have h3 : (L + 2 + 1) * us.length ≤ (L + 3) * 5 := Nat.mul_le_mul (by omega) h5
  exact ⟨Nat.le_trans h1 (by omega), fun r hr => Nat.le_trans (h2 r hr) (by omega)⟩
def fillsB (us : List UD) (os : List Bool) (rs : List Rat) (need price : Int) (s : Rat) (row : List Rat) : Bool :=
  decide (fillE us os rs need = 0) && decide ((fillR us os rs need).price = price) && decide ((fillR us os rs need).short = s) && decide ((fillR us os rs need).taken = row)
theorem fills_s {π : Pi} (h : Good TT π) {K : List DV → Prop} {need price : Int} {s : Rat} {row : List Rat} {t3 t4 t5 : Nat} {b b' : Bool} {z z' ws : List (List D)} (he : es = us.map UD.cell) (hb' : bs = bl os) (hg' : gs = zs.map QD.cell) (ho : ∀ u ∈ us, u.Ok) (hl1 : us.length ≤ 1000) (hl' : os.length ≤ 1000) (hl2 : zs.length ≤ 1000) (hz : Qrs zs rs L) (hL1 : 1 ≤ L) (hL : L ≤ 100) (hn : inR .i64 need)
    (hs : Qc b z b' z' s) (hsl : ql s ≤ 10000) (hws : ws = qcl row) (hrl : ∀ r ∈ row, ql r ≤ 10000) (hk : ∀ c, c = fillsB us os rs need price s row → K [.one (.sc (.bool c))]) :
    π.call 31 [.one (.sl t 9 es), .one (.sl t' 1 bs), .one (.sl t'' 4 gs), .one (.sc (.int .i64 need)), .one (.sc (.int .i64 price)), qa b t3 z b' t4 z', .one (.sl t5 4 ws)] K := by
  obtain ⟨c, hc⟩ : ∃ c, c = fillsB us os rs need price s row := ⟨_, rfl⟩
  refine h.call' _ ?_ (hk c hc)
  refine con Tryz.func31 rfl (by kernel_rfl) (by kernel_rfl) fun π Q h hQ => ?_
  unfold fillsB at hc
  cbv
  refine fill_s h he hb' hg' ho hl1 hl' hl2 hz hL hn (fun e0 c1 y1 c2 y2 tk pr hq htk hpr => ?_) (fun e0 => ?_)
  · obtain ⟨k1, k2⟩ := fillR_ql hz hL1 hn e0
    have k3 : (fillR us os rs need).taken.length = us.length := fillF_len _ _ _ _
    rw [decide_eq_true e0, Bool.true_and, ← hpr] at hc
    obtain ⟨sh, hsh⟩ : ∃ sh, sh = (fillR us os rs need).short := ⟨_, rfl⟩
    obtain ⟨ta, hta⟩ : ∃ ta, ta = (fillR us os rs need).taken := ⟨_, rfl⟩
    rw [← hsh] at hq k1 hc
    rw [← hta] at htk k2 k3 hc
    cbv
    (refine Good.yes ‹_› ?_ ?_; (· (simp only [inR, cmpP, loOk, hiOk, Int.ofNat_eq_natCast, Int.negSucc_eq, IntKind.bits, Int.toNat_natCast, ge_iff_le, gt_iff_lt, ne_eq, wl_len, hl_len, natCast_fold, not_true_eq_false, not_false_eq_true] at * <;> omega)); cbv)
    refine h.dec rfl (fun hp => ?_) (fun hp => ?_)
    · rw [decide_eq_true (show pr = price by (simp only [inR, cmpP, loOk, hiOk, Int.ofNat_eq_natCast, Int.negSucc_eq, IntKind.bits, Int.toNat_natCast, ge_iff_le, gt_iff_lt, ne_eq, wl_len, hl_len, natCast_fold, not_true_eq_false, not_false_eq_true] at * <;> omega)), Bool.true_and] at hc
      cbv
      refine is_q h hq hs (by omega) hsl fun c3 hc3 => ?_
      rw [← hc3] at hc
      cases c3
      · rw [Bool.false_and] at hc
        subst hc
        cbv
        skip
        exact hQ
      · rw [Bool.true_and] at hc
        cbv
        refine rows_s h htk hws (fun r hr => by have := k2 r hr; omega) hrl (by omega) fun c4 hc4 => ?_
        rw [← hc4] at hc
        subst hc
        cbv
        skip
        exact hQ
    · rw [decide_eq_false (show ¬ pr = price by (simp only [inR, cmpP, loOk, hiOk, Int.ofNat_eq_natCast, Int.negSucc_eq, IntKind.bits, Int.toNat_natCast, ge_iff_le, gt_iff_lt, ne_eq, wl_len, hl_len, natCast_fold, not_true_eq_false, not_false_eq_true] at * <;> omega)), Bool.false_and, Bool.false_and] at hc
      subst hc
      cbv
      skip
      exact hQ
  · obtain ⟨e, hee⟩ : ∃ e, e = fillE us os rs need := ⟨_, rfl⟩
    rw [← hee] at e0 hc ⊢
    rw [decide_eq_false e0, Bool.false_and, Bool.false_and, Bool.false_and] at hc
    subst hc
    cbv
    (refine Good.no ‹_› rfl ?_ ?_; (· (simp only [inR, cmpP, loOk, hiOk, Int.ofNat_eq_natCast, Int.negSucc_eq, IntKind.bits, Int.toNat_natCast, ge_iff_le, gt_iff_lt, ne_eq, wl_len, hl_len, natCast_fold, not_true_eq_false, not_false_eq_true] at * <;> omega)); cbv)
    exact hQ
theorem lmade_s {π : Pi} (h : Good TT π) {K : List DV → Prop} {q p : Int} (hk : ∀ xs, xs = stl [(q, 1)] → K [ua 0 0 1 xs 1 1 0 0 p 1]) : π.call 30 [.one (.sc (.int .i64 q)), .one (.sc (.int .i64 p))] K := by
  obtain ⟨xs, hxs⟩ : ∃ xs, xs = stl [(q, 1)] := ⟨_, rfl⟩
  refine h.call' _ ?_ (hk xs hxs)
  refine con Tryz.func30 rfl (by kernel_rfl) (by kernel_rfl) fun π Q h hQ => ?_
  have e : xs = [[.sc (.int .i64 q), .sc (.int .i64 1)]] := hxs
  subst e
  cbv
  skip
  exact hQ
def mU (q p : Int) : UD := ⟨0, 0, 1, [(q, 1)], 1, 1, 0, 0, p, 1⟩
def exU : List UD := [mU 9 2, mU 6 0, mU 5 2]
def exG : List Rat := [5, 4, 5 / 2]
theorem int_cell {n : Int} {b : Bool} {z : List (List D)} (h : Qc b z false [] (n : Rat)) {q : Rat} (hq : q = (n : Rat)) : [D.sc (.bool b), D.sl 1 1 z, D.sc (.bool false), D.sl 1 1 []] = qcell q := by rw [hq]; exact h.cell
theorem ex_s {π : Pi} (h : Good TT π) {K : List DV → Prop} (hk : ∀ es bs gs, es = exU.map UD.cell → bs = bl [true, true, true] → gs = qcl exG → K [.one (.sl 1 9 es), .one (.sl 1 1 bs), .one (.sl 1 4 gs)]) : π.call 26 [] K := by
  obtain ⟨es, hes⟩ : ∃ es, es = exU.map UD.cell := ⟨_, rfl⟩
  obtain ⟨bs, hbs⟩ : ∃ bs, bs = bl [true, true, true] := ⟨_, rfl⟩
  obtain ⟨gs, hgs⟩ : ∃ gs, gs = qcl exG := ⟨_, rfl⟩
  refine h.call' _ ?_ (hk es bs gs hes hbs hgs)
  refine con Tryz.func26 rfl (by kernel_rfl) (by kernel_rfl) fun π Q h hQ => ?_
  cbv
  refine lmade_s h fun x1 hx1 => ?_
  cbv
  refine lmade_s h fun x2 hx2 => ?_
  cbv
  refine lmade_s h fun x3 hx3 => ?_
  cbv
  refine rrint_s h (n := 5) (by (simp only [inR, cmpP, loOk, hiOk, Int.ofNat_eq_natCast, Int.negSucc_eq, IntKind.bits, Int.toNat_natCast, ge_iff_le, gt_iff_lt, ne_eq, wl_len, hl_len, natCast_fold, not_true_eq_false, not_false_eq_true] at * <;> omega)) fun b1 z1 hq1 => ?_
  cbv
  refine rrint_s h (n := 4) (by (simp only [inR, cmpP, loOk, hiOk, Int.ofNat_eq_natCast, Int.negSucc_eq, IntKind.bits, Int.toNat_natCast, ge_iff_le, gt_iff_lt, ne_eq, wl_len, hl_len, natCast_fold, not_true_eq_false, not_false_eq_true] at * <;> omega)) fun b2 z2 hq2 => ?_
  cbv
  refine rrof_s h (n := 5) (d := 2) (by (simp only [inR, cmpP, loOk, hiOk, Int.ofNat_eq_natCast, Int.negSucc_eq, IntKind.bits, Int.toNat_natCast, ge_iff_le, gt_iff_lt, ne_eq, wl_len, hl_len, natCast_fold, not_true_eq_false, not_false_eq_true] at * <;> omega)) (by (simp only [inR, cmpP, loOk, hiOk, Int.ofNat_eq_natCast, Int.negSucc_eq, IntKind.bits, Int.toNat_natCast, ge_iff_le, gt_iff_lt, ne_eq, wl_len, hl_len, natCast_fold, not_true_eq_false, not_false_eq_true] at * <;> omega)) fun b3 z3 b4 z4 hq3 => ?_
  have e1 := int_cell hq1 (q := 5) rfl
  have e2 := int_cell hq2 (q := 4) rfl
  have e3 := hq3.cell
  rw [show qv 5 2 = 5 / 2 by decide +kernel] at e3
  have g1 : gs = [[D.sc (.bool b1), D.sl 1 1 z1, D.sc (.bool false), D.sl 1 1 []], [D.sc (.bool b2), D.sl 1 1 z2, D.sc (.bool false), D.sl 1 1 []], [D.sc (.bool b3), D.sl 1 1 z3, D.sc (.bool b4), D.sl 1 1 z4]] := by rw [hgs, e1, e2, e3]; rfl
  have g2 : es = [[.sc (.int .i64 0), .sc (.int .i64 0), .sl 1 2 x1, .sc (.int .i64 1), .sc (.int .i64 1), .sc (.int .i64 0), .sc (.int .i64 0), .sc (.int .i64 2), .sc (.int .i64 1)], [.sc (.int .i64 0), .sc (.int .i64 0), .sl 1 2 x2, .sc (.int .i64 1), .sc (.int .i64 1), .sc (.int .i64 0), .sc (.int .i64 0), .sc (.int .i64 0), .sc (.int .i64 1)], [.sc (.int .i64 0), .sc (.int .i64 0), .sl 1 2 x3, .sc (.int .i64 1), .sc (.int .i64 1), .sc (.int .i64 0), .sc (.int .i64 0), .sc (.int .i64 2), .sc (.int .i64 1)]] := by rw [hes, hx1, hx2, hx3]; rfl
  have g3 : bs = [[.sc (.bool true)], [.sc (.bool true)], [.sc (.bool true)]] := hbs
  subst g1 g2 g3
  cbv
  skip
  exact hQ
end Go.Proofs.YtpmlocilhhjifaaGreat.Eng
end
section
set_option maxRecDepth 100000
set_option linter.unusedSimpArgs false
set_option linter.unusedVariables false
set_option pp.maxSteps 200
namespace Go.Proofs.YtpmlocilhhjifaaGreat.Eng
open Go.RowKit Go.Proofs
theorem ir0 : inR .i64 0 := ⟨by decide, by decide⟩
theorem ir1 : inR .i64 1 := ⟨by decide, by decide⟩
theorem mU_ok {q p : Int} (hq : inR .i64 q) (hp : inR .i64 p) : (mU q p).Ok := ⟨ir0, ir0, fun x hx => by
  simp [mU] at hx
  subst hx
  exact ⟨hq, ir1⟩, by simp [mU], ir1, ir1, ir0, ir0, hp, ir1⟩
theorem exU_ok : ∀ u ∈ exU, u.Ok := fun u hu => by
  simp only [exU, List.mem_cons, List.not_mem_nil, or_false] at hu
  rcases hu with rfl | rfl | rfl <;> exact mU_ok ⟨by decide, by decide⟩ ⟨by decide, by decide⟩
theorem new_s {π : Pi} (h : Good TT π) {K : List DV → Prop} {n d : Int} (hn : inR .i64 n) (hd : inR .i64 d) (h0 : d ≠ 0) (hk : ∀ b z b' z', Qc b z b' z' (qv n d) → K [qa b 1 z b' 1 z', .one (.sc (.int .i64 0))]) : π.call 35 [.one (.sc (.int .i64 n)), .one (.sc (.int .i64 d))] K := by
  obtain ⟨b, z, b', z', hq⟩ := qcx (qv n d)
  refine h.call' _ ?_ (hk b z b' z' hq)
  refine con Tryz.func35 rfl (by kernel_rfl) (by kernel_rfl) fun π Q h hQ => ?_
  have e1 := len2' hn
  have e2 := len2' hd
  cbv
  (refine Good.no ‹_› rfl ?_ ?_; (· (simp only [inR, cmpP, loOk, hiOk, Int.ofNat_eq_natCast, Int.negSucc_eq, IntKind.bits, Int.toNat_natCast, ge_iff_le, gt_iff_lt, ne_eq, wl_len, hl_len, natCast_fold, not_true_eq_false, not_false_eq_true] at * <;> omega)); cbv)
  refine fromInt64_s h hn fun b1 z1 q1 => ?_
  cbv
  skip
  refine fromInt64_s h hd fun b2 z2 q2 => ?_
  cbv
  skip
  refine fcanon_s h (l := 2) ⟨n, d, q1.r.le e1, q2.r.le e2, rfl⟩ (by decide) fun c1 y1 c2 y2 hq2 => ?_
  obtain ⟨rfl, rfl, rfl, rfl⟩ := hq.inj hq2
  cbv
  skip
  exact hQ
theorem exG_ql : ∀ r ∈ exG, ql r ≤ 1 := by decide +kernel
theorem exG_qrs : Qrs (exG.map qqd) exG 1 := qcl_qrs exG_ql
theorem a1 : fillsB exU [true, true, true] exG 6 2 0 [4, 2, 0] = true := by decide +kernel
theorem a2 : fillsB exU [true, true, true] exG 8 2 0 [4, 2, 2] = true := by decide +kernel
theorem a3 : fillsB exU [true, true, true] exG 20 2 (23 / 2) [4, 2, 5 / 2] = true := by decide +kernel
theorem a4 : fillsB exU [true, true, true] exG 2 0 0 [0, 2, 0] = true := by decide +kernel
theorem lq {l : List Rat} (h : ∀ r ∈ l, ql r ≤ 2) : ∀ r ∈ l, ql r ≤ 10000 := fun r hr => Nat.le_trans (h r hr) (by decide)
theorem zero_cell : [D.sc (.bool false), D.sl 1 1 [], D.sc (.bool false), D.sl 1 1 []] = qcell 0 := qcell_zero.symm
theorem row3 {x y z : List D} {p q r : Rat} (h1 : x = qcell p) (h2 : y = qcell q) (h3 : z = qcell r) : [x, y, z] = qcl [p, q, r] := by rw [h1, h2, h3]; rfl
set_option maxHeartbeats 8000000 in
theorem awake_c : TT 11 [] [.one (.sc (.bool true))] := by
  refine con Tryz.func11 rfl (by kernel_rfl) (by kernel_rfl) fun π Q h hQ => ?_
  cbv
  refine ex_s h fun es bs gs hes hbs hgs => ?_
  rw [qcl_qqd] at hgs
  cbv
  refine new_s h (n := 5) (d := 2) ⟨by decide, by decide⟩ ⟨by decide, by decide⟩ (by decide) fun b1 z1 b2 z2 hh => ?_
  rw [show qv 5 2 = 5 / 2 by decide +kernel] at hh
  cbv
  skip
  refine new_s h (n := 23) (d := 2) ⟨by decide, by decide⟩ ⟨by decide, by decide⟩ (by decide) fun b3 z3 b4 z4 hf => ?_
  rw [show qv 23 2 = 23 / 2 by decide +kernel] at hf
  cbv
  skip
  refine ffromInt_s h (n := 4) ⟨by decide, by decide⟩ fun c1 y1 q1 => ?_
  cbv
  refine ffromInt_s h (n := 2) ⟨by decide, by decide⟩ fun c2 y2 q2 => ?_
  have e4 := int_cell q1 (q := 4) rfl
  have e2 := int_cell q2 (q := 2) rfl
  have eh := hh.cell
  have r1 := row3 e4 e2 zero_cell
  rw [qcl_qqd] at r1
  cbv
  refine pay_s h (rs := [4, 2, 0]) (zs := [4, 2, 0].map qqd) (p := 2) r1 (qcl_qrs (L := 1) (by decide +kernel)) ⟨by decide, by decide⟩ (by decide) (by decide) (by decide) fun b5 z5 b6 z6 ea hs hea => ?_
  rw [show sumR (payL [4, 2, 0] ((2 : Int) : Rat)) = 12 by decide +kernel] at hs
  rw [show payL [4, 2, 0] ((2 : Int) : Rat) = [8, 4, 0] by decide +kernel] at hea
  have FS : ∀ {K : List DV → Prop} {need price : Int} {s : Rat} {row : List Rat} {t3 t4 t5 : Nat} {b b' : Bool} {z z' ws : List (List D)}, inR .i64 need → Qc b z b' z' s → ql s ≤ 10000 → ws = qcl row → (∀ r ∈ row, ql r ≤ 10000) → fillsB exU [true, true, true] exG need price s row = true →
      K [.one (.sc (.bool true))] → π.call 31 [.one (.sl 1 9 es), .one (.sl 1 1 bs), .one (.sl 1 4 gs), .one (.sc (.int .i64 need)), .one (.sc (.int .i64 price)), qa b t3 z b' t4 z', .one (.sl t5 4 ws)] K :=
    fun k1 k2 k3 k4 k5 k6 k7 => fills_s h hes hbs hgs exU_ok (by decide) (by decide) (by decide) exG_qrs (by decide) (by decide) k1 k2 k3 k4 k5 fun c hc => by rw [hc, k6]; exact k7
  cbv
  refine ffromInt_s h (n := 4) ⟨by decide, by decide⟩ fun c1 y1 q1 => ?_
  cbv
  refine ffromInt_s h (n := 2) ⟨by decide, by decide⟩ fun c2 y2 q2 => ?_
  have e4 := int_cell q1 (q := 4) rfl
  have e2 := int_cell q2 (q := 2) rfl
  cbv
  refine FS ⟨by decide, by decide⟩ zero_qc (by decide +kernel) (row3 e4 e2 zero_cell) (lq (by decide +kernel)) a1 ?_
  cbv
  refine ffromInt_s h (n := 4) ⟨by decide, by decide⟩ fun c1 y1 q1 => ?_
  cbv
  refine ffromInt_s h (n := 2) ⟨by decide, by decide⟩ fun c2 y2 q2 => ?_
  cbv
  refine ffromInt_s h (n := 2) ⟨by decide, by decide⟩ fun c3 y3 q3 => ?_
  have e4 := int_cell q1 (q := 4) rfl
  have e2 := int_cell q2 (q := 2) rfl
  have e2' := int_cell q3 (q := 2) rfl
  cbv
  refine FS ⟨by decide, by decide⟩ zero_qc (by decide +kernel) (row3 e4 e2 e2') (lq (by decide +kernel)) a2 ?_
  cbv
  refine ffromInt_s h (n := 4) ⟨by decide, by decide⟩ fun c1 y1 q1 => ?_
  cbv
  refine ffromInt_s h (n := 2) ⟨by decide, by decide⟩ fun c2 y2 q2 => ?_
  have e4 := int_cell q1 (q := 4) rfl
  have e2 := int_cell q2 (q := 2) rfl
  cbv
  refine FS ⟨by decide, by decide⟩ hf (by decide +kernel) (row3 e4 e2 eh) (lq (by decide +kernel)) a3 ?_
  cbv
  refine ffromInt_s h (n := 2) ⟨by decide, by decide⟩ fun c2 y2 q2 => ?_
  have e2 := int_cell q2 (q := 2) rfl
  cbv
  refine FS ⟨by decide, by decide⟩ zero_qc (by decide +kernel) (row3 zero_cell e2 zero_cell) (lq (by decide +kernel)) a4 ?_
  cbv
  refine ffromInt_s h (n := 8) ⟨by decide, by decide⟩ fun c1 y1 q1 => ?_
  cbv
  refine ffromInt_s h (n := 4) ⟨by decide, by decide⟩ fun c2 y2 q2 => ?_
  have e8 := int_cell q1 (q := 8) rfl
  have e4 := int_cell q2 (q := 4) rfl
  cbv
  refine rows_s h hea (row3 e8 e4 zero_cell) (lq (by decide +kernel)) (lq (by decide +kernel)) (by decide) fun c hc => ?_
  have hc : c = true := by rw [hc]; exact decide_eq_true rfl
  subst hc
  cbv
  refine ffromInt_s h (n := 12) ⟨by decide, by decide⟩ fun c1 y1 q1 => ?_
  have q1 : Qc c1 y1 false [] (12 : Rat) := q1
  cbv
  refine is_q h hs q1 (by decide +kernel) (by decide +kernel) fun c hc => ?_
  have hc : c = true := by rw [hc]; exact decide_eq_true rfl
  subst hc
  cbv
  (refine Good.chk' ‹_› rfl ?_; cbv)
  exact hQ
end Go.Proofs.YtpmlocilhhjifaaGreat.Eng
end
section
set_option maxRecDepth 100000
set_option linter.unusedSimpArgs false
set_option linter.unusedVariables false
set_option pp.maxSteps 200
namespace Go.Proofs.YtpmlocilhhjifaaGreat.Eng
open Go.RowKit Go.Proofs
variable {t t' t'' : Nat} {us : List UD} {os : List Bool} {rs : List Rat} {es bs gs : List (List D)} {zs : List QD} {L : Nat}
structure UD.Ok0 (u : UD) : Prop where
  bus : inR .i64 u.bus
  least : inR .i64 u.least
  steps : StOk u.steps
  up : inR .i64 u.up
  down : inR .i64 u.down
  start : inR .i64 u.start
  idle : inR .i64 u.idle
  spin : inR .i64 u.spin
  on : inR .i64 u.on
def QD.Raw (z : QD) : Prop := ∃ ws vs, z.xs = wl ws ∧ z.ys = wl vs ∧ Ok BW ws ∧ Ok BW vs
theorem raw_qr {z : QD} (h : z.Raw) (h6 : z.xs.length ≤ 6 ∧ z.ys.length ≤ 6) : ∃ r, Qr z.s z.xs z.s' z.ys r 6 := by
  obtain ⟨ws, vs, h1, h2, h3, h4⟩ := h
  rw [h1, h2, wl_len, wl_len] at h6
  exact ⟨_, _, _, ⟨ws, h1, h3, h6.1, rfl⟩, ⟨vs, h2, h4, h6.2, rfl⟩, rfl⟩
theorem raw_qrs : ∀ {zs : List QD}, (∀ z ∈ zs, z.Raw) → (∀ z ∈ zs, z.xs.length ≤ 6 ∧ z.ys.length ≤ 6) → ∃ rs, Qrs zs rs 6
  | [], _, _ => ⟨[], rfl, fun i z r h => by simp at h⟩
  | z :: zs, h, h6 => by
    obtain ⟨r, hr⟩ := raw_qr (h z (by simp)) (h6 z (by simp))
    obtain ⟨rs, h1, h2⟩ := raw_qrs (zs := zs) (fun y hy => h y (List.mem_cons_of_mem _ hy)) (fun y hy => h6 y (List.mem_cons_of_mem _ hy))
    refine ⟨r :: rs, by simp [h1], fun i y q a b => ?_⟩
    cases i with
    | zero => simp at a b; subst a b; exact hr
    | succ i => exact h2 i y q (by simpa using a) (by simpa using b)
theorem small_ok (ho : ∀ u ∈ us, u.Ok0) (h : Small us bs zs) : ∀ u ∈ us, u.Ok := fun u hu => by
  have := ho u hu
  have := h.st u hu
  exact ⟨(ho u hu).bus, (ho u hu).least, (ho u hu).steps, by omega, (ho u hu).up, (ho u hu).down, (ho u hu).start, (ho u hu).idle, (ho u hu).spin, (ho u hu).on⟩
theorem rho_ge (h1 : os.length = us.length) (h2 : rs.length = us.length) (hnb : ¬ badR rs (rmsF us os rs)) : ∀ i, i < us.length → 0 ≤ gR (rmsF us os rs) i := fun i hi => by
  have hr := rmsF_rooms (us := us) (os := os) (rs := rs) h1 h2
  obtain ⟨u, o, r, g1, g2, g3, g4⟩ := rooms_get hr hi
  unfold gR
  rw [g4]
  have : ¬ rmQ u o r < 0 := fun hh => hnb ⟨i, r, _, g3, g4, .inr hh⟩
  show 0 ≤ rmQ u o r
  grind
theorem firstE_fine {us : List UD} (h : firstE us = 0) : ∀ u ∈ us, u.fine := by
  induction us with
  | nil => intro u hu; cases hu
  | cons v us ih =>
    intro u hu
    simp only [firstE] at h
    split at h
    · rename_i h0
      rcases List.mem_cons.1 hu with rfl | hu
      · unfold unitE at h0
        split at h0
        · split at h0
          · split at h0
            · assumption
            · omega
          · omega
        · omega
      · exact ih h u hu
    · omega
theorem spn_ge (h : firstE us = 0) : ∀ i, i < us.length → 0 ≤ spn us i := fun i hi => by
  have hu : us[i]? = some us[i] := List.getElem?_eq_getElem hi
  rw [spn_get hu]
  have := firstE_fine h us[i] (List.getElem_mem hi)
  exact this.2.2.1
theorem room_eq (h1 : os.length = us.length) (h2 : rs.length = us.length) (hnb : ¬ badR rs (rmsF us os rs)) {i : Nat} {u : UD} {o : Bool} {r : Rat} (g1 : us[i]? = some u) (g2 : os[i]? = some o) (g3 : rs[i]? = some r) : rmR u o r = gR (rmsF us os rs) i := by
  have hr := rmsF_rooms (us := us) (os := os) (rs := rs) h1 h2
  have g4 := hr.at' i u o r g1 g2 g3
  have e : gR (rmsF us os rs) i = rmQ u o r := by unfold gR; rw [g4]; rfl
  rw [e]
  cases o
  · have k : ¬ r < 0 ∧ ¬ rmQ u false r < 0 := ⟨fun hh => hnb ⟨i, r, _, g3, g4, .inl hh⟩, fun hh => hnb ⟨i, r, _, g3, g4, .inr hh⟩⟩
    have e2 : rmQ u false r = -r := by unfold rmQ; rw [if_neg (by decide), show ((0 : Int) : Rat) = 0 from rfl]; grind
    rw [e2] at k ⊢
    have e3 : rmR u false r = 0 := rfl
    rw [e3]
    grind
  · rfl
/-- All that an accepted call tells. -/
theorem fill_inv {need : Int} (h : fillE us os rs need = 0) : Inv us (rmsF us os rs) (ordF us) need (fillR us os rs need) ∧ (∀ i, i < us.length → 0 ≤ gR (rmsF us os rs) i) ∧ ∀ i, i < us.length → 0 ≤ spn us i := by
  obtain ⟨h1, h2, h3, h4, h5, h6, h7⟩ := fillE_len h
  exact ⟨inv_all (ordF_ord us) (rho_ge h1 h2 h5) (spn_ge h4) h6, rho_ge h1 h2 h5, spn_ge h4⟩
theorem fillE_need {a b : Int} (ha : 0 ≤ a ∧ a ≤ 1000000) (hb : 0 ≤ b ∧ b ≤ 1000000) : fillE us os rs a = fillE us os rs b := by
  unfold fillE
  congr 2
  have e : ∀ n : Int, (0 ≤ n ∧ n ≤ 1000000) → (badB rs (rmsF us os rs) = true ∨ n < 0 ∨ 1000000 < n ↔ badB rs (rmsF us os rs) = true) := fun n hn => ⟨fun h => by
    rcases h with h | h | h
    · exact h
    · omega
    · omega, .inl⟩
  simp only [e a ha, e b hb]
theorem sgnQ_zero' {q : Rat} : sgnQ q = 0 ↔ q = 0 := by
  rcases sgnQ_cases q with ⟨h, k⟩ | ⟨h, k⟩ | ⟨h, k⟩
  · exact ⟨fun _ => by omega, fun h' => by subst h'; exact absurd h (by decide)⟩
  · exact ⟨fun _ => h, fun _ => k⟩
  · exact ⟨fun _ => by omega, fun h' => by subst h'; exact absurd h (by decide)⟩
theorem gR_get {l : List Rat} {i : Nat} {r : Rat} (h : l[i]? = some r) : gR l i = r := by unfold gR; rw [h]; rfl
theorem get_gR {l : List Rat} {i : Nat} (h : i < l.length) : l[i]? = some (gR l i) := by unfold gR; rw [List.getElem?_eq_getElem h]; rfl
end Go.Proofs.YtpmlocilhhjifaaGreat.Eng
end
