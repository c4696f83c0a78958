/- Packages unit, pylonref26, energy, pylonref28: the checks of units. -/
import Derived.Test.YtpmlocilhhjifaaGreatStp2
section
set_option maxRecDepth 100000
set_option linter.unusedSimpArgs false
set_option linter.unusedVariables false
set_option pp.maxSteps 200
namespace Go.Proofs.YtpmlocilhhjifaaGreat.Eng
open Go.RowKit Go.Proofs
/-- A unit. -/
structure UD where
  bus : Int
  least : Int
  t : Nat
  steps : List (Int × Int)
  up : Int
  down : Int
  start : Int
  idle : Int
  spin : Int
  on : Int
def UD.cell (u : UD) : List D := [.sc (.int .i64 u.bus), .sc (.int .i64 u.least), .sl u.t 2 (stl u.steps), .sc (.int .i64 u.up), .sc (.int .i64 u.down), .sc (.int .i64 u.start), .sc (.int .i64 u.idle), .sc (.int .i64 u.spin), .sc (.int .i64 u.on)]
structure UD.Ok (u : UD) : Prop where
  bus : inR .i64 u.bus
  least : inR .i64 u.least
  steps : StOk u.steps
  len : u.steps.length ≤ 1000000
  up : inR .i64 u.up
  down : inR .i64 u.down
  start : inR .i64 u.start
  idle : inR .i64 u.idle
  spin : inR .i64 u.spin
  on : inR .i64 u.on
def UD.fine (u : UD) : Prop := 0 ≤ u.least ∧ u.least ≤ maxE u.steps ∧ 0 ≤ u.spin ∧ u.spin ≤ 1000000 ∧ 1 ≤ u.up ∧ u.up ≤ 6 ∧ 1 ≤ u.down ∧ u.down ≤ 6 ∧ -6 ≤ u.on ∧ u.on ≤ 6 ∧ u.on ≠ 0 ∧ 0 ≤ u.start ∧ u.start ≤ 1000000000 ∧ 0 ≤ u.idle ∧ u.idle ≤ 1000000000
instance (u : UD) : Decidable u.fine := by unfold UD.fine; infer_instance
def unitE (u : UD) : Int := if 0 ≤ u.bus ∧ u.bus ≤ 5 then (if crvE true u.steps = 0 then (if u.fine then 0 else 1) else crvE true u.steps) else 1
abbrev ua (bus least : Int) (t : Nat) (xs : List (List D)) (up down start idle spin on : Int) : DV := .ag [.sc (.int .i64 bus), .sc (.int .i64 least), .sl t 2 xs, .sc (.int .i64 up), .sc (.int .i64 down), .sc (.int .i64 start), .sc (.int .i64 idle), .sc (.int .i64 spin), .sc (.int .i64 on)]
theorem withinI_s {π : Pi} (h : Good TT π) {K : List DV → Prop} {n a b : Int} (h1 : a ≤ n ∧ n ≤ b → K [.one (.sc (.bool true))]) (h2 : ¬ (a ≤ n ∧ n ≤ b) → K [.one (.sc (.bool false))]) :
    π.call 87 [.one (.sc (.int .i64 n)), .one (.sc (.int .i64 a)), .one (.sc (.int .i64 b))] K := by
  by_cases hc : a ≤ n ∧ n ≤ b
  · refine h.call' _ ?_ (h1 hc)
    refine con Tryz.func87 rfl (by kernel_rfl) (by kernel_rfl) fun π Q h hQ => ?_
    cbv
    (refine Good.yes ‹_› ?_ ?_; (· (simp only [inR, cmpP, loOk, hiOk, Int.ofNat_eq_natCast, Int.negSucc_eq, IntKind.bits, Int.toNat_natCast, ge_iff_le, gt_iff_lt, ne_eq, wl_len, hl_len, natCast_fold, not_true_eq_false, not_false_eq_true] at * <;> omega)); cbv; refine Good.yes ‹_› ?_ ?_; (· (simp only [inR, cmpP, loOk, hiOk, Int.ofNat_eq_natCast, Int.negSucc_eq, IntKind.bits, Int.toNat_natCast, ge_iff_le, gt_iff_lt, ne_eq, wl_len, hl_len, natCast_fold, not_true_eq_false, not_false_eq_true] at * <;> omega)); cbv)
    exact hQ
  · refine h.call' _ ?_ (h2 hc)
    refine con Tryz.func87 rfl (by kernel_rfl) (by kernel_rfl) fun π Q h hQ => ?_
    cbv
    refine h.dec rfl (fun hp => ?_) (fun hp => ?_)
    · cbv
      (refine Good.no ‹_› rfl ?_ ?_; (· (simp only [inR, cmpP, loOk, hiOk, Int.ofNat_eq_natCast, Int.negSucc_eq, IntKind.bits, Int.toNat_natCast, ge_iff_le, gt_iff_lt, ne_eq, wl_len, hl_len, natCast_fold, not_true_eq_false, not_false_eq_true] at * <;> omega)); cbv)
      exact hQ
    · cbv
      skip
      exact hQ
theorem withinL_s {π : Pi} (h : Good TT π) {K : List DV → Prop} {n a b : Int} (h1 : a ≤ n ∧ n ≤ b → K [.one (.sc (.bool true))]) (h2 : ¬ (a ≤ n ∧ n ≤ b) → K [.one (.sc (.bool false))]) :
    π.call 88 [.one (.sc (.int .i64 n)), .one (.sc (.int .i64 a)), .one (.sc (.int .i64 b))] K := by
  by_cases hc : a ≤ n ∧ n ≤ b
  · refine h.call' _ ?_ (h1 hc)
    refine con Tryz.func88 rfl (by kernel_rfl) (by kernel_rfl) fun π Q h hQ => ?_
    cbv
    (refine Good.yes ‹_› ?_ ?_; (· (simp only [inR, cmpP, loOk, hiOk, Int.ofNat_eq_natCast, Int.negSucc_eq, IntKind.bits, Int.toNat_natCast, ge_iff_le, gt_iff_lt, ne_eq, wl_len, hl_len, natCast_fold, not_true_eq_false, not_false_eq_true] at * <;> omega)); cbv; refine Good.yes ‹_› ?_ ?_; (· (simp only [inR, cmpP, loOk, hiOk, Int.ofNat_eq_natCast, Int.negSucc_eq, IntKind.bits, Int.toNat_natCast, ge_iff_le, gt_iff_lt, ne_eq, wl_len, hl_len, natCast_fold, not_true_eq_false, not_false_eq_true] at * <;> omega)); cbv)
    exact hQ
  · refine h.call' _ ?_ (h2 hc)
    refine con Tryz.func88 rfl (by kernel_rfl) (by kernel_rfl) fun π Q h hQ => ?_
    cbv
    refine h.dec rfl (fun hp => ?_) (fun hp => ?_)
    · cbv
      (refine Good.no ‹_› rfl ?_ ?_; (· (simp only [inR, cmpP, loOk, hiOk, Int.ofNat_eq_natCast, Int.negSucc_eq, IntKind.bits, Int.toNat_natCast, ge_iff_le, gt_iff_lt, ne_eq, wl_len, hl_len, natCast_fold, not_true_eq_false, not_false_eq_true] at * <;> omega)); cbv)
      exact hQ
    · cbv
      skip
      exact hQ
variable {t : Nat} {l : List (Int × Int)} {xs : List (List D)} {c bus least up down start idle spin on : Int}
theorem max_c (hx : xs = stl l) (ho : StOk l) (hll : l.length ≤ 1000000) (hc : c = maxE l) : TT 44 [ua bus least t xs up down start idle spin on] [.one (.sc (.int .i64 c))] := by
  refine con Tryz.func44 rfl (by kernel_rfl) (by kernel_rfl) fun π Q h hQ => ?_
  (cbv
   refine h.call' _ (offer_c hx ho hll rfl) ?_
   obtain ⟨e, he⟩ : ∃ e, e = crvE true l := ⟨_, rfl⟩
   rw [← he]
   cbv
   refine h.dec rfl (fun hp => ?_) (fun hp => ?_)
   · have : c = 0 := by rw [hc]; unfold maxE; rw [if_neg (by rw [← he]; (simp only [inR, cmpP, loOk, hiOk, Int.ofNat_eq_natCast, Int.negSucc_eq, IntKind.bits, Int.toNat_natCast, ge_iff_le, gt_iff_lt, ne_eq, wl_len, hl_len, natCast_fold, not_true_eq_false, not_false_eq_true] at * <;> omega))]
     subst this
     cbv
     skip
     exact hQ
   · have h0 : crvE true l = 0 := by rw [← he]; (simp only [inR, cmpP, loOk, hiOk, Int.ofNat_eq_natCast, Int.negSucc_eq, IntKind.bits, Int.toNat_natCast, ge_iff_le, gt_iff_lt, ne_eq, wl_len, hl_len, natCast_fold, not_true_eq_false, not_false_eq_true] at * <;> omega)
     have hc2 : c = sumE l := by rw [hc]; unfold maxE sumE; rw [if_pos h0, if_pos (cur_of h0)]
     cbv
     skip
     refine h.call' _ (sum_c hx ho hll hc2) ?_
     cbv
     skip
     exact hQ
  )
theorem rmax_c (hx : xs = stl l) (ho : StOk l) (hll : l.length ≤ 1000000) (hc : c = maxE l) : TT 78 [ua bus least t xs up down start idle spin on] [.one (.sc (.int .i64 c))] := by
  refine con Tryz.func78 rfl (by kernel_rfl) (by kernel_rfl) fun π Q h hQ => ?_
  (cbv
   refine h.call' _ (roffer_c hx ho hll rfl) ?_
   obtain ⟨e, he⟩ : ∃ e, e = crvE true l := ⟨_, rfl⟩
   rw [← he]
   cbv
   refine h.dec rfl (fun hp => ?_) (fun hp => ?_)
   · have : c = 0 := by rw [hc]; unfold maxE; rw [if_neg (by rw [← he]; (simp only [inR, cmpP, loOk, hiOk, Int.ofNat_eq_natCast, Int.negSucc_eq, IntKind.bits, Int.toNat_natCast, ge_iff_le, gt_iff_lt, ne_eq, wl_len, hl_len, natCast_fold, not_true_eq_false, not_false_eq_true] at * <;> omega))]
     subst this
     cbv
     skip
     exact hQ
   · have h0 : crvE true l = 0 := by rw [← he]; (simp only [inR, cmpP, loOk, hiOk, Int.ofNat_eq_natCast, Int.negSucc_eq, IntKind.bits, Int.toNat_natCast, ge_iff_le, gt_iff_lt, ne_eq, wl_len, hl_len, natCast_fold, not_true_eq_false, not_false_eq_true] at * <;> omega)
     have hc2 : c = sumE l := by rw [hc]; unfold maxE sumE; rw [if_pos h0, if_pos (cur_of h0)]
     cbv
     skip
     refine h.call' _ (rsum_c hx ho hll hc2) ?_
     cbv
     skip
     exact hQ
  )
set_option maxHeartbeats 8000000 in
theorem ucheck_c {u : UD} (ho : u.Ok) (hx : xs = stl u.steps) (hc : c = unitE u) : TT 59 [ua u.bus u.least u.t xs u.up u.down u.start u.idle u.spin u.on, .one (.sc (.int .i64 6))] [.one (.sc (.int .i64 c))] := by
  obtain ⟨bus, least, t, steps, up, down, start, idle, spin, on⟩ := u
  obtain ⟨o1, o2, o3, o4, o5, o6, o7, o8, o9, o10⟩ := ho
  simp only at hx o1 o2 o3 o4 o5 o6 o7 o8 o9 o10 ⊢
  refine con Tryz.func59 rfl (by kernel_rfl) (by kernel_rfl) fun π Q h hQ => ?_
  unfold unitE at hc
  simp only at hc
  cbv
  (refine Good.sub' ‹_› ?_ ?_; (· (simp only [inR, cmpP, loOk, hiOk, Int.ofNat_eq_natCast, Int.negSucc_eq, IntKind.bits, Int.toNat_natCast, ge_iff_le, gt_iff_lt, ne_eq, wl_len, hl_len, natCast_fold, not_true_eq_false, not_false_eq_true] at * <;> omega)); intro _ _; cbv)
  refine withinI_s h (fun hb => ?_) (fun hb => ?_)
  · rw [if_pos (by omega)] at hc
    cbv
    (refine Good.no ‹_› rfl ?_ ?_; (· (simp only [inR, cmpP, loOk, hiOk, Int.ofNat_eq_natCast, Int.negSucc_eq, IntKind.bits, Int.toNat_natCast, ge_iff_le, gt_iff_lt, ne_eq, wl_len, hl_len, natCast_fold, not_true_eq_false, not_false_eq_true] at * <;> omega)); cbv)
    refine h.call' _ (offer_c hx o3 o4 rfl) ?_
    obtain ⟨e, he⟩ : ∃ e, e = crvE true steps := ⟨_, rfl⟩
    rw [← he] at hc ⊢
    cbv
    refine h.dec rfl (fun hp => ?_) (fun hp => ?_)
    · rw [if_neg (by (simp only [inR, cmpP, loOk, hiOk, Int.ofNat_eq_natCast, Int.negSucc_eq, IntKind.bits, Int.toNat_natCast, ge_iff_le, gt_iff_lt, ne_eq, wl_len, hl_len, natCast_fold, not_true_eq_false, not_false_eq_true] at * <;> omega))] at hc
      subst hc
      cbv
      skip
      exact hQ
    · rw [if_pos (by (simp only [inR, cmpP, loOk, hiOk, Int.ofNat_eq_natCast, Int.negSucc_eq, IntKind.bits, Int.toNat_natCast, ge_iff_le, gt_iff_lt, ne_eq, wl_len, hl_len, natCast_fold, not_true_eq_false, not_false_eq_true] at * <;> omega))] at hc
      obtain ⟨m, hm⟩ : ∃ m, m = maxE steps := ⟨_, rfl⟩
      have hm2 := maxE_le steps
      rw [← hm] at hm2
      have yes : (0 ≤ least ∧ least ≤ m ∧ 0 ≤ spin ∧ spin ≤ 1000000 ∧ 1 ≤ up ∧ up ≤ 6 ∧ 1 ≤ down ∧ down ≤ 6 ∧ -6 ≤ on ∧ on ≤ 6 ∧ on ≠ 0 ∧ 0 ≤ start ∧ start ≤ 1000000000 ∧ 0 ≤ idle ∧ idle ≤ 1000000000) → Q [.one (.sc (.int .i64 0))] := fun hh => by
        rw [if_pos (show UD.fine ⟨bus, least, t, steps, up, down, start, idle, spin, on⟩ by unfold UD.fine; simp only; rw [← hm]; exact hh)] at hc
        rw [← hc]
        exact hQ
      have no : ¬ (0 ≤ least ∧ least ≤ m ∧ 0 ≤ spin ∧ spin ≤ 1000000 ∧ 1 ≤ up ∧ up ≤ 6 ∧ 1 ≤ down ∧ down ≤ 6 ∧ -6 ≤ on ∧ on ≤ 6 ∧ on ≠ 0 ∧ 0 ≤ start ∧ start ≤ 1000000000 ∧ 0 ≤ idle ∧ idle ≤ 1000000000) → Q [.one (.sc (.int .i64 1))] := fun hh => by
        rw [if_neg (show ¬ UD.fine ⟨bus, least, t, steps, up, down, start, idle, spin, on⟩ by unfold UD.fine; simp only; rw [← hm]; exact hh)] at hc
        rw [← hc]
        exact hQ
      clear hc hQ he
      cbv
      refine h.call' _ (max_c hx o3 o4 hm) ?_
      clear o1 o2 o3 o4 o5 o6 o7 o8 o9 o10 hx hm
      cbv
      repeat any_goals (first
        | (exact yes (by (simp only [inR, cmpP, loOk, hiOk, Int.ofNat_eq_natCast, Int.negSucc_eq, IntKind.bits, Int.toNat_natCast, ge_iff_le, gt_iff_lt, ne_eq, wl_len, hl_len, natCast_fold, not_true_eq_false, not_false_eq_true] at * <;> omega)))
        | (exact no (by (first | omega | (simp only [inR, cmpP, loOk, hiOk, Int.ofNat_eq_natCast, Int.negSucc_eq, IntKind.bits, Int.toNat_natCast, ge_iff_le, gt_iff_lt, ne_eq, wl_len, hl_len, natCast_fold, not_true_eq_false, not_false_eq_true] at * <;> omega))))
        | ((refine withinL_s h (fun hb => ?_) (fun hb => ?_)) <;> cbv)
        | ((refine withinI_s h (fun hb => ?_) (fun hb => ?_)) <;> cbv)
        | ((refine h.dec rfl (fun hp => ?_) (fun hp => ?_)) <;> cbv)
        | ((refine h.chk' rfl ?_); cbv))
  · rw [if_neg (by omega)] at hc
    subst hc
    cbv
    skip
    exact hQ
end Go.Proofs.YtpmlocilhhjifaaGreat.Eng
end
section
set_option maxRecDepth 100000
set_option linter.unusedSimpArgs false
set_option linter.unusedVariables false
set_option pp.maxSteps 200
namespace Go.Proofs.YtpmlocilhhjifaaGreat.Eng
open Go.RowKit Go.Proofs
variable {t : Nat} {l : List (Int × Int)} {xs : List (List D)} {c : Int}
set_option maxHeartbeats 8000000 in
theorem rucheck_c {u : UD} (ho : u.Ok) (hx : xs = stl u.steps) (hc : c = unitE u) : TT 100 [ua u.bus u.least u.t xs u.up u.down u.start u.idle u.spin u.on, .one (.sc (.int .i64 6))] [.one (.sc (.int .i64 c))] := by
  obtain ⟨bus, least, t, steps, up, down, start, idle, spin, on⟩ := u
  obtain ⟨o1, o2, o3, o4, o5, o6, o7, o8, o9, o10⟩ := ho
  simp only at hx o1 o2 o3 o4 o5 o6 o7 o8 o9 o10 ⊢
  refine con Tryz.func100 rfl (by kernel_rfl) (by kernel_rfl) fun π Q h hQ => ?_
  unfold unitE at hc
  simp only at hc
  have arg : ¬ (0 ≤ bus ∧ bus ≤ 5) → Q [.one (.sc (.int .i64 1))] := fun hh => by
    rw [if_neg hh] at hc
    rw [← hc]
    exact hQ
  cbv
  refine h.dec rfl (fun hp1 => ?_) (fun hp1 => ?_)
  · cbv
    skip
    exact arg (by (simp only [inR, cmpP, loOk, hiOk, Int.ofNat_eq_natCast, Int.negSucc_eq, IntKind.bits, Int.toNat_natCast, ge_iff_le, gt_iff_lt, ne_eq, wl_len, hl_len, natCast_fold, not_true_eq_false, not_false_eq_true] at * <;> omega))
  · cbv
    refine h.dec rfl (fun hp2 => ?_) (fun hp2 => ?_)
    · cbv
      skip
      exact arg (by (simp only [inR, cmpP, loOk, hiOk, Int.ofNat_eq_natCast, Int.negSucc_eq, IntKind.bits, Int.toNat_natCast, ge_iff_le, gt_iff_lt, ne_eq, wl_len, hl_len, natCast_fold, not_true_eq_false, not_false_eq_true] at * <;> omega))
    · rw [if_pos (by (simp only [inR, cmpP, loOk, hiOk, Int.ofNat_eq_natCast, Int.negSucc_eq, IntKind.bits, Int.toNat_natCast, ge_iff_le, gt_iff_lt, ne_eq, wl_len, hl_len, natCast_fold, not_true_eq_false, not_false_eq_true] at * <;> omega))] at hc
      clear arg
      cbv
      skip
      refine h.call' _ (roffer_c hx o3 o4 rfl) ?_
      obtain ⟨e, he⟩ : ∃ e, e = crvE true steps := ⟨_, rfl⟩
      rw [← he] at hc ⊢
      cbv
      refine h.dec rfl (fun hp => ?_) (fun hp => ?_)
      · rw [if_neg (by (simp only [inR, cmpP, loOk, hiOk, Int.ofNat_eq_natCast, Int.negSucc_eq, IntKind.bits, Int.toNat_natCast, ge_iff_le, gt_iff_lt, ne_eq, wl_len, hl_len, natCast_fold, not_true_eq_false, not_false_eq_true] at * <;> omega))] at hc
        subst hc
        cbv
        skip
        exact hQ
      · rw [if_pos (by (simp only [inR, cmpP, loOk, hiOk, Int.ofNat_eq_natCast, Int.negSucc_eq, IntKind.bits, Int.toNat_natCast, ge_iff_le, gt_iff_lt, ne_eq, wl_len, hl_len, natCast_fold, not_true_eq_false, not_false_eq_true] at * <;> omega))] at hc
        obtain ⟨m, hm⟩ : ∃ m, m = maxE steps := ⟨_, rfl⟩
        have hm2 := maxE_le steps
        rw [← hm] at hm2
        have yes : (0 ≤ least ∧ least ≤ m ∧ 0 ≤ spin ∧ spin ≤ 1000000 ∧ 1 ≤ up ∧ up ≤ 6 ∧ 1 ≤ down ∧ down ≤ 6 ∧ -6 ≤ on ∧ on ≤ 6 ∧ on ≠ 0 ∧ 0 ≤ start ∧ start ≤ 1000000000 ∧ 0 ≤ idle ∧ idle ≤ 1000000000) → Q [.one (.sc (.int .i64 0))] := fun hh => by
          rw [if_pos (show UD.fine ⟨bus, least, t, steps, up, down, start, idle, spin, on⟩ by unfold UD.fine; simp only; rw [← hm]; exact hh)] at hc
          rw [← hc]
          exact hQ
        have no : ¬ (0 ≤ least ∧ least ≤ m ∧ 0 ≤ spin ∧ spin ≤ 1000000 ∧ 1 ≤ up ∧ up ≤ 6 ∧ 1 ≤ down ∧ down ≤ 6 ∧ -6 ≤ on ∧ on ≤ 6 ∧ on ≠ 0 ∧ 0 ≤ start ∧ start ≤ 1000000000 ∧ 0 ≤ idle ∧ idle ≤ 1000000000) → Q [.one (.sc (.int .i64 1))] := fun hh => by
          rw [if_neg (show ¬ UD.fine ⟨bus, least, t, steps, up, down, start, idle, spin, on⟩ by unfold UD.fine; simp only; rw [← hm]; exact hh)] at hc
          rw [← hc]
          exact hQ
        clear hc hQ he
        have mx := @rmax_c t steps xs m bus least up down start idle spin on hx o3 o4 hm
        clear o1 o2 o3 o4 o5 o6 o7 o8 o9 o10 hx hm
        cbv
        refine h.dec rfl (fun hq => ?_) (fun hq => ?_)
        · cbv
          repeat (first
            | (exact no (by (simp only [inR, cmpP, loOk, hiOk, Int.ofNat_eq_natCast, Int.negSucc_eq, IntKind.bits, Int.toNat_natCast, ge_iff_le, gt_iff_lt, ne_eq, wl_len, hl_len, natCast_fold, not_true_eq_false, not_false_eq_true] at * <;> omega)))
            | (refine h.chk' rfl ?_; cbv))
        · cbv
          refine h.call' _ mx ?_
          clear mx
          cbv
          repeat any_goals (first
            | (exact yes (by (simp only [inR, cmpP, loOk, hiOk, Int.ofNat_eq_natCast, Int.negSucc_eq, IntKind.bits, Int.toNat_natCast, ge_iff_le, gt_iff_lt, ne_eq, wl_len, hl_len, natCast_fold, not_true_eq_false, not_false_eq_true] at * <;> omega)))
            | (exact no (by (simp only [inR, cmpP, loOk, hiOk, Int.ofNat_eq_natCast, Int.negSucc_eq, IntKind.bits, Int.toNat_natCast, ge_iff_le, gt_iff_lt, ne_eq, wl_len, hl_len, natCast_fold, not_true_eq_false, not_false_eq_true] at * <;> omega)))
            | ((refine h.dec rfl (fun hp => ?_) (fun hp => ?_)) <;> cbv)
            | (refine h.chk' rfl ?_; cbv))
/-- The first error among units. -/
def firstE : List UD → Int
  | [] => 0
  | u :: r => if unitE u = 0 then firstE r else unitE u
theorem firstE_at {us : List UD} {i : Nat} {u : UD} (h : us[i]? = some u) : firstE (us.drop i) = if unitE u = 0 then firstE (us.drop (i + 1)) else unitE u := by
  obtain ⟨hl, rfl⟩ := List.getElem?_eq_some_iff.1 h
  rw [List.drop_eq_getElem_cons hl]
  rfl
def enE (us : List UD) (n : Nat) : Int := if 5 < us.length then 5 else if firstE us = 0 then (if n = us.length then 0 else 3) else firstE us
theorem ud_get {us : List UD} {i : Nat} {u : UD} (h : us[i]? = some u) : (us.map UD.cell)[i]? = some [.sc (.int .i64 u.bus), .sc (.int .i64 u.least), .sl u.t 2 (stl u.steps), .sc (.int .i64 u.up), .sc (.int .i64 u.down), .sc (.int .i64 u.start), .sc (.int .i64 u.idle), .sc (.int .i64 u.spin), .sc (.int .i64 u.on)] := by simp [h, UD.cell]
theorem encheck_c {t t' : Nat} {us : List UD} {es os : List (List D)} (he : es = us.map UD.cell) (ho : ∀ u ∈ us, u.Ok) (hl : us.length ≤ 1000000) (hl' : os.length ≤ 1000000) (hc : c = enE us os.length) :
    TT 36 [.one (.sl t 9 es), .one (.sl t' 1 os)] [.one (.sc (.int .i64 c))] := by
  refine con Tryz.func36 rfl (by kernel_rfl) (by kernel_rfl) fun π Q h hQ => ?_
  have hle : es.length = us.length := by rw [he]; simp
  cbv
  (refine Good.len' ‹_› ?_; intro _ _; cbv)
  refine h.dec rfl (fun hp => ?_) (fun hp => ?_)
  · have : c = 5 := by rw [hc]; unfold enE; rw [if_pos (by (simp only [inR, cmpP, loOk, hiOk, Int.ofNat_eq_natCast, Int.negSucc_eq, IntKind.bits, Int.toNat_natCast, ge_iff_le, gt_iff_lt, ne_eq, wl_len, hl_len, natCast_fold, not_true_eq_false, not_false_eq_true] at * <;> omega))]
    subst this
    cbv
    skip
    exact hQ
  · have hc2 : c = if firstE (us.drop 0) = 0 then (if os.length = us.length then 0 else 3) else firstE (us.drop 0) := by rw [hc]; unfold enE; rw [if_neg (by (simp only [inR, cmpP, loOk, hiOk, Int.ofNat_eq_natCast, Int.negSucc_eq, IntKind.bits, Int.toNat_natCast, ge_iff_le, gt_iff_lt, ne_eq, wl_len, hl_len, natCast_fold, not_true_eq_false, not_false_eq_true] at * <;> omega))]; rfl
    cbv
    (refine Good.len' ‹_› ?_; intro _ _; cbv)
    rename_i nl hnl
    refine h.loop' (Int × Nat) (fun p => p.1 = (p.2 : Int) ∧ p.2 ≤ us.length ∧ c = if firstE (us.drop p.2) = 0 then (if os.length = us.length then 0 else 3) else firstE (us.drop p.2)) (fun p => ⟨[(0, .v (.one (.sl t 9 es))), (1, .v (.one (.sl t' 1 os))), (11, .v (.one (.sl t 9 es))), (12, vi .i64 nl), (13, vi .i64 p.1)], []⟩) (fun p => us.length - p.2) (0, 0) ⟨rfl, Nat.zero_le _, hc2⟩ (by (refine Wk.of [] rfl ?_ ?_; (· (repeat (first | exact trivial | (refine And.intro ?_ ?_; (· first | exact trivial | exact Or.inl ⟨_, rfl, rfl⟩ | exact ⟨_, rfl, rfl⟩ | exact Or.inr ⟨rfl, rfl, by decide⟩))))); (· (repeat (first | exact trivial | (refine And.intro ?_ ?_; (· first | exact trivial | exact Or.inl rfl | rfl | exact Or.inr ⟨_, _, _, _, rfl, rfl, rfl, renNo rfl⟩ | exact ⟨ne_no rfl, Or.inl ⟨_, rfl, rfl⟩⟩ | exact ⟨ne_no rfl, Or.inr ⟨rfl, _, rfl⟩⟩ | exact ⟨_, rfl, rfl, ne_no rfl⟩))))))) ?_
    rintro ⟨iz, i⟩ R ⟨hiz, hi, hv⟩ hR
    simp only at hiz hi hv
    cbv
    refine h.dec rfl (fun hp3 => ?_) (fun hp3 => ?_)
    · obtain ⟨u, hgu⟩ : ∃ u, us[i]? = some u := ⟨us[i]'(by (simp only [inR, cmpP, loOk, hiOk, Int.ofNat_eq_natCast, Int.negSucc_eq, IntKind.bits, Int.toNat_natCast, ge_iff_le, gt_iff_lt, ne_eq, wl_len, hl_len, natCast_fold, not_true_eq_false, not_false_eq_true] at * <;> omega)), List.getElem?_eq_getElem _⟩
      have hge := ud_get hgu
      rw [← he] at hge
      obtain ⟨zs, hzs⟩ : ∃ zs, zs = stl u.steps := ⟨_, rfl⟩
      rw [← hzs] at hge
      rw [firstE_at hgu] at hv
      cbv
      refine h.get' i _ hiz hge ?_
      cbv
      skip
      refine h.call' _ (ucheck_c (ho u (List.mem_of_getElem? hgu)) hzs rfl) ?_
      obtain ⟨e, hee⟩ : ∃ e, e = unitE u := ⟨_, rfl⟩
      rw [← hee] at hv ⊢
      cbv
      refine h.dec rfl (fun hp4 => ?_) (fun hp4 => ?_)
      · rw [if_neg (show ¬ e = 0 by (simp only [inR, cmpP, loOk, hiOk, Int.ofNat_eq_natCast, Int.negSucc_eq, IntKind.bits, Int.toNat_natCast, ge_iff_le, gt_iff_lt, ne_eq, wl_len, hl_len, natCast_fold, not_true_eq_false, not_false_eq_true] at * <;> omega)), if_neg (show ¬ e = 0 by (simp only [inR, cmpP, loOk, hiOk, Int.ofNat_eq_natCast, Int.negSucc_eq, IntKind.bits, Int.toNat_natCast, ge_iff_le, gt_iff_lt, ne_eq, wl_len, hl_len, natCast_fold, not_true_eq_false, not_false_eq_true] at * <;> omega))] at hv
        subst hv
        cbv
        skip
        exact hQ
      · rw [if_pos (show e = 0 by (simp only [inR, cmpP, loOk, hiOk, Int.ofNat_eq_natCast, Int.negSucc_eq, IntKind.bits, Int.toNat_natCast, ge_iff_le, gt_iff_lt, ne_eq, wl_len, hl_len, natCast_fold, not_true_eq_false, not_false_eq_true] at * <;> omega))] at hv
        cbv
        (refine Good.add' ‹_› ?_ ?_; (· (simp only [inR, cmpP, loOk, hiOk, Int.ofNat_eq_natCast, Int.negSucc_eq, IntKind.bits, Int.toNat_natCast, ge_iff_le, gt_iff_lt, ne_eq, wl_len, hl_len, natCast_fold, not_true_eq_false, not_false_eq_true] at * <;> omega)); intro _ _; cbv)
        rename_i i1 hi1
        refine hR _ (i1, i + 1) ⟨by simp only; (simp only [inR, cmpP, loOk, hiOk, Int.ofNat_eq_natCast, Int.negSucc_eq, IntKind.bits, Int.toNat_natCast, ge_iff_le, gt_iff_lt, ne_eq, wl_len, hl_len, natCast_fold, not_true_eq_false, not_false_eq_true] at * <;> omega), by simp only; (simp only [inR, cmpP, loOk, hiOk, Int.ofNat_eq_natCast, Int.negSucc_eq, IntKind.bits, Int.toNat_natCast, ge_iff_le, gt_iff_lt, ne_eq, wl_len, hl_len, natCast_fold, not_true_eq_false, not_false_eq_true] at * <;> omega), hv⟩ (by simp only; (simp only [inR, cmpP, loOk, hiOk, Int.ofNat_eq_natCast, Int.negSucc_eq, IntKind.bits, Int.toNat_natCast, ge_iff_le, gt_iff_lt, ne_eq, wl_len, hl_len, natCast_fold, not_true_eq_false, not_false_eq_true] at * <;> omega)) (by (refine Wk.of [] rfl ?_ ?_; (· (repeat (first | exact trivial | (refine And.intro ?_ ?_; (· first | exact trivial | exact Or.inl ⟨_, rfl, rfl⟩ | exact ⟨_, rfl, rfl⟩ | exact Or.inr ⟨rfl, rfl, by decide⟩))))); (· (repeat (first | exact trivial | (refine And.intro ?_ ?_; (· first | exact trivial | exact Or.inl rfl | rfl | exact Or.inr ⟨_, _, _, _, rfl, rfl, rfl, renNo rfl⟩ | exact ⟨ne_no rfl, Or.inl ⟨_, rfl, rfl⟩⟩ | exact ⟨ne_no rfl, Or.inr ⟨rfl, _, rfl⟩⟩ | exact ⟨_, rfl, rfl, ne_no rfl⟩)))))))
    · have hi2 : i = us.length := by (simp only [inR, cmpP, loOk, hiOk, Int.ofNat_eq_natCast, Int.negSucc_eq, IntKind.bits, Int.toNat_natCast, ge_iff_le, gt_iff_lt, ne_eq, wl_len, hl_len, natCast_fold, not_true_eq_false, not_false_eq_true] at * <;> omega)
      rw [hi2, List.drop_length, if_pos (show firstE [] = 0 from rfl)] at hv
      cbv
      (refine Good.len' ‹_› ?_; intro _ _; cbv; refine Good.len' ‹_› ?_; intro _ _; cbv)
      refine h.dec rfl (fun hp4 => ?_) (fun hp4 => ?_)
      · rw [if_neg (by (simp only [inR, cmpP, loOk, hiOk, Int.ofNat_eq_natCast, Int.negSucc_eq, IntKind.bits, Int.toNat_natCast, ge_iff_le, gt_iff_lt, ne_eq, wl_len, hl_len, natCast_fold, not_true_eq_false, not_false_eq_true] at * <;> omega))] at hv
        subst hv
        cbv
        skip
        exact hQ
      · rw [if_pos (by (simp only [inR, cmpP, loOk, hiOk, Int.ofNat_eq_natCast, Int.negSucc_eq, IntKind.bits, Int.toNat_natCast, ge_iff_le, gt_iff_lt, ne_eq, wl_len, hl_len, natCast_fold, not_true_eq_false, not_false_eq_true] at * <;> omega))] at hv
        subst hv
        cbv
        skip
        exact hQ
theorem rencheck_c {t t' : Nat} {us : List UD} {es os : List (List D)} (he : es = us.map UD.cell) (ho : ∀ u ∈ us, u.Ok) (hl : us.length ≤ 1000000) (hl' : os.length ≤ 1000000) (hc : c = enE us os.length) :
    TT 76 [.one (.sl t 9 es), .one (.sl t' 1 os)] [.one (.sc (.int .i64 c))] := by
  refine con Tryz.func76 rfl (by kernel_rfl) (by kernel_rfl) fun π Q h hQ => ?_
  have hle : es.length = us.length := by rw [he]; simp
  cbv
  (refine Good.len' ‹_› ?_; intro _ _; cbv)
  refine h.dec rfl (fun hp => ?_) (fun hp => ?_)
  · have : c = 5 := by rw [hc]; unfold enE; rw [if_pos (by (simp only [inR, cmpP, loOk, hiOk, Int.ofNat_eq_natCast, Int.negSucc_eq, IntKind.bits, Int.toNat_natCast, ge_iff_le, gt_iff_lt, ne_eq, wl_len, hl_len, natCast_fold, not_true_eq_false, not_false_eq_true] at * <;> omega))]
    subst this
    cbv
    skip
    exact hQ
  · have hc2 : c = if firstE (us.drop 0) = 0 then (if os.length = us.length then 0 else 3) else firstE (us.drop 0) := by rw [hc]; unfold enE; rw [if_neg (by (simp only [inR, cmpP, loOk, hiOk, Int.ofNat_eq_natCast, Int.negSucc_eq, IntKind.bits, Int.toNat_natCast, ge_iff_le, gt_iff_lt, ne_eq, wl_len, hl_len, natCast_fold, not_true_eq_false, not_false_eq_true] at * <;> omega))]; rfl
    cbv
    skip
    refine h.loop' (Int × Nat) (fun p => p.1 = (p.2 : Int) ∧ p.2 ≤ us.length ∧ c = if firstE (us.drop p.2) = 0 then (if os.length = us.length then 0 else 3) else firstE (us.drop p.2)) (fun p => ⟨[(0, .v (.one (.sl t 9 es))), (1, .v (.one (.sl t' 1 os))), (5, vi .i64 p.1)], []⟩) (fun p => us.length - p.2) (0, 0) ⟨rfl, Nat.zero_le _, hc2⟩ (by (refine Wk.of [] rfl ?_ ?_; (· (repeat (first | exact trivial | (refine And.intro ?_ ?_; (· first | exact trivial | exact Or.inl ⟨_, rfl, rfl⟩ | exact ⟨_, rfl, rfl⟩ | exact Or.inr ⟨rfl, rfl, by decide⟩))))); (· (repeat (first | exact trivial | (refine And.intro ?_ ?_; (· first | exact trivial | exact Or.inl rfl | rfl | exact Or.inr ⟨_, _, _, _, rfl, rfl, rfl, renNo rfl⟩ | exact ⟨ne_no rfl, Or.inl ⟨_, rfl, rfl⟩⟩ | exact ⟨ne_no rfl, Or.inr ⟨rfl, _, rfl⟩⟩ | exact ⟨_, rfl, rfl, ne_no rfl⟩))))))) ?_
    rintro ⟨iz, i⟩ R ⟨hiz, hi, hv⟩ hR
    simp only at hiz hi hv
    cbv
    (refine Good.len' ‹_› ?_; intro _ _; cbv)
    refine h.dec rfl (fun hp3 => ?_) (fun hp3 => ?_)
    · obtain ⟨u, hgu⟩ : ∃ u, us[i]? = some u := ⟨us[i]'(by (simp only [inR, cmpP, loOk, hiOk, Int.ofNat_eq_natCast, Int.negSucc_eq, IntKind.bits, Int.toNat_natCast, ge_iff_le, gt_iff_lt, ne_eq, wl_len, hl_len, natCast_fold, not_true_eq_false, not_false_eq_true] at * <;> omega)), List.getElem?_eq_getElem _⟩
      have hge := ud_get hgu
      rw [← he] at hge
      obtain ⟨zs, hzs⟩ : ∃ zs, zs = stl u.steps := ⟨_, rfl⟩
      rw [← hzs] at hge
      rw [firstE_at hgu] at hv
      cbv
      refine h.get' i _ hiz hge ?_
      cbv
      skip
      refine h.call' _ (rucheck_c (ho u (List.mem_of_getElem? hgu)) hzs rfl) ?_
      obtain ⟨e, hee⟩ : ∃ e, e = unitE u := ⟨_, rfl⟩
      rw [← hee] at hv ⊢
      cbv
      refine h.dec rfl (fun hp4 => ?_) (fun hp4 => ?_)
      · rw [if_neg (show ¬ e = 0 by (simp only [inR, cmpP, loOk, hiOk, Int.ofNat_eq_natCast, Int.negSucc_eq, IntKind.bits, Int.toNat_natCast, ge_iff_le, gt_iff_lt, ne_eq, wl_len, hl_len, natCast_fold, not_true_eq_false, not_false_eq_true] at * <;> omega)), if_neg (show ¬ e = 0 by (simp only [inR, cmpP, loOk, hiOk, Int.ofNat_eq_natCast, Int.negSucc_eq, IntKind.bits, Int.toNat_natCast, ge_iff_le, gt_iff_lt, ne_eq, wl_len, hl_len, natCast_fold, not_true_eq_false, not_false_eq_true] at * <;> omega))] at hv
        subst hv
        cbv
        skip
        exact hQ
      · rw [if_pos (show e = 0 by (simp only [inR, cmpP, loOk, hiOk, Int.ofNat_eq_natCast, Int.negSucc_eq, IntKind.bits, Int.toNat_natCast, ge_iff_le, gt_iff_lt, ne_eq, wl_len, hl_len, natCast_fold, not_true_eq_false, not_false_eq_true] at * <;> omega))] at hv
        cbv
        (refine Good.add' ‹_› ?_ ?_; (· (simp only [inR, cmpP, loOk, hiOk, Int.ofNat_eq_natCast, Int.negSucc_eq, IntKind.bits, Int.toNat_natCast, ge_iff_le, gt_iff_lt, ne_eq, wl_len, hl_len, natCast_fold, not_true_eq_false, not_false_eq_true] at * <;> omega)); intro _ _; cbv)
        rename_i i1 hi1
        refine hR _ (i1, i + 1) ⟨by simp only; (simp only [inR, cmpP, loOk, hiOk, Int.ofNat_eq_natCast, Int.negSucc_eq, IntKind.bits, Int.toNat_natCast, ge_iff_le, gt_iff_lt, ne_eq, wl_len, hl_len, natCast_fold, not_true_eq_false, not_false_eq_true] at * <;> omega), by simp only; (simp only [inR, cmpP, loOk, hiOk, Int.ofNat_eq_natCast, Int.negSucc_eq, IntKind.bits, Int.toNat_natCast, ge_iff_le, gt_iff_lt, ne_eq, wl_len, hl_len, natCast_fold, not_true_eq_false, not_false_eq_true] at * <;> omega), hv⟩ (by simp only; (simp only [inR, cmpP, loOk, hiOk, Int.ofNat_eq_natCast, Int.negSucc_eq, IntKind.bits, Int.toNat_natCast, ge_iff_le, gt_iff_lt, ne_eq, wl_len, hl_len, natCast_fold, not_true_eq_false, not_false_eq_true] at * <;> omega)) (by (refine Wk.of [] rfl ?_ ?_; (· (repeat (first | exact trivial | (refine And.intro ?_ ?_; (· first | exact trivial | exact Or.inl ⟨_, rfl, rfl⟩ | exact ⟨_, rfl, rfl⟩ | exact Or.inr ⟨rfl, rfl, by decide⟩))))); (· (repeat (first | exact trivial | (refine And.intro ?_ ?_; (· first | exact trivial | exact Or.inl rfl | rfl | exact Or.inr ⟨_, _, _, _, rfl, rfl, rfl, renNo rfl⟩ | exact ⟨ne_no rfl, Or.inl ⟨_, rfl, rfl⟩⟩ | exact ⟨ne_no rfl, Or.inr ⟨rfl, _, rfl⟩⟩ | exact ⟨_, rfl, rfl, ne_no rfl⟩)))))))
    · have hi2 : i = us.length := by (simp only [inR, cmpP, loOk, hiOk, Int.ofNat_eq_natCast, Int.negSucc_eq, IntKind.bits, Int.toNat_natCast, ge_iff_le, gt_iff_lt, ne_eq, wl_len, hl_len, natCast_fold, not_true_eq_false, not_false_eq_true] at * <;> omega)
      rw [hi2, List.drop_length, if_pos (show firstE [] = 0 from rfl)] at hv
      cbv
      (refine Good.len' ‹_› ?_; intro _ _; cbv; refine Good.len' ‹_› ?_; intro _ _; cbv)
      refine h.dec rfl (fun hp4 => ?_) (fun hp4 => ?_)
      · rw [if_neg (by (simp only [inR, cmpP, loOk, hiOk, Int.ofNat_eq_natCast, Int.negSucc_eq, IntKind.bits, Int.toNat_natCast, ge_iff_le, gt_iff_lt, ne_eq, wl_len, hl_len, natCast_fold, not_true_eq_false, not_false_eq_true] at * <;> omega))] at hv
        subst hv
        cbv
        skip
        exact hQ
      · rw [if_pos (by (simp only [inR, cmpP, loOk, hiOk, Int.ofNat_eq_natCast, Int.negSucc_eq, IntKind.bits, Int.toNat_natCast, ge_iff_le, gt_iff_lt, ne_eq, wl_len, hl_len, natCast_fold, not_true_eq_false, not_false_eq_true] at * <;> omega))] at hv
        subst hv
        cbv
        skip
        exact hQ
end Go.Proofs.YtpmlocilhhjifaaGreat.Eng
end
