/- ReserveOptimality. -/
import Derived.Test.YtpmlocilhhjifaaGreatRl3
set_option maxRecDepth 100000
set_option linter.unusedSimpArgs false
set_option linter.unusedVariables false
set_option pp.maxSteps 200
namespace Go.Proofs.YtpmlocilhhjifaaGreat.Eng
open Go.RowKit Go.Proofs
variable {t t' t'' t3 : Nat} {us : List UD} {os : List Bool} {es bs gs gs4 : List (List D)} {zs zs4 : List QD} {rs : List Rat}
def psum (f : Nat → Rat) : Nat → Rat
  | 0 => 0
  | n + 1 => psum f n + f n
theorem sumR_psum : ∀ l : List Rat, sumR l = psum (gR l) l.length := by
  intro l
  have : ∀ k, k ≤ l.length → sumR (l.take k) = psum (gR l) k := by
    intro k
    induction k with
    | zero => intro _; rfl
    | succ k ih =>
      intro hk
      rw [sumR_take (get_gR (l := l) (i := k) (by omega)), ih (by omega)]
      rfl
  have := this l.length (Nat.le_refl _)
  rwa [List.take_length] at this
theorem psum_zero {f : Nat → Rat} : ∀ {n : Nat}, (∀ i, i < n → f i = 0) → psum f n = 0
  | 0, _ => rfl
  | n + 1, h => by
    show psum f n + f n = 0
    rw [psum_zero fun i hi => h i (by omega), h n (by omega)]
    grind
theorem opt_sum {x y s : Nat → Rat} {p : Rat} : ∀ {n : Nat}, (∀ i, i < n → 0 ≤ (x i - y i) * (s i - p)) → p * (psum x n - psum y n) ≤ psum (fun i => x i * s i) n - psum (fun i => y i * s i) n
  | 0, _ => by show p * (0 - 0) ≤ 0 - 0; grind
  | n + 1, h => by
    have h1 := opt_sum (n := n) fun i hi => h i (by omega)
    have h2 := h n (by omega)
    show p * ((psum x n + x n) - (psum y n + y n)) ≤ (psum (fun i => x i * s i) n + x n * s n) - (psum (fun i => y i * s i) n + y n * s n)
    grind
theorem exch {x y s p ρ : Rat} (h0 : 0 ≤ x) (h1 : x ≤ ρ) (h2 : s < p → y = ρ) (h3 : p < s → y = 0) : 0 ≤ (x - y) * (s - p) := by
  by_cases c1 : s < p
  · have e := h2 c1
    have : 0 ≤ (ρ - x) * (p - s) := Rat.mul_nonneg (by grind) (by grind)
    rw [e]
    grind
  · by_cases c2 : p < s
    · have e := h3 c2
      have : 0 ≤ x * (s - p) := Rat.mul_nonneg h0 (by grind)
      rw [e]
      grind
    · have : s = p := by grind
      rw [this]
      grind
def cstF (us : List UD) (l : List Rat) (i : Nat) : Rat := gR l i * (spn us i : Rat)
/-- Whatever else is taken of the same total costs no less. -/
theorem optim_cost {us : List UD} {rms : List Rat} {ord : List Nat} {need : Int} {F : FS} {x : List Rat} (ho : Ord us ord) (inv : Inv us rms ord need F) (hx : ∀ i, i < us.length → 0 ≤ gR x i ∧ gR x i ≤ gR rms i) (hs : psum (gR x) us.length = psum (gR F.taken) us.length) :
    psum (cstF us F.taken) us.length ≤ psum (cstF us x) us.length := by
  have h := opt_sum (x := gR x) (y := gR F.taken) (s := fun i => (spn us i : Rat)) (p := (F.price : Rat)) (n := us.length) fun i hi => by
    obtain ⟨h0, h1⟩ := hx i hi
    refine exch h0 h1 (fun hc => ?_) (fun hc => ?_)
    · exact inv.t1 i (ho.mem i hi) (by exact_mod_cast hc)
    · have hlo := inv.lo i hi
      by_cases h2 : 0 < gR F.taken i
      · have h3 := inv.t2 i hi h2
        have h4 : F.price < spn us i := by exact_mod_cast hc
        omega
      · grind
  rw [hs] at h
  have e1 : psum (fun i => gR x i * (spn us i : Rat)) us.length = psum (cstF us x) us.length := rfl
  have e2 : psum (fun i => gR F.taken i * (spn us i : Rat)) us.length = psum (cstF us F.taken) us.length := rfl
  rw [e1, e2] at h
  grind
theorem psum_bd {A k : Nat} {f : Nat → Rat} (h : ql (psum f k) ≤ 1 + A * k) (hx : ql (f k) + 1 ≤ A) : ql (psum f (k + 1)) ≤ 1 + A * (k + 1) := sum_bd h hx
theorem long30n_s {π : Pi} (h : Good TT π) {K : List DV → Prop} (hg : gs = zs.map QD.cell) (hk1 : K [.one (.sc (.bool true))]) (hk0 : Small [] [] zs → K [.one (.sc (.bool false))]) : π.call 10 [.one (.sl 3 9 []), .one (.sl 3 1 []), .one (.sl t'' 4 gs)] K := long30_s h (us := []) rfl hg hk1 hk0
set_option maxHeartbeats 16000000 in
theorem optim_l {need : Int} (he : es = us.map UD.cell) (hb : bs = bl os) (hg : gs = zs.map QD.cell) (ho : ∀ u ∈ us, u.Ok0) (hz : ∀ z ∈ zs, z.Raw) (hn : inR .i64 need) (hg4 : gs4 = zs4.map QD.cell) (hz4 : ∀ z ∈ zs4, z.Raw) :
    TT 9 [.one (.sl t 9 es), .one (.sl t' 1 bs), .one (.sl t'' 4 gs), .one (.sc (.int .i64 need)), .one (.sl t3 4 gs4)] [.one (.sc (.bool true))] := by
  refine con Tryz.func9 rfl (by kernel_rfl) (by kernel_rfl) fun π Q h hQ => ?_
  have hle : es.length = us.length := by rw [he]; simp
  cbv
  refine long30_s h he hg ?_ fun hs => ?_
  · cbv
    (repeat (first | (refine Good.len' ‹_› ?_; intro _ _; cbv) | ((first | refine Good.add' ‹_› ?_ ?_ | refine Good.sub' ‹_› ?_ ?_ | refine Good.mul' ‹_› ?_ ?_); (· (first | omega | (simp only [inR, cmpP, loOk, hiOk, Int.ofNat_eq_natCast, Int.negSucc_eq, IntKind.bits, Int.toNat_natCast, ge_iff_le, gt_iff_lt, ne_eq, wl_len, hl_len, natCast_fold, not_true_eq_false, not_false_eq_true] at * <;> omega))); intro _ _; cbv) | ((first | (refine Good.yes ‹_› ?_ ?_; (· (first | omega | (simp only [inR, cmpP, loOk, hiOk, Int.ofNat_eq_natCast, Int.negSucc_eq, IntKind.bits, Int.toNat_natCast, ge_iff_le, gt_iff_lt, ne_eq, wl_len, hl_len, natCast_fold, not_true_eq_false, not_false_eq_true] at * <;> omega)))) | (refine Good.no ‹_› rfl ?_ ?_; (· (first | omega | (simp only [inR, cmpP, loOk, hiOk, Int.ofNat_eq_natCast, Int.negSucc_eq, IntKind.bits, Int.toNat_natCast, ge_iff_le, gt_iff_lt, ne_eq, wl_len, hl_len, natCast_fold, not_true_eq_false, not_false_eq_true] at * <;> omega)))) | (refine Good.convi ‹_› ?_ ?_; (· (first | omega | (simp only [inR, cmpP, loOk, hiOk, Int.ofNat_eq_natCast, Int.negSucc_eq, IntKind.bits, Int.toNat_natCast, ge_iff_le, gt_iff_lt, ne_eq, wl_len, hl_len, natCast_fold, not_true_eq_false, not_false_eq_true] at * <;> omega))))); cbv) | (refine Good.chk' ‹_› rfl ?_; cbv)))
    refine h.call' _ awake_c ?_
    cbv
    (repeat (first | (refine Good.len' ‹_› ?_; intro _ _; cbv) | ((first | refine Good.add' ‹_› ?_ ?_ | refine Good.sub' ‹_› ?_ ?_ | refine Good.mul' ‹_› ?_ ?_); (· (first | omega | (simp only [inR, cmpP, loOk, hiOk, Int.ofNat_eq_natCast, Int.negSucc_eq, IntKind.bits, Int.toNat_natCast, ge_iff_le, gt_iff_lt, ne_eq, wl_len, hl_len, natCast_fold, not_true_eq_false, not_false_eq_true] at * <;> omega))); intro _ _; cbv) | ((first | (refine Good.yes ‹_› ?_ ?_; (· (first | omega | (simp only [inR, cmpP, loOk, hiOk, Int.ofNat_eq_natCast, Int.negSucc_eq, IntKind.bits, Int.toNat_natCast, ge_iff_le, gt_iff_lt, ne_eq, wl_len, hl_len, natCast_fold, not_true_eq_false, not_false_eq_true] at * <;> omega)))) | (refine Good.no ‹_› rfl ?_ ?_; (· (first | omega | (simp only [inR, cmpP, loOk, hiOk, Int.ofNat_eq_natCast, Int.negSucc_eq, IntKind.bits, Int.toNat_natCast, ge_iff_le, gt_iff_lt, ne_eq, wl_len, hl_len, natCast_fold, not_true_eq_false, not_false_eq_true] at * <;> omega)))) | (refine Good.convi ‹_› ?_ ?_; (· (first | omega | (simp only [inR, cmpP, loOk, hiOk, Int.ofNat_eq_natCast, Int.negSucc_eq, IntKind.bits, Int.toNat_natCast, ge_iff_le, gt_iff_lt, ne_eq, wl_len, hl_len, natCast_fold, not_true_eq_false, not_false_eq_true] at * <;> omega))))); cbv) | (refine Good.chk' ‹_› rfl ?_; cbv)))
    exact hQ
  · have hou := small_ok ho hs
    obtain ⟨rs, hrs⟩ := raw_qrs hz hs.w
    have l1 := hs.lu
    have l2 := hs.lb
    have l3 := hs.lz
    have lbl : bs.length = os.length := by rw [hb, bl_len]
    clear ho hz hs
    cbv
    refine long30n_s h hg4 ?_ fun hs4 => ?_
    · cbv
      (repeat (first | (refine Good.len' ‹_› ?_; intro _ _; cbv) | ((first | refine Good.add' ‹_› ?_ ?_ | refine Good.sub' ‹_› ?_ ?_ | refine Good.mul' ‹_› ?_ ?_); (· (first | omega | (simp only [inR, cmpP, loOk, hiOk, Int.ofNat_eq_natCast, Int.negSucc_eq, IntKind.bits, Int.toNat_natCast, ge_iff_le, gt_iff_lt, ne_eq, wl_len, hl_len, natCast_fold, not_true_eq_false, not_false_eq_true] at * <;> omega))); intro _ _; cbv) | ((first | (refine Good.yes ‹_› ?_ ?_; (· (first | omega | (simp only [inR, cmpP, loOk, hiOk, Int.ofNat_eq_natCast, Int.negSucc_eq, IntKind.bits, Int.toNat_natCast, ge_iff_le, gt_iff_lt, ne_eq, wl_len, hl_len, natCast_fold, not_true_eq_false, not_false_eq_true] at * <;> omega)))) | (refine Good.no ‹_› rfl ?_ ?_; (· (first | omega | (simp only [inR, cmpP, loOk, hiOk, Int.ofNat_eq_natCast, Int.negSucc_eq, IntKind.bits, Int.toNat_natCast, ge_iff_le, gt_iff_lt, ne_eq, wl_len, hl_len, natCast_fold, not_true_eq_false, not_false_eq_true] at * <;> omega)))) | (refine Good.convi ‹_› ?_ ?_; (· (first | omega | (simp only [inR, cmpP, loOk, hiOk, Int.ofNat_eq_natCast, Int.negSucc_eq, IntKind.bits, Int.toNat_natCast, ge_iff_le, gt_iff_lt, ne_eq, wl_len, hl_len, natCast_fold, not_true_eq_false, not_false_eq_true] at * <;> omega))))); cbv) | (refine Good.chk' ‹_› rfl ?_; cbv)))
      refine h.call' _ awake_c ?_
      cbv
      (repeat (first | (refine Good.len' ‹_› ?_; intro _ _; cbv) | ((first | refine Good.add' ‹_› ?_ ?_ | refine Good.sub' ‹_› ?_ ?_ | refine Good.mul' ‹_› ?_ ?_); (· (first | omega | (simp only [inR, cmpP, loOk, hiOk, Int.ofNat_eq_natCast, Int.negSucc_eq, IntKind.bits, Int.toNat_natCast, ge_iff_le, gt_iff_lt, ne_eq, wl_len, hl_len, natCast_fold, not_true_eq_false, not_false_eq_true] at * <;> omega))); intro _ _; cbv) | ((first | (refine Good.yes ‹_› ?_ ?_; (· (first | omega | (simp only [inR, cmpP, loOk, hiOk, Int.ofNat_eq_natCast, Int.negSucc_eq, IntKind.bits, Int.toNat_natCast, ge_iff_le, gt_iff_lt, ne_eq, wl_len, hl_len, natCast_fold, not_true_eq_false, not_false_eq_true] at * <;> omega)))) | (refine Good.no ‹_› rfl ?_ ?_; (· (first | omega | (simp only [inR, cmpP, loOk, hiOk, Int.ofNat_eq_natCast, Int.negSucc_eq, IntKind.bits, Int.toNat_natCast, ge_iff_le, gt_iff_lt, ne_eq, wl_len, hl_len, natCast_fold, not_true_eq_false, not_false_eq_true] at * <;> omega)))) | (refine Good.convi ‹_› ?_ ?_; (· (first | omega | (simp only [inR, cmpP, loOk, hiOk, Int.ofNat_eq_natCast, Int.negSucc_eq, IntKind.bits, Int.toNat_natCast, ge_iff_le, gt_iff_lt, ne_eq, wl_len, hl_len, natCast_fold, not_true_eq_false, not_false_eq_true] at * <;> omega))))); cbv) | (refine Good.chk' ‹_› rfl ?_; cbv)))
      exact hQ
    · obtain ⟨xs, hxs⟩ := raw_qrs hz4 hs4.w
      have l4 := hs4.lz
      clear hz4 hs4
      have lxs := hxs.1
      have lg4 : gs4.length = xs.length := by rw [hg4, List.length_map, lxs]
      cbv
      refine h.call' _ awake_c ?_
      cbv
      (repeat (first | (refine Good.len' ‹_› ?_; intro _ _; cbv) | ((first | refine Good.add' ‹_› ?_ ?_ | refine Good.sub' ‹_› ?_ ?_ | refine Good.mul' ‹_› ?_ ?_); (· (first | omega | (simp only [inR, cmpP, loOk, hiOk, Int.ofNat_eq_natCast, Int.negSucc_eq, IntKind.bits, Int.toNat_natCast, ge_iff_le, gt_iff_lt, ne_eq, wl_len, hl_len, natCast_fold, not_true_eq_false, not_false_eq_true] at * <;> omega))); intro _ _; cbv) | ((first | (refine Good.yes ‹_› ?_ ?_; (· (first | omega | (simp only [inR, cmpP, loOk, hiOk, Int.ofNat_eq_natCast, Int.negSucc_eq, IntKind.bits, Int.toNat_natCast, ge_iff_le, gt_iff_lt, ne_eq, wl_len, hl_len, natCast_fold, not_true_eq_false, not_false_eq_true] at * <;> omega)))) | (refine Good.no ‹_› rfl ?_ ?_; (· (first | omega | (simp only [inR, cmpP, loOk, hiOk, Int.ofNat_eq_natCast, Int.negSucc_eq, IntKind.bits, Int.toNat_natCast, ge_iff_le, gt_iff_lt, ne_eq, wl_len, hl_len, natCast_fold, not_true_eq_false, not_false_eq_true] at * <;> omega)))) | (refine Good.convi ‹_› ?_ ?_; (· (first | omega | (simp only [inR, cmpP, loOk, hiOk, Int.ofNat_eq_natCast, Int.negSucc_eq, IntKind.bits, Int.toNat_natCast, ge_iff_le, gt_iff_lt, ne_eq, wl_len, hl_len, natCast_fold, not_true_eq_false, not_false_eq_true] at * <;> omega))))); cbv) | (refine Good.chk' ‹_› rfl ?_; cbv)))
      refine fill_s h he hb hg hou (by omega) (by omega) (by omega) hrs (by decide) hn (fun e0 b1 z1 b2 z2 tk pr hq htk hpr => ?_) (fun e0 => ?_)
      · obtain ⟨hlo, hlr, h5, hf1, hnb, hn0, hn1⟩ := fillE_len e0
        obtain ⟨inv, hrho, hsp0⟩ := fill_inv e0
        obtain ⟨qa1, qa2⟩ := fillR_ql hrs (by decide) hn e0
        have lenA : (fillR us os rs need).taken.length = us.length := fillF_len _ _ _ _
        obtain ⟨A, hA⟩ : ∃ A, A = fillR us os rs need := ⟨_, rfl⟩
        rw [← hA] at hq htk qa1 qa2 lenA inv
        have hcost := fun {x} => @optim_cost us (rmsF us os rs) (ordF us) need A x (ordF_ord us) inv
        have ltk : tk.length = us.length := by rw [htk, qcl_len, lenA]
        have hord := ordF_ord us
        have hsum : psum (gR A.taken) us.length + A.short = need := by rw [← lenA, ← sumR_psum]; exact inv.sum
        have hfull : 0 < A.short → ∀ i, i < us.length → gR A.taken i = gR (rmsF us os rs) i := fun hh i hi => inv.full hh i (hord.mem i hi)
        have hlo' := inv.lo
        have hhi' : ∀ i, i < us.length → gR A.taken i ≤ gR (rmsF us os rs) i := fun i hi => inv.hi i (hord.mem i hi)
        have hsh := inv.sh
        have hroom := @room_eq us os rs hlo hlr hnb
        have hnq := need_ql hn
        obtain ⟨nq, hnn⟩ : ∃ nq, nq = (need : Rat) := ⟨_, rfl⟩
        rw [← hnn] at hsum hnq
        have rho_ge' := hrho
        clear inv hsp0 hA hrho hf1 hnb e0 hpr hord hn0 hn1
        cbv
        (repeat (first | (refine Good.len' ‹_› ?_; intro _ _; cbv) | ((first | refine Good.add' ‹_› ?_ ?_ | refine Good.sub' ‹_› ?_ ?_ | refine Good.mul' ‹_› ?_ ?_); (· (first | omega | (simp only [inR, cmpP, loOk, hiOk, Int.ofNat_eq_natCast, Int.negSucc_eq, IntKind.bits, Int.toNat_natCast, ge_iff_le, gt_iff_lt, ne_eq, wl_len, hl_len, natCast_fold, not_true_eq_false, not_false_eq_true] at * <;> omega))); intro _ _; cbv) | ((first | (refine Good.yes ‹_› ?_ ?_; (· (first | omega | (simp only [inR, cmpP, loOk, hiOk, Int.ofNat_eq_natCast, Int.negSucc_eq, IntKind.bits, Int.toNat_natCast, ge_iff_le, gt_iff_lt, ne_eq, wl_len, hl_len, natCast_fold, not_true_eq_false, not_false_eq_true] at * <;> omega)))) | (refine Good.no ‹_› rfl ?_ ?_; (· (first | omega | (simp only [inR, cmpP, loOk, hiOk, Int.ofNat_eq_natCast, Int.negSucc_eq, IntKind.bits, Int.toNat_natCast, ge_iff_le, gt_iff_lt, ne_eq, wl_len, hl_len, natCast_fold, not_true_eq_false, not_false_eq_true] at * <;> omega)))) | (refine Good.convi ‹_› ?_ ?_; (· (first | omega | (simp only [inR, cmpP, loOk, hiOk, Int.ofNat_eq_natCast, Int.negSucc_eq, IntKind.bits, Int.toNat_natCast, ge_iff_le, gt_iff_lt, ne_eq, wl_len, hl_len, natCast_fold, not_true_eq_false, not_false_eq_true] at * <;> omega))))); cbv) | (refine Good.chk' ‹_› rfl ?_; cbv)))
        refine ffromInt_s h (n := 0) ir0 fun b5 z5 hq5 => ?_
        have hq5 : Qc b5 z5 false [] (0 : Rat) := hq5
        cbv
        refine ffromInt_s h (n := 0) ir0 fun b6 z6 hq6 => ?_
        have hq6 : Qc b6 z6 false [] (0 : Rat) := hq6
        cbv
        refine h.loop' ((Int × Nat × Bool) × (Bool × List (List D) × Bool × List (List D)) × (Bool × List (List D) × Bool × List (List D))) (fun p => p.1.1 = (p.1.2.1 : Int) ∧ p.1.2.1 ≤ us.length ∧ (0 < A.short → p.1.2.2 = true) ∧ Qc p.2.1.1 p.2.1.2.1 p.2.1.2.2.1 p.2.1.2.2.2 (psum (gR A.taken) p.1.2.1) ∧ ql (psum (gR A.taken) p.1.2.1) ≤ 1 + 60 * p.1.2.1 ∧ Qc p.2.2.1 p.2.2.2.1 p.2.2.2.2.1 p.2.2.2.2.2 (psum (cstF us A.taken) p.1.2.1) ∧ ql (psum (cstF us A.taken) p.1.2.1) ≤ 1 + 60 * p.1.2.1)
          (fun p => ⟨[(0, .v (.one (.sl t 9 es))), (1, .v (.one (.sl t' 1 bs))), (2, .v (.one (.sl t'' 4 gs))), (3, vi .i64 need), (4, .v (.one (.sl t3 4 gs4))), (11, .v (.one (.sl 1 4 tk))), (13, .p 13 0 0 0), (15, .p 15 0 0 0), (16, .p 16 0 0 0), (17, .v (.one (.sc (.bool p.1.2.2)))), (18, vi .i64 p.1.1)],
            [(13, .bx [.sc (.bool b1), .sl 1 1 z1, .sc (.bool b2), .sl 1 1 z2]), (15, .bx [.sc (.bool p.2.1.1), .sl 1 1 p.2.1.2.1, .sc (.bool p.2.1.2.2.1), .sl 1 1 p.2.1.2.2.2]), (16, .bx [.sc (.bool p.2.2.1), .sl 1 1 p.2.2.2.1, .sc (.bool p.2.2.2.2.1), .sl 1 1 p.2.2.2.2.2])]⟩) (fun p => us.length - p.1.2.1) ((0, 0, true), (b5, z5, false, []), (b6, z6, false, [])) ⟨rfl, Nat.zero_le _, fun _ => rfl, hq5, ql_zero, hq6, ql_zero⟩ (by (refine Wk.of [(13, some 13), (15, some 15), (16, some 16)] rfl ?_ ?_; (· (repeat (first | exact trivial | (refine And.intro ?_ ?_; (· first | exact trivial | exact Or.inl ⟨_, rfl, rfl⟩ | exact ⟨_, rfl, rfl⟩ | exact Or.inr ⟨rfl, rfl, by decide⟩))))); (· (repeat (first | exact trivial | (refine And.intro ?_ ?_; (· first | exact trivial | exact Or.inl rfl | rfl | exact Or.inr ⟨_, _, _, _, rfl, rfl, rfl, renNo rfl⟩ | exact ⟨ne_no rfl, Or.inl ⟨_, rfl, rfl⟩⟩ | exact ⟨ne_no rfl, Or.inr ⟨rfl, _, rfl⟩⟩ | exact ⟨_, rfl, rfl, ne_no rfl⟩))))))) ?_
        clear hq5 hq6
        rintro ⟨⟨iz, i, fb⟩, ⟨d1, d2, d3, d4⟩, ⟨d5, d6, d7, d8⟩⟩ R ⟨hiz, hi, hfb, hS, hB, hC, hB2⟩ hR
        simp only at hiz hi hfb hS hB hC hB2
        cbv
        (repeat (first | (refine Good.len' ‹_› ?_; intro _ _; cbv) | ((first | refine Good.add' ‹_› ?_ ?_ | refine Good.sub' ‹_› ?_ ?_ | refine Good.mul' ‹_› ?_ ?_); (· (first | omega | (simp only [inR, cmpP, loOk, hiOk, Int.ofNat_eq_natCast, Int.negSucc_eq, IntKind.bits, Int.toNat_natCast, ge_iff_le, gt_iff_lt, ne_eq, wl_len, hl_len, natCast_fold, not_true_eq_false, not_false_eq_true] at * <;> omega))); intro _ _; cbv) | ((first | (refine Good.yes ‹_› ?_ ?_; (· (first | omega | (simp only [inR, cmpP, loOk, hiOk, Int.ofNat_eq_natCast, Int.negSucc_eq, IntKind.bits, Int.toNat_natCast, ge_iff_le, gt_iff_lt, ne_eq, wl_len, hl_len, natCast_fold, not_true_eq_false, not_false_eq_true] at * <;> omega)))) | (refine Good.no ‹_› rfl ?_ ?_; (· (first | omega | (simp only [inR, cmpP, loOk, hiOk, Int.ofNat_eq_natCast, Int.negSucc_eq, IntKind.bits, Int.toNat_natCast, ge_iff_le, gt_iff_lt, ne_eq, wl_len, hl_len, natCast_fold, not_true_eq_false, not_false_eq_true] at * <;> omega)))) | (refine Good.convi ‹_› ?_ ?_; (· (first | omega | (simp only [inR, cmpP, loOk, hiOk, Int.ofNat_eq_natCast, Int.negSucc_eq, IntKind.bits, Int.toNat_natCast, ge_iff_le, gt_iff_lt, ne_eq, wl_len, hl_len, natCast_fold, not_true_eq_false, not_false_eq_true] at * <;> omega))))); cbv) | (refine Good.chk' ‹_› rfl ?_; cbv)))
        refine h.dec rfl (fun hp2 => ?_) (fun hp2 => ?_)
        · have hil : i < us.length := by (first | omega | (simp only [inR, cmpP, loOk, hiOk, Int.ofNat_eq_natCast, Int.negSucc_eq, IntKind.bits, Int.toNat_natCast, ge_iff_le, gt_iff_lt, ne_eq, wl_len, hl_len, natCast_fold, not_true_eq_false, not_false_eq_true] at * <;> omega))
          obtain ⟨u, o, r, g1, g2, g3, g4⟩ := rooms_get (rmsF_rooms hlo hlr) hil
          obtain ⟨zq, r', g5, g6, g7⟩ := hrs.get (show i < rs.length by omega)
          rw [g3] at g6
          cases g6
          have hge := ud_get g1
          rw [← he] at hge
          obtain ⟨ss, hss⟩ : ∃ ss, ss = stl u.steps := ⟨_, rfl⟩
          rw [← hss] at hge
          have hbg := bl_get g2
          rw [← hb] at hbg
          have hgg := qd_get g5
          rw [← hg] at hgg
          have hu := hou u (List.mem_of_getElem? g1)
          have hsi := hu.spin
          obtain ⟨zs1, zt, zx, zs2, zt', zy⟩ := zq
          simp only at hgg g7
          have hrm := hroom g1 g2 g3
          have hqr := g7.ql
          have hrl := rmR_ql (u := u) (o := o) (r := r) (L := 6) (by omega)
          have ga := get_gR (l := A.taken) (i := i) (by omega)
          obtain ⟨a1, a2, a3, a4, ka, hga⟩ := canon2 htk ga
          have la := qa2 _ (List.mem_of_getElem? ga)
          have hf2 := fun hh => hfull hh i hil
          have hlo2 := hlo' i hil
          have hhi2 := hhi' i hil
          have hsp := spn_get g1
          rw [← hrm] at hhi2 hf2
          obtain ⟨ρ, hρ⟩ : ∃ ρ, ρ = rmR u o r := ⟨_, rfl⟩
          rw [← hρ] at hhi2 hrl hf2
          have hpx : psum (gR A.taken) i + gR A.taken i = psum (gR A.taken) (i + 1) := rfl
          have hpy : psum (cstF us A.taken) i + gR A.taken i * (u.spin : Rat) = psum (cstF us A.taken) (i + 1) := by rw [← hsp]; rfl
          obtain ⟨ta, hta⟩ : ∃ ta, ta = gR A.taken i := ⟨_, rfl⟩
          rw [← hta] at ka la hf2 hlo2 hhi2 hpx hpy
          obtain ⟨sq, hsq⟩ : ∃ sq, sq = (u.spin : Rat) := ⟨_, rfl⟩
          have hsl := need_ql hsi
          rw [← hsq] at hsl hpy
          have lm1 := ql_mul ta sq
          have hb3 : ql (psum (gR A.taken) (i + 1)) ≤ 1 + 60 * (i + 1) := by
            have := sum_bd (A := 60) (x := ta) hB (by omega)
            rwa [hpx] at this
          have hb4 : ql (psum (cstF us A.taken) (i + 1)) ≤ 1 + 60 * (i + 1) := by
            have := sum_bd (A := 60) (x := ta * sq) hB2 (by omega)
            rwa [hpy] at this
          obtain ⟨X, hX⟩ : ∃ X, X = psum (gR A.taken) i := ⟨_, rfl⟩
          obtain ⟨Y, hY⟩ : ∃ Y, Y = psum (cstF us A.taken) i := ⟨_, rfl⟩
          rw [← hX] at hS hB hpx
          rw [← hY] at hC hB2 hpy
          clear ga hrm hta g4 hou hrs hroom hfull hlo' hhi' qa2 hb htk hqr hcost hX hY hg hsum hq qa1 hxs hg4 lxs lg4
          cbv
          refine h.get' i _ hiz hga ?_
          cbv
          refine h.get' i _ hiz hge ?_
          cbv
          refine h.get' i _ hiz hbg ?_
          cbv
          refine h.get' i _ hiz hgg ?_
          cbv
          refine lroom_s h hu hss g7 (by decide) fun e1 e2 e3 e4 ke => ?_
          rw [← hρ] at ke
          cbv
          refine fcmp_s h (l := 900) (ka.r.le (by omega)) (ke.r.le (by omega)) (by omega) fun k hk => ?_
          have hk0 : k ≤ 0 := by rw [hk]; exact sgnQ_le'.2 (by grind)
          have hkz : 0 < A.short → k = 0 := fun hh => by rw [hk]; exact sgnQ_zero'.2 (by rw [hf2 hh]; grind)
          clear hk hρ ke hf2
          cbv
          (repeat (first | (refine Good.len' ‹_› ?_; intro _ _; cbv) | ((first | refine Good.add' ‹_› ?_ ?_ | refine Good.sub' ‹_› ?_ ?_ | refine Good.mul' ‹_› ?_ ?_); (· (first | omega | (simp only [inR, cmpP, loOk, hiOk, Int.ofNat_eq_natCast, Int.negSucc_eq, IntKind.bits, Int.toNat_natCast, ge_iff_le, gt_iff_lt, ne_eq, wl_len, hl_len, natCast_fold, not_true_eq_false, not_false_eq_true] at * <;> omega))); intro _ _; cbv) | ((first | (refine Good.yes ‹_› ?_ ?_; (· (first | omega | (simp only [inR, cmpP, loOk, hiOk, Int.ofNat_eq_natCast, Int.negSucc_eq, IntKind.bits, Int.toNat_natCast, ge_iff_le, gt_iff_lt, ne_eq, wl_len, hl_len, natCast_fold, not_true_eq_false, not_false_eq_true] at * <;> omega)))) | (refine Good.no ‹_› rfl ?_ ?_; (· (first | omega | (simp only [inR, cmpP, loOk, hiOk, Int.ofNat_eq_natCast, Int.negSucc_eq, IntKind.bits, Int.toNat_natCast, ge_iff_le, gt_iff_lt, ne_eq, wl_len, hl_len, natCast_fold, not_true_eq_false, not_false_eq_true] at * <;> omega)))) | (refine Good.convi ‹_› ?_ ?_; (· (first | omega | (simp only [inR, cmpP, loOk, hiOk, Int.ofNat_eq_natCast, Int.negSucc_eq, IntKind.bits, Int.toNat_natCast, ge_iff_le, gt_iff_lt, ne_eq, wl_len, hl_len, natCast_fold, not_true_eq_false, not_false_eq_true] at * <;> omega))))); cbv) | (refine Good.chk' ‹_› rfl ?_; cbv)))
          refine h.get' i _ hiz hga ?_
          cbv
          refine fsign_s h (l := 900) (ka.r.le (by omega)) (by omega) fun c2 hc2 => ?_
          have hc20 : 0 ≤ c2 := by
            rw [hc2]
            rcases sgnQ_cases ta with ⟨k, _⟩ | ⟨_, k⟩ | ⟨_, k⟩
            · exfalso; grind
            · omega
            · omega
          clear hc2
          cbv
          (repeat (first | (refine Good.len' ‹_› ?_; intro _ _; cbv) | ((first | refine Good.add' ‹_› ?_ ?_ | refine Good.sub' ‹_› ?_ ?_ | refine Good.mul' ‹_› ?_ ?_); (· (first | omega | (simp only [inR, cmpP, loOk, hiOk, Int.ofNat_eq_natCast, Int.negSucc_eq, IntKind.bits, Int.toNat_natCast, ge_iff_le, gt_iff_lt, ne_eq, wl_len, hl_len, natCast_fold, not_true_eq_false, not_false_eq_true] at * <;> omega))); intro _ _; cbv) | ((first | (refine Good.yes ‹_› ?_ ?_; (· (first | omega | (simp only [inR, cmpP, loOk, hiOk, Int.ofNat_eq_natCast, Int.negSucc_eq, IntKind.bits, Int.toNat_natCast, ge_iff_le, gt_iff_lt, ne_eq, wl_len, hl_len, natCast_fold, not_true_eq_false, not_false_eq_true] at * <;> omega)))) | (refine Good.no ‹_› rfl ?_ ?_; (· (first | omega | (simp only [inR, cmpP, loOk, hiOk, Int.ofNat_eq_natCast, Int.negSucc_eq, IntKind.bits, Int.toNat_natCast, ge_iff_le, gt_iff_lt, ne_eq, wl_len, hl_len, natCast_fold, not_true_eq_false, not_false_eq_true] at * <;> omega)))) | (refine Good.convi ‹_› ?_ ?_; (· (first | omega | (simp only [inR, cmpP, loOk, hiOk, Int.ofNat_eq_natCast, Int.negSucc_eq, IntKind.bits, Int.toNat_natCast, ge_iff_le, gt_iff_lt, ne_eq, wl_len, hl_len, natCast_fold, not_true_eq_false, not_false_eq_true] at * <;> omega))))); cbv) | (refine Good.chk' ‹_› rfl ?_; cbv)))
          cases fb
          · (cbv
             refine h.get' i _ hiz hga ?_
             cbv
             refine fadd_s h (l := 900) (hS.r.le (by omega)) (ka.r.le (by omega)) (by omega) fun n1 n2 n3 n4 kn => ?_
             cbv
             refine h.get' i _ hiz hga ?_
             cbv
             refine h.get' i _ hiz hge ?_
             cbv
             refine ffromInt_s h hsi fun f1 f2 kf => ?_
             have kf : Qc f1 f2 false [] sq := by rw [hsq]; exact kf
             cbv
             refine fmul_s h (l := 900) (ka.r.le (by omega)) (kf.r.le (by omega)) (by omega) fun m1 m2 m3 m4 km => ?_
             cbv
             refine fadd_s h (l := 900) (hC.r.le (by omega)) (km.r.le (by omega)) (by omega) fun o1 o2 o3 o4 ko => ?_
             rw [hpx] at kn
             rw [hpy] at ko
             clear hS hC km kf
            )
            cbv
            (repeat (first | (refine Good.len' ‹_› ?_; intro _ _; cbv) | ((first | refine Good.add' ‹_› ?_ ?_ | refine Good.sub' ‹_› ?_ ?_ | refine Good.mul' ‹_› ?_ ?_); (· (first | omega | (simp only [inR, cmpP, loOk, hiOk, Int.ofNat_eq_natCast, Int.negSucc_eq, IntKind.bits, Int.toNat_natCast, ge_iff_le, gt_iff_lt, ne_eq, wl_len, hl_len, natCast_fold, not_true_eq_false, not_false_eq_true] at * <;> omega))); intro _ _; cbv) | ((first | (refine Good.yes ‹_› ?_ ?_; (· (first | omega | (simp only [inR, cmpP, loOk, hiOk, Int.ofNat_eq_natCast, Int.negSucc_eq, IntKind.bits, Int.toNat_natCast, ge_iff_le, gt_iff_lt, ne_eq, wl_len, hl_len, natCast_fold, not_true_eq_false, not_false_eq_true] at * <;> omega)))) | (refine Good.no ‹_› rfl ?_ ?_; (· (first | omega | (simp only [inR, cmpP, loOk, hiOk, Int.ofNat_eq_natCast, Int.negSucc_eq, IntKind.bits, Int.toNat_natCast, ge_iff_le, gt_iff_lt, ne_eq, wl_len, hl_len, natCast_fold, not_true_eq_false, not_false_eq_true] at * <;> omega)))) | (refine Good.convi ‹_› ?_ ?_; (· (first | omega | (simp only [inR, cmpP, loOk, hiOk, Int.ofNat_eq_natCast, Int.negSucc_eq, IntKind.bits, Int.toNat_natCast, ge_iff_le, gt_iff_lt, ne_eq, wl_len, hl_len, natCast_fold, not_true_eq_false, not_false_eq_true] at * <;> omega))))); cbv) | (refine Good.chk' ‹_› rfl ?_; cbv)))
            rename_i i1 hi1
            refine hR _ ((i1, i + 1, false), (n1, n2, n3, n4), (o1, o2, o3, o4)) ⟨by simp only; (first | omega | (simp only [inR, cmpP, loOk, hiOk, Int.ofNat_eq_natCast, Int.negSucc_eq, IntKind.bits, Int.toNat_natCast, ge_iff_le, gt_iff_lt, ne_eq, wl_len, hl_len, natCast_fold, not_true_eq_false, not_false_eq_true] at * <;> omega)), by simp only; (first | omega | (simp only [inR, cmpP, loOk, hiOk, Int.ofNat_eq_natCast, Int.negSucc_eq, IntKind.bits, Int.toNat_natCast, ge_iff_le, gt_iff_lt, ne_eq, wl_len, hl_len, natCast_fold, not_true_eq_false, not_false_eq_true] at * <;> omega)), hfb, kn, hb3, ko, hb4⟩ (by simp only; (first | omega | (simp only [inR, cmpP, loOk, hiOk, Int.ofNat_eq_natCast, Int.negSucc_eq, IntKind.bits, Int.toNat_natCast, ge_iff_le, gt_iff_lt, ne_eq, wl_len, hl_len, natCast_fold, not_true_eq_false, not_false_eq_true] at * <;> omega))) (by (refine Wk.of [(13, some 13), (15, some 15), (16, some 16)] rfl ?_ ?_; (· (repeat (first | exact trivial | (refine And.intro ?_ ?_; (· first | exact trivial | exact Or.inl ⟨_, rfl, rfl⟩ | exact ⟨_, rfl, rfl⟩ | exact Or.inr ⟨rfl, rfl, by decide⟩))))); (· (repeat (first | exact trivial | (refine And.intro ?_ ?_; (· first | exact trivial | exact Or.inl rfl | rfl | exact Or.inr ⟨_, _, _, _, rfl, rfl, rfl, renNo rfl⟩ | exact ⟨ne_no rfl, Or.inl ⟨_, rfl, rfl⟩⟩ | exact ⟨ne_no rfl, Or.inr ⟨rfl, _, rfl⟩⟩ | exact ⟨_, rfl, rfl, ne_no rfl⟩)))))))
          · cbv
            refine h.dec rfl (fun hp3 => ?_) (fun hp3 => ?_)
            · (cbv
               refine h.get' i _ hiz hga ?_
               cbv
               refine fadd_s h (l := 900) (hS.r.le (by omega)) (ka.r.le (by omega)) (by omega) fun n1 n2 n3 n4 kn => ?_
               cbv
               refine h.get' i _ hiz hga ?_
               cbv
               refine h.get' i _ hiz hge ?_
               cbv
               refine ffromInt_s h hsi fun f1 f2 kf => ?_
               have kf : Qc f1 f2 false [] sq := by rw [hsq]; exact kf
               cbv
               refine fmul_s h (l := 900) (ka.r.le (by omega)) (kf.r.le (by omega)) (by omega) fun m1 m2 m3 m4 km => ?_
               cbv
               refine fadd_s h (l := 900) (hC.r.le (by omega)) (km.r.le (by omega)) (by omega) fun o1 o2 o3 o4 ko => ?_
               rw [hpx] at kn
               rw [hpy] at ko
               clear hS hC km kf
              )
              cbv
              (repeat (first | (refine Good.len' ‹_› ?_; intro _ _; cbv) | ((first | refine Good.add' ‹_› ?_ ?_ | refine Good.sub' ‹_› ?_ ?_ | refine Good.mul' ‹_› ?_ ?_); (· (first | omega | (simp only [inR, cmpP, loOk, hiOk, Int.ofNat_eq_natCast, Int.negSucc_eq, IntKind.bits, Int.toNat_natCast, ge_iff_le, gt_iff_lt, ne_eq, wl_len, hl_len, natCast_fold, not_true_eq_false, not_false_eq_true] at * <;> omega))); intro _ _; cbv) | ((first | (refine Good.yes ‹_› ?_ ?_; (· (first | omega | (simp only [inR, cmpP, loOk, hiOk, Int.ofNat_eq_natCast, Int.negSucc_eq, IntKind.bits, Int.toNat_natCast, ge_iff_le, gt_iff_lt, ne_eq, wl_len, hl_len, natCast_fold, not_true_eq_false, not_false_eq_true] at * <;> omega)))) | (refine Good.no ‹_› rfl ?_ ?_; (· (first | omega | (simp only [inR, cmpP, loOk, hiOk, Int.ofNat_eq_natCast, Int.negSucc_eq, IntKind.bits, Int.toNat_natCast, ge_iff_le, gt_iff_lt, ne_eq, wl_len, hl_len, natCast_fold, not_true_eq_false, not_false_eq_true] at * <;> omega)))) | (refine Good.convi ‹_› ?_ ?_; (· (first | omega | (simp only [inR, cmpP, loOk, hiOk, Int.ofNat_eq_natCast, Int.negSucc_eq, IntKind.bits, Int.toNat_natCast, ge_iff_le, gt_iff_lt, ne_eq, wl_len, hl_len, natCast_fold, not_true_eq_false, not_false_eq_true] at * <;> omega))))); cbv) | (refine Good.chk' ‹_› rfl ?_; cbv)))
              rename_i i1 hi1
              refine hR _ ((i1, i + 1, true), (n1, n2, n3, n4), (o1, o2, o3, o4)) ⟨by simp only; (first | omega | (simp only [inR, cmpP, loOk, hiOk, Int.ofNat_eq_natCast, Int.negSucc_eq, IntKind.bits, Int.toNat_natCast, ge_iff_le, gt_iff_lt, ne_eq, wl_len, hl_len, natCast_fold, not_true_eq_false, not_false_eq_true] at * <;> omega)), by simp only; (first | omega | (simp only [inR, cmpP, loOk, hiOk, Int.ofNat_eq_natCast, Int.negSucc_eq, IntKind.bits, Int.toNat_natCast, ge_iff_le, gt_iff_lt, ne_eq, wl_len, hl_len, natCast_fold, not_true_eq_false, not_false_eq_true] at * <;> omega)), fun _ => rfl, kn, hb3, ko, hb4⟩ (by simp only; (first | omega | (simp only [inR, cmpP, loOk, hiOk, Int.ofNat_eq_natCast, Int.negSucc_eq, IntKind.bits, Int.toNat_natCast, ge_iff_le, gt_iff_lt, ne_eq, wl_len, hl_len, natCast_fold, not_true_eq_false, not_false_eq_true] at * <;> omega))) (by (refine Wk.of [(13, some 13), (15, some 15), (16, some 16)] rfl ?_ ?_; (· (repeat (first | exact trivial | (refine And.intro ?_ ?_; (· first | exact trivial | exact Or.inl ⟨_, rfl, rfl⟩ | exact ⟨_, rfl, rfl⟩ | exact Or.inr ⟨rfl, rfl, by decide⟩))))); (· (repeat (first | exact trivial | (refine And.intro ?_ ?_; (· first | exact trivial | exact Or.inl rfl | rfl | exact Or.inr ⟨_, _, _, _, rfl, rfl, rfl, renNo rfl⟩ | exact ⟨ne_no rfl, Or.inl ⟨_, rfl, rfl⟩⟩ | exact ⟨ne_no rfl, Or.inr ⟨rfl, _, rfl⟩⟩ | exact ⟨_, rfl, rfl, ne_no rfl⟩)))))))
            · (cbv
               refine h.get' i _ hiz hga ?_
               cbv
               refine fadd_s h (l := 900) (hS.r.le (by omega)) (ka.r.le (by omega)) (by omega) fun n1 n2 n3 n4 kn => ?_
               cbv
               refine h.get' i _ hiz hga ?_
               cbv
               refine h.get' i _ hiz hge ?_
               cbv
               refine ffromInt_s h hsi fun f1 f2 kf => ?_
               have kf : Qc f1 f2 false [] sq := by rw [hsq]; exact kf
               cbv
               refine fmul_s h (l := 900) (ka.r.le (by omega)) (kf.r.le (by omega)) (by omega) fun m1 m2 m3 m4 km => ?_
               cbv
               refine fadd_s h (l := 900) (hC.r.le (by omega)) (km.r.le (by omega)) (by omega) fun o1 o2 o3 o4 ko => ?_
               rw [hpx] at kn
               rw [hpy] at ko
               clear hS hC km kf
              )
              cbv
              (repeat (first | (refine Good.len' ‹_› ?_; intro _ _; cbv) | ((first | refine Good.add' ‹_› ?_ ?_ | refine Good.sub' ‹_› ?_ ?_ | refine Good.mul' ‹_› ?_ ?_); (· (first | omega | (simp only [inR, cmpP, loOk, hiOk, Int.ofNat_eq_natCast, Int.negSucc_eq, IntKind.bits, Int.toNat_natCast, ge_iff_le, gt_iff_lt, ne_eq, wl_len, hl_len, natCast_fold, not_true_eq_false, not_false_eq_true] at * <;> omega))); intro _ _; cbv) | ((first | (refine Good.yes ‹_› ?_ ?_; (· (first | omega | (simp only [inR, cmpP, loOk, hiOk, Int.ofNat_eq_natCast, Int.negSucc_eq, IntKind.bits, Int.toNat_natCast, ge_iff_le, gt_iff_lt, ne_eq, wl_len, hl_len, natCast_fold, not_true_eq_false, not_false_eq_true] at * <;> omega)))) | (refine Good.no ‹_› rfl ?_ ?_; (· (first | omega | (simp only [inR, cmpP, loOk, hiOk, Int.ofNat_eq_natCast, Int.negSucc_eq, IntKind.bits, Int.toNat_natCast, ge_iff_le, gt_iff_lt, ne_eq, wl_len, hl_len, natCast_fold, not_true_eq_false, not_false_eq_true] at * <;> omega)))) | (refine Good.convi ‹_› ?_ ?_; (· (first | omega | (simp only [inR, cmpP, loOk, hiOk, Int.ofNat_eq_natCast, Int.negSucc_eq, IntKind.bits, Int.toNat_natCast, ge_iff_le, gt_iff_lt, ne_eq, wl_len, hl_len, natCast_fold, not_true_eq_false, not_false_eq_true] at * <;> omega))))); cbv) | (refine Good.chk' ‹_› rfl ?_; cbv)))
              rename_i i1 hi1
              refine hR _ ((i1, i + 1, false), (n1, n2, n3, n4), (o1, o2, o3, o4)) ⟨by simp only; (first | omega | (simp only [inR, cmpP, loOk, hiOk, Int.ofNat_eq_natCast, Int.negSucc_eq, IntKind.bits, Int.toNat_natCast, ge_iff_le, gt_iff_lt, ne_eq, wl_len, hl_len, natCast_fold, not_true_eq_false, not_false_eq_true] at * <;> omega)), by simp only; (first | omega | (simp only [inR, cmpP, loOk, hiOk, Int.ofNat_eq_natCast, Int.negSucc_eq, IntKind.bits, Int.toNat_natCast, ge_iff_le, gt_iff_lt, ne_eq, wl_len, hl_len, natCast_fold, not_true_eq_false, not_false_eq_true] at * <;> omega)), fun hh => absurd (hkz hh) (by (first | omega | (simp only [inR, cmpP, loOk, hiOk, Int.ofNat_eq_natCast, Int.negSucc_eq, IntKind.bits, Int.toNat_natCast, ge_iff_le, gt_iff_lt, ne_eq, wl_len, hl_len, natCast_fold, not_true_eq_false, not_false_eq_true] at * <;> omega))), kn, hb3, ko, hb4⟩ (by simp only; (first | omega | (simp only [inR, cmpP, loOk, hiOk, Int.ofNat_eq_natCast, Int.negSucc_eq, IntKind.bits, Int.toNat_natCast, ge_iff_le, gt_iff_lt, ne_eq, wl_len, hl_len, natCast_fold, not_true_eq_false, not_false_eq_true] at * <;> omega))) (by (refine Wk.of [(13, some 13), (15, some 15), (16, some 16)] rfl ?_ ?_; (· (repeat (first | exact trivial | (refine And.intro ?_ ?_; (· first | exact trivial | exact Or.inl ⟨_, rfl, rfl⟩ | exact ⟨_, rfl, rfl⟩ | exact Or.inr ⟨rfl, rfl, by decide⟩))))); (· (repeat (first | exact trivial | (refine And.intro ?_ ?_; (· first | exact trivial | exact Or.inl rfl | rfl | exact Or.inr ⟨_, _, _, _, rfl, rfl, rfl, renNo rfl⟩ | exact ⟨ne_no rfl, Or.inl ⟨_, rfl, rfl⟩⟩ | exact ⟨ne_no rfl, Or.inr ⟨rfl, _, rfl⟩⟩ | exact ⟨_, rfl, rfl, ne_no rfl⟩)))))))
        · have hi2 : i = us.length := by (first | omega | (simp only [inR, cmpP, loOk, hiOk, Int.ofNat_eq_natCast, Int.negSucc_eq, IntKind.bits, Int.toNat_natCast, ge_iff_le, gt_iff_lt, ne_eq, wl_len, hl_len, natCast_fold, not_true_eq_false, not_false_eq_true] at * <;> omega))
          rw [hi2] at hS hB hC hB2
          have hla := ql_add (psum (gR A.taken) us.length) A.short
          clear hR hi hlo' hhi' hfull qa2 htk ltk lenA
          cbv
          refine fadd_s h (l := 900) (hS.r.le (by omega)) (hq.r.le (by omega)) (by omega) fun n1 n2 n3 n4 kn => ?_
          rw [hsum] at kn hla
          cbv
          refine ffromInt_s h hn fun f1 f2 kf => ?_
          have kf : Qc f1 f2 false [] nq := by rw [hnn]; exact kf
          cbv
          refine fequal_s h (l := 900) (kn.r.le (by omega)) (kf.r.le (by omega)) (by omega) fun c hc => ?_
          have hc : c = true := by rw [hc]; exact decide_eq_true rfl
          subst hc
          cbv
          refine fsign_s h (l := 900) (hq.r.le (by omega)) (by omega) fun c2 hc2 => ?_
          have hc20 : 0 ≤ c2 := by
            rw [hc2]
            rcases sgnQ_cases A.short with ⟨k, _⟩ | ⟨_, k⟩ | ⟨_, k⟩
            · exfalso; grind
            · omega
            · omega
          clear hc2 kn kf hnn hnq hla
          cbv
          (repeat (first | (refine Good.len' ‹_› ?_; intro _ _; cbv) | ((first | refine Good.add' ‹_› ?_ ?_ | refine Good.sub' ‹_› ?_ ?_ | refine Good.mul' ‹_› ?_ ?_); (· (first | omega | (simp only [inR, cmpP, loOk, hiOk, Int.ofNat_eq_natCast, Int.negSucc_eq, IntKind.bits, Int.toNat_natCast, ge_iff_le, gt_iff_lt, ne_eq, wl_len, hl_len, natCast_fold, not_true_eq_false, not_false_eq_true] at * <;> omega))); intro _ _; cbv) | ((first | (refine Good.yes ‹_› ?_ ?_; (· (first | omega | (simp only [inR, cmpP, loOk, hiOk, Int.ofNat_eq_natCast, Int.negSucc_eq, IntKind.bits, Int.toNat_natCast, ge_iff_le, gt_iff_lt, ne_eq, wl_len, hl_len, natCast_fold, not_true_eq_false, not_false_eq_true] at * <;> omega)))) | (refine Good.no ‹_› rfl ?_ ?_; (· (first | omega | (simp only [inR, cmpP, loOk, hiOk, Int.ofNat_eq_natCast, Int.negSucc_eq, IntKind.bits, Int.toNat_natCast, ge_iff_le, gt_iff_lt, ne_eq, wl_len, hl_len, natCast_fold, not_true_eq_false, not_false_eq_true] at * <;> omega)))) | (refine Good.convi ‹_› ?_ ?_; (· (first | omega | (simp only [inR, cmpP, loOk, hiOk, Int.ofNat_eq_natCast, Int.negSucc_eq, IntKind.bits, Int.toNat_natCast, ge_iff_le, gt_iff_lt, ne_eq, wl_len, hl_len, natCast_fold, not_true_eq_false, not_false_eq_true] at * <;> omega))))); cbv) | (refine Good.chk' ‹_› rfl ?_; cbv)))
          refine fsign_s h (l := 900) (hq.r.le (by omega)) (by omega) fun c3 hc3 => ?_
          have hsp3 := sgnQ_pos' (q := A.short)
          rw [← hc3] at hsp3
          have hfb3 : 0 < c3 → fb = true := fun hh => hfb (hsp3.1 hh)
          clear hc3 hsp3 hfb hq qa1 hsum hsh
          cbv
          refine h.dec rfl (fun hp3 => ?_) (fun hp3 => ?_)
          · have hfb4 : fb = true := hfb3 (by (first | omega | (simp only [inR, cmpP, loOk, hiOk, Int.ofNat_eq_natCast, Int.negSucc_eq, IntKind.bits, Int.toNat_natCast, ge_iff_le, gt_iff_lt, ne_eq, wl_len, hl_len, natCast_fold, not_true_eq_false, not_false_eq_true] at * <;> omega)))
            subst hfb4
            (clear hp3 hfb3
             cbv
             (repeat (first | (refine Good.len' ‹_› ?_; intro _ _; cbv) | ((first | refine Good.add' ‹_› ?_ ?_ | refine Good.sub' ‹_› ?_ ?_ | refine Good.mul' ‹_› ?_ ?_); (· (first | omega | (simp only [inR, cmpP, loOk, hiOk, Int.ofNat_eq_natCast, Int.negSucc_eq, IntKind.bits, Int.toNat_natCast, ge_iff_le, gt_iff_lt, ne_eq, wl_len, hl_len, natCast_fold, not_true_eq_false, not_false_eq_true] at * <;> omega))); intro _ _; cbv) | ((first | (refine Good.yes ‹_› ?_ ?_; (· (first | omega | (simp only [inR, cmpP, loOk, hiOk, Int.ofNat_eq_natCast, Int.negSucc_eq, IntKind.bits, Int.toNat_natCast, ge_iff_le, gt_iff_lt, ne_eq, wl_len, hl_len, natCast_fold, not_true_eq_false, not_false_eq_true] at * <;> omega)))) | (refine Good.no ‹_› rfl ?_ ?_; (· (first | omega | (simp only [inR, cmpP, loOk, hiOk, Int.ofNat_eq_natCast, Int.negSucc_eq, IntKind.bits, Int.toNat_natCast, ge_iff_le, gt_iff_lt, ne_eq, wl_len, hl_len, natCast_fold, not_true_eq_false, not_false_eq_true] at * <;> omega)))) | (refine Good.convi ‹_› ?_ ?_; (· (first | omega | (simp only [inR, cmpP, loOk, hiOk, Int.ofNat_eq_natCast, Int.negSucc_eq, IntKind.bits, Int.toNat_natCast, ge_iff_le, gt_iff_lt, ne_eq, wl_len, hl_len, natCast_fold, not_true_eq_false, not_false_eq_true] at * <;> omega))))); cbv) | (refine Good.chk' ‹_› rfl ?_; cbv)))
             refine ffromInt_s h (n := 0) ir0 fun b7 z7 hq7 => ?_
             have hq7 : Qc b7 z7 false [] (0 : Rat) := hq7
             cbv
             refine ffromInt_s h (n := 0) ir0 fun b8 z8 hq8 => ?_
             have hq8 : Qc b8 z8 false [] (0 : Rat) := hq8
             cbv
             refine h.loop' ((Int × Nat) × (Bool × List (List D) × Bool × List (List D)) × (Bool × List (List D) × Bool × List (List D))) (fun p => p.1.1 = (p.1.2 : Int) ∧ p.1.2 ≤ xs.length ∧ (p.1.2 = 0 ∨ xs.length = us.length) ∧ (∀ j, j < p.1.2 → 0 ≤ gR xs j ∧ gR xs j ≤ gR (rmsF us os rs) j) ∧ Qc p.2.1.1 p.2.1.2.1 p.2.1.2.2.1 p.2.1.2.2.2 (psum (gR xs) p.1.2) ∧ ql (psum (gR xs) p.1.2) ≤ 1 + 10 * p.1.2 ∧ Qc p.2.2.1 p.2.2.2.1 p.2.2.2.2.1 p.2.2.2.2.2 (psum (cstF us xs) p.1.2) ∧ ql (psum (cstF us xs) p.1.2) ≤ 1 + 10 * p.1.2)
               (fun p => ⟨[(0, .v (.one (.sl t 9 es))), (1, .v (.one (.sl t' 1 bs))), (2, .v (.one (.sl t'' 4 gs))), (4, .v (.one (.sl t3 4 gs4))), (15, .p 15 0 0 0), (16, .p 16 0 0 0), (20, .p 20 0 0 0), (21, .p 21 0 0 0), (22, vi .i64 p.1.1)],
                 [(15, .bx [.sc (.bool d1), .sl 1 1 d2, .sc (.bool d3), .sl 1 1 d4]), (16, .bx [.sc (.bool d5), .sl 1 1 d6, .sc (.bool d7), .sl 1 1 d8]), (20, .bx [.sc (.bool p.2.1.1), .sl 1 1 p.2.1.2.1, .sc (.bool p.2.1.2.2.1), .sl 1 1 p.2.1.2.2.2]), (21, .bx [.sc (.bool p.2.2.1), .sl 1 1 p.2.2.2.1, .sc (.bool p.2.2.2.2.1), .sl 1 1 p.2.2.2.2.2])]⟩) (fun p => xs.length - p.1.2) ((0, 0), (b7, z7, false, []), (b8, z8, false, [])) ⟨rfl, Nat.zero_le _, .inl rfl, fun j hj => absurd hj (Nat.not_lt_zero _), hq7, ql_zero, hq8, ql_zero⟩ (by (refine Wk.of [(15, some 15), (16, some 16), (20, some 20), (21, some 21)] rfl ?_ ?_; (· (repeat (first | exact trivial | (refine And.intro ?_ ?_; (· first | exact trivial | exact Or.inl ⟨_, rfl, rfl⟩ | exact ⟨_, rfl, rfl⟩ | exact Or.inr ⟨rfl, rfl, by decide⟩))))); (· (repeat (first | exact trivial | (refine And.intro ?_ ?_; (· first | exact trivial | exact Or.inl rfl | rfl | exact Or.inr ⟨_, _, _, _, rfl, rfl, rfl, renNo rfl⟩ | exact ⟨ne_no rfl, Or.inl ⟨_, rfl, rfl⟩⟩ | exact ⟨ne_no rfl, Or.inr ⟨rfl, _, rfl⟩⟩ | exact ⟨_, rfl, rfl, ne_no rfl⟩))))))) ?_
             clear hq7 hq8 hp2 hiz
             rintro ⟨⟨jz, j⟩, ⟨p1, p2, p3, p4⟩, ⟨p5, p6, p7, p8⟩⟩ R ⟨hjz, hj, hle2, hxx, hO, hOb, hM, hMb⟩ hR
             simp only at hjz hj hle2 hxx hO hOb hM hMb
             cbv
             (repeat (first | (refine Good.len' ‹_› ?_; intro _ _; cbv) | ((first | refine Good.add' ‹_› ?_ ?_ | refine Good.sub' ‹_› ?_ ?_ | refine Good.mul' ‹_› ?_ ?_); (· (first | omega | (simp only [inR, cmpP, loOk, hiOk, Int.ofNat_eq_natCast, Int.negSucc_eq, IntKind.bits, Int.toNat_natCast, ge_iff_le, gt_iff_lt, ne_eq, wl_len, hl_len, natCast_fold, not_true_eq_false, not_false_eq_true] at * <;> omega))); intro _ _; cbv) | ((first | (refine Good.yes ‹_› ?_ ?_; (· (first | omega | (simp only [inR, cmpP, loOk, hiOk, Int.ofNat_eq_natCast, Int.negSucc_eq, IntKind.bits, Int.toNat_natCast, ge_iff_le, gt_iff_lt, ne_eq, wl_len, hl_len, natCast_fold, not_true_eq_false, not_false_eq_true] at * <;> omega)))) | (refine Good.no ‹_› rfl ?_ ?_; (· (first | omega | (simp only [inR, cmpP, loOk, hiOk, Int.ofNat_eq_natCast, Int.negSucc_eq, IntKind.bits, Int.toNat_natCast, ge_iff_le, gt_iff_lt, ne_eq, wl_len, hl_len, natCast_fold, not_true_eq_false, not_false_eq_true] at * <;> omega)))) | (refine Good.convi ‹_› ?_ ?_; (· (first | omega | (simp only [inR, cmpP, loOk, hiOk, Int.ofNat_eq_natCast, Int.negSucc_eq, IntKind.bits, Int.toNat_natCast, ge_iff_le, gt_iff_lt, ne_eq, wl_len, hl_len, natCast_fold, not_true_eq_false, not_false_eq_true] at * <;> omega))))); cbv) | (refine Good.chk' ‹_› rfl ?_; cbv)))
             refine h.dec rfl (fun hp5 => ?_) (fun hp5 => ?_)
             · cbv
               (repeat (first | (refine Good.len' ‹_› ?_; intro _ _; cbv) | ((first | refine Good.add' ‹_› ?_ ?_ | refine Good.sub' ‹_› ?_ ?_ | refine Good.mul' ‹_› ?_ ?_); (· (first | omega | (simp only [inR, cmpP, loOk, hiOk, Int.ofNat_eq_natCast, Int.negSucc_eq, IntKind.bits, Int.toNat_natCast, ge_iff_le, gt_iff_lt, ne_eq, wl_len, hl_len, natCast_fold, not_true_eq_false, not_false_eq_true] at * <;> omega))); intro _ _; cbv) | ((first | (refine Good.yes ‹_› ?_ ?_; (· (first | omega | (simp only [inR, cmpP, loOk, hiOk, Int.ofNat_eq_natCast, Int.negSucc_eq, IntKind.bits, Int.toNat_natCast, ge_iff_le, gt_iff_lt, ne_eq, wl_len, hl_len, natCast_fold, not_true_eq_false, not_false_eq_true] at * <;> omega)))) | (refine Good.no ‹_› rfl ?_ ?_; (· (first | omega | (simp only [inR, cmpP, loOk, hiOk, Int.ofNat_eq_natCast, Int.negSucc_eq, IntKind.bits, Int.toNat_natCast, ge_iff_le, gt_iff_lt, ne_eq, wl_len, hl_len, natCast_fold, not_true_eq_false, not_false_eq_true] at * <;> omega)))) | (refine Good.convi ‹_› ?_ ?_; (· (first | omega | (simp only [inR, cmpP, loOk, hiOk, Int.ofNat_eq_natCast, Int.negSucc_eq, IntKind.bits, Int.toNat_natCast, ge_iff_le, gt_iff_lt, ne_eq, wl_len, hl_len, natCast_fold, not_true_eq_false, not_false_eq_true] at * <;> omega))))); cbv) | (refine Good.chk' ‹_› rfl ?_; cbv)))
               refine h.dec rfl (fun hp6 => ?_) (fun hp6 => ?_)
               · cbv
                 (repeat (first | (refine Good.len' ‹_› ?_; intro _ _; cbv) | ((first | refine Good.add' ‹_› ?_ ?_ | refine Good.sub' ‹_› ?_ ?_ | refine Good.mul' ‹_› ?_ ?_); (· (first | omega | (simp only [inR, cmpP, loOk, hiOk, Int.ofNat_eq_natCast, Int.negSucc_eq, IntKind.bits, Int.toNat_natCast, ge_iff_le, gt_iff_lt, ne_eq, wl_len, hl_len, natCast_fold, not_true_eq_false, not_false_eq_true] at * <;> omega))); intro _ _; cbv) | ((first | (refine Good.yes ‹_› ?_ ?_; (· (first | omega | (simp only [inR, cmpP, loOk, hiOk, Int.ofNat_eq_natCast, Int.negSucc_eq, IntKind.bits, Int.toNat_natCast, ge_iff_le, gt_iff_lt, ne_eq, wl_len, hl_len, natCast_fold, not_true_eq_false, not_false_eq_true] at * <;> omega)))) | (refine Good.no ‹_› rfl ?_ ?_; (· (first | omega | (simp only [inR, cmpP, loOk, hiOk, Int.ofNat_eq_natCast, Int.negSucc_eq, IntKind.bits, Int.toNat_natCast, ge_iff_le, gt_iff_lt, ne_eq, wl_len, hl_len, natCast_fold, not_true_eq_false, not_false_eq_true] at * <;> omega)))) | (refine Good.convi ‹_› ?_ ?_; (· (first | omega | (simp only [inR, cmpP, loOk, hiOk, Int.ofNat_eq_natCast, Int.negSucc_eq, IntKind.bits, Int.toNat_natCast, ge_iff_le, gt_iff_lt, ne_eq, wl_len, hl_len, natCast_fold, not_true_eq_false, not_false_eq_true] at * <;> omega))))); cbv) | (refine Good.chk' ‹_› rfl ?_; cbv)))
                 exact hQ
               · have hxl : xs.length = us.length := by (first | omega | (simp only [inR, cmpP, loOk, hiOk, Int.ofNat_eq_natCast, Int.negSucc_eq, IntKind.bits, Int.toNat_natCast, ge_iff_le, gt_iff_lt, ne_eq, wl_len, hl_len, natCast_fold, not_true_eq_false, not_false_eq_true] at * <;> omega))
                 have hjl : j < us.length := by (first | omega | (simp only [inR, cmpP, loOk, hiOk, Int.ofNat_eq_natCast, Int.negSucc_eq, IntKind.bits, Int.toNat_natCast, ge_iff_le, gt_iff_lt, ne_eq, wl_len, hl_len, natCast_fold, not_true_eq_false, not_false_eq_true] at * <;> omega))
                 obtain ⟨u, o, r, g1, g2, g3, g4⟩ := rooms_get (rmsF_rooms hlo hlr) hjl
                 obtain ⟨zq, r', g5, g6, g7⟩ := hrs.get (show j < rs.length by omega)
                 rw [g3] at g6
                 cases g6
                 obtain ⟨zx4, x, g8, g9, g10⟩ := hxs.get (show j < xs.length by omega)
                 have hge := ud_get g1
                 rw [← he] at hge
                 obtain ⟨ss, hss⟩ : ∃ ss, ss = stl u.steps := ⟨_, rfl⟩
                 rw [← hss] at hge
                 have hbg := bl_get g2
                 rw [← hb] at hbg
                 have hgg := qd_get g5
                 rw [← hg] at hgg
                 have hgx := qd_get g8
                 rw [← hg4] at hgx
                 have hu := hou u (List.mem_of_getElem? g1)
                 have hsi := hu.spin
                 obtain ⟨zs1, zt, zx, zs2, zt', zy⟩ := zq
                 obtain ⟨xs1, xt, xx, xs2, xt', xy⟩ := zx4
                 simp only at hgg g7 hgx g10
                 have hrm := hroom g1 g2 g3
                 have hqr := g7.ql
                 have hqx := g10.ql
                 have hrl := rmR_ql (u := u) (o := o) (r := r) (L := 6) (by omega)
                 have hsp := spn_get g1
                 have hgr := gR_get g9
                 obtain ⟨ρ, hρ⟩ : ∃ ρ, ρ = rmR u o r := ⟨_, rfl⟩
                 rw [← hρ] at hrl hrm
                 have hpx : psum (gR xs) j + x = psum (gR xs) (j + 1) := by rw [← hgr]; rfl
                 have hpy : psum (cstF us xs) j + x * (u.spin : Rat) = psum (cstF us xs) (j + 1) := by rw [← hsp, ← hgr]; rfl
                 obtain ⟨sq, hsq⟩ : ∃ sq, sq = (u.spin : Rat) := ⟨_, rfl⟩
                 have hsl := need_ql hsi
                 rw [← hsq] at hsl hpy
                 have lm1 := ql_mul x sq
                 have hb3 : ql (psum (gR xs) (j + 1)) ≤ 1 + 10 * (j + 1) := by
                   have := sum_bd (A := 10) (x := x) hOb (by omega)
                   rwa [hpx] at this
                 have hb4 : ql (psum (cstF us xs) (j + 1)) ≤ 1 + 10 * (j + 1) := by
                   have := sum_bd (A := 10) (x := x * sq) hMb (by omega)
                   rwa [hpy] at this
                 obtain ⟨X, hX⟩ : ∃ X, X = psum (gR xs) j := ⟨_, rfl⟩
                 obtain ⟨Y, hY⟩ : ∃ Y, Y = psum (cstF us xs) j := ⟨_, rfl⟩
                 rw [← hX] at hO hOb hpx
                 rw [← hY] at hM hMb hpy
                 have step : ¬ x < 0 → x ≤ ρ → ∀ k, k < j + 1 → 0 ≤ gR xs k ∧ gR xs k ≤ gR (rmsF us os rs) k := fun k1 k2 k hk => by
                   by_cases hkj : k = j
                   · subst hkj
                     rw [hgr, ← hrm]
                     exact ⟨by grind, k2⟩
                   · exact hxx k (by omega)
                 clear hrm g4 hou hrs hroom hb hqr hX hY hg hxx hcost hS hC hB hB2
                 cbv
                 refine h.get' j _ hjz hgx ?_
                 cbv
                 refine fsign_s h (l := 900) (g10.le (by omega)) (by omega) fun c4 hc4 => ?_
                 have hs4 := sgnQ_neg' (q := x)
                 rw [← hc4] at hs4
                 clear hc4
                 cbv
                 refine h.dec rfl (fun hp7 => ?_) (fun hp7 => ?_)
                 · cbv
                   (repeat (first | (refine Good.len' ‹_› ?_; intro _ _; cbv) | ((first | refine Good.add' ‹_› ?_ ?_ | refine Good.sub' ‹_› ?_ ?_ | refine Good.mul' ‹_› ?_ ?_); (· (first | omega | (simp only [inR, cmpP, loOk, hiOk, Int.ofNat_eq_natCast, Int.negSucc_eq, IntKind.bits, Int.toNat_natCast, ge_iff_le, gt_iff_lt, ne_eq, wl_len, hl_len, natCast_fold, not_true_eq_false, not_false_eq_true] at * <;> omega))); intro _ _; cbv) | ((first | (refine Good.yes ‹_› ?_ ?_; (· (first | omega | (simp only [inR, cmpP, loOk, hiOk, Int.ofNat_eq_natCast, Int.negSucc_eq, IntKind.bits, Int.toNat_natCast, ge_iff_le, gt_iff_lt, ne_eq, wl_len, hl_len, natCast_fold, not_true_eq_false, not_false_eq_true] at * <;> omega)))) | (refine Good.no ‹_› rfl ?_ ?_; (· (first | omega | (simp only [inR, cmpP, loOk, hiOk, Int.ofNat_eq_natCast, Int.negSucc_eq, IntKind.bits, Int.toNat_natCast, ge_iff_le, gt_iff_lt, ne_eq, wl_len, hl_len, natCast_fold, not_true_eq_false, not_false_eq_true] at * <;> omega)))) | (refine Good.convi ‹_› ?_ ?_; (· (first | omega | (simp only [inR, cmpP, loOk, hiOk, Int.ofNat_eq_natCast, Int.negSucc_eq, IntKind.bits, Int.toNat_natCast, ge_iff_le, gt_iff_lt, ne_eq, wl_len, hl_len, natCast_fold, not_true_eq_false, not_false_eq_true] at * <;> omega))))); cbv) | (refine Good.chk' ‹_› rfl ?_; cbv)))
                   exact hQ
                 · have hx0 : ¬ x < 0 := fun hh => hp7 (by have := hs4.2 hh; (first | omega | (simp only [inR, cmpP, loOk, hiOk, Int.ofNat_eq_natCast, Int.negSucc_eq, IntKind.bits, Int.toNat_natCast, ge_iff_le, gt_iff_lt, ne_eq, wl_len, hl_len, natCast_fold, not_true_eq_false, not_false_eq_true] at * <;> omega)))
                   clear hs4
                   cbv
                   refine h.get' j _ hjz hgx ?_
                   cbv
                   refine h.get' j _ hjz hge ?_
                   cbv
                   refine h.get' j _ hjz hbg ?_
                   cbv
                   refine h.get' j _ hjz hgg ?_
                   cbv
                   refine lroom_s h hu hss g7 (by decide) fun e1 e2 e3 e4 ke => ?_
                   rw [← hρ] at ke
                   cbv
                   refine fcmp_s h (l := 900) (g10.le (by omega)) (ke.r.le (by omega)) (by omega) fun c5 hc5 => ?_
                   have hs5 := sgnQ_le' (q := x - ρ)
                   rw [← hc5] at hs5
                   clear hc5 ke hρ
                   cbv
                   refine h.dec rfl (fun hp8 => ?_) (fun hp8 => ?_)
                   · cbv
                     (repeat (first | (refine Good.len' ‹_› ?_; intro _ _; cbv) | ((first | refine Good.add' ‹_› ?_ ?_ | refine Good.sub' ‹_› ?_ ?_ | refine Good.mul' ‹_› ?_ ?_); (· (first | omega | (simp only [inR, cmpP, loOk, hiOk, Int.ofNat_eq_natCast, Int.negSucc_eq, IntKind.bits, Int.toNat_natCast, ge_iff_le, gt_iff_lt, ne_eq, wl_len, hl_len, natCast_fold, not_true_eq_false, not_false_eq_true] at * <;> omega))); intro _ _; cbv) | ((first | (refine Good.yes ‹_› ?_ ?_; (· (first | omega | (simp only [inR, cmpP, loOk, hiOk, Int.ofNat_eq_natCast, Int.negSucc_eq, IntKind.bits, Int.toNat_natCast, ge_iff_le, gt_iff_lt, ne_eq, wl_len, hl_len, natCast_fold, not_true_eq_false, not_false_eq_true] at * <;> omega)))) | (refine Good.no ‹_› rfl ?_ ?_; (· (first | omega | (simp only [inR, cmpP, loOk, hiOk, Int.ofNat_eq_natCast, Int.negSucc_eq, IntKind.bits, Int.toNat_natCast, ge_iff_le, gt_iff_lt, ne_eq, wl_len, hl_len, natCast_fold, not_true_eq_false, not_false_eq_true] at * <;> omega)))) | (refine Good.convi ‹_› ?_ ?_; (· (first | omega | (simp only [inR, cmpP, loOk, hiOk, Int.ofNat_eq_natCast, Int.negSucc_eq, IntKind.bits, Int.toNat_natCast, ge_iff_le, gt_iff_lt, ne_eq, wl_len, hl_len, natCast_fold, not_true_eq_false, not_false_eq_true] at * <;> omega))))); cbv) | (refine Good.chk' ‹_› rfl ?_; cbv)))
                     exact hQ
                   · have hx1 : x ≤ ρ := by have := hs5.1 (by (first | omega | (simp only [inR, cmpP, loOk, hiOk, Int.ofNat_eq_natCast, Int.negSucc_eq, IntKind.bits, Int.toNat_natCast, ge_iff_le, gt_iff_lt, ne_eq, wl_len, hl_len, natCast_fold, not_true_eq_false, not_false_eq_true] at * <;> omega))); grind
                     have hst := step hx0 hx1
                     clear hs5 step hp7 hp8
                     cbv
                     (repeat (first | (refine Good.len' ‹_› ?_; intro _ _; cbv) | ((first | refine Good.add' ‹_› ?_ ?_ | refine Good.sub' ‹_› ?_ ?_ | refine Good.mul' ‹_› ?_ ?_); (· (first | omega | (simp only [inR, cmpP, loOk, hiOk, Int.ofNat_eq_natCast, Int.negSucc_eq, IntKind.bits, Int.toNat_natCast, ge_iff_le, gt_iff_lt, ne_eq, wl_len, hl_len, natCast_fold, not_true_eq_false, not_false_eq_true] at * <;> omega))); intro _ _; cbv) | ((first | (refine Good.yes ‹_› ?_ ?_; (· (first | omega | (simp only [inR, cmpP, loOk, hiOk, Int.ofNat_eq_natCast, Int.negSucc_eq, IntKind.bits, Int.toNat_natCast, ge_iff_le, gt_iff_lt, ne_eq, wl_len, hl_len, natCast_fold, not_true_eq_false, not_false_eq_true] at * <;> omega)))) | (refine Good.no ‹_› rfl ?_ ?_; (· (first | omega | (simp only [inR, cmpP, loOk, hiOk, Int.ofNat_eq_natCast, Int.negSucc_eq, IntKind.bits, Int.toNat_natCast, ge_iff_le, gt_iff_lt, ne_eq, wl_len, hl_len, natCast_fold, not_true_eq_false, not_false_eq_true] at * <;> omega)))) | (refine Good.convi ‹_› ?_ ?_; (· (first | omega | (simp only [inR, cmpP, loOk, hiOk, Int.ofNat_eq_natCast, Int.negSucc_eq, IntKind.bits, Int.toNat_natCast, ge_iff_le, gt_iff_lt, ne_eq, wl_len, hl_len, natCast_fold, not_true_eq_false, not_false_eq_true] at * <;> omega))))); cbv) | (refine Good.chk' ‹_› rfl ?_; cbv)))
                     refine h.get' j _ hjz hgx ?_
                     cbv
                     refine fadd_s h (l := 900) (hO.r.le (by omega)) (g10.le (by omega)) (by omega) fun n1 n2 n3 n4 kn => ?_
                     cbv
                     refine h.get' j _ hjz hgx ?_
                     cbv
                     refine h.get' j _ hjz hge ?_
                     cbv
                     refine ffromInt_s h hsi fun f1 f2 kf => ?_
                     have kf : Qc f1 f2 false [] sq := by rw [hsq]; exact kf
                     cbv
                     refine fmul_s h (l := 900) (g10.le (by omega)) (kf.r.le (by omega)) (by omega) fun m1 m2 m3 m4 km => ?_
                     cbv
                     refine fadd_s h (l := 900) (hM.r.le (by omega)) (km.r.le (by omega)) (by omega) fun o1 o2 o3 o4 ko => ?_
                     rw [hpx] at kn
                     rw [hpy] at ko
                     clear hO hM km kf
                     cbv
                     (repeat (first | (refine Good.len' ‹_› ?_; intro _ _; cbv) | ((first | refine Good.add' ‹_› ?_ ?_ | refine Good.sub' ‹_› ?_ ?_ | refine Good.mul' ‹_› ?_ ?_); (· (first | omega | (simp only [inR, cmpP, loOk, hiOk, Int.ofNat_eq_natCast, Int.negSucc_eq, IntKind.bits, Int.toNat_natCast, ge_iff_le, gt_iff_lt, ne_eq, wl_len, hl_len, natCast_fold, not_true_eq_false, not_false_eq_true] at * <;> omega))); intro _ _; cbv) | ((first | (refine Good.yes ‹_› ?_ ?_; (· (first | omega | (simp only [inR, cmpP, loOk, hiOk, Int.ofNat_eq_natCast, Int.negSucc_eq, IntKind.bits, Int.toNat_natCast, ge_iff_le, gt_iff_lt, ne_eq, wl_len, hl_len, natCast_fold, not_true_eq_false, not_false_eq_true] at * <;> omega)))) | (refine Good.no ‹_› rfl ?_ ?_; (· (first | omega | (simp only [inR, cmpP, loOk, hiOk, Int.ofNat_eq_natCast, Int.negSucc_eq, IntKind.bits, Int.toNat_natCast, ge_iff_le, gt_iff_lt, ne_eq, wl_len, hl_len, natCast_fold, not_true_eq_false, not_false_eq_true] at * <;> omega)))) | (refine Good.convi ‹_› ?_ ?_; (· (first | omega | (simp only [inR, cmpP, loOk, hiOk, Int.ofNat_eq_natCast, Int.negSucc_eq, IntKind.bits, Int.toNat_natCast, ge_iff_le, gt_iff_lt, ne_eq, wl_len, hl_len, natCast_fold, not_true_eq_false, not_false_eq_true] at * <;> omega))))); cbv) | (refine Good.chk' ‹_› rfl ?_; cbv)))
                     rename_i j1 hj1
                     refine hR _ ((j1, j + 1), (n1, n2, n3, n4), (o1, o2, o3, o4)) ⟨by simp only; (first | omega | (simp only [inR, cmpP, loOk, hiOk, Int.ofNat_eq_natCast, Int.negSucc_eq, IntKind.bits, Int.toNat_natCast, ge_iff_le, gt_iff_lt, ne_eq, wl_len, hl_len, natCast_fold, not_true_eq_false, not_false_eq_true] at * <;> omega)), by simp only; (first | omega | (simp only [inR, cmpP, loOk, hiOk, Int.ofNat_eq_natCast, Int.negSucc_eq, IntKind.bits, Int.toNat_natCast, ge_iff_le, gt_iff_lt, ne_eq, wl_len, hl_len, natCast_fold, not_true_eq_false, not_false_eq_true] at * <;> omega)), .inr hxl, hst, kn, hb3, ko, hb4⟩ (by simp only; (first | omega | (simp only [inR, cmpP, loOk, hiOk, Int.ofNat_eq_natCast, Int.negSucc_eq, IntKind.bits, Int.toNat_natCast, ge_iff_le, gt_iff_lt, ne_eq, wl_len, hl_len, natCast_fold, not_true_eq_false, not_false_eq_true] at * <;> omega))) (by (refine Wk.of [(15, some 15), (16, some 16), (20, some 20), (21, some 21)] rfl ?_ ?_; (· (repeat (first | exact trivial | (refine And.intro ?_ ?_; (· first | exact trivial | exact Or.inl ⟨_, rfl, rfl⟩ | exact ⟨_, rfl, rfl⟩ | exact Or.inr ⟨rfl, rfl, by decide⟩))))); (· (repeat (first | exact trivial | (refine And.intro ?_ ?_; (· first | exact trivial | exact Or.inl rfl | rfl | exact Or.inr ⟨_, _, _, _, rfl, rfl, rfl, renNo rfl⟩ | exact ⟨ne_no rfl, Or.inl ⟨_, rfl, rfl⟩⟩ | exact ⟨ne_no rfl, Or.inr ⟨rfl, _, rfl⟩⟩ | exact ⟨_, rfl, rfl, ne_no rfl⟩)))))))
             · have hj2 : j = xs.length := by (first | omega | (simp only [inR, cmpP, loOk, hiOk, Int.ofNat_eq_natCast, Int.negSucc_eq, IntKind.bits, Int.toNat_natCast, ge_iff_le, gt_iff_lt, ne_eq, wl_len, hl_len, natCast_fold, not_true_eq_false, not_false_eq_true] at * <;> omega))
               have hfin : psum (gR xs) j = psum (gR A.taken) us.length → psum (cstF us A.taken) us.length ≤ psum (cstF us xs) j := fun hh => by
                 rcases hle2 with h0 | h0
                 · have hnil : xs = [] := List.eq_nil_of_length_eq_zero (by omega)
                   subst hnil
                   have e1 : ∀ f : Nat → Rat, psum f j = 0 := fun f => by rw [h0]; rfl
                   rw [e1] at hh ⊢
                   have e2 : ∀ i, gR [] i = 0 := fun i => by unfold gR; rfl
                   have := hcost (x := []) (fun i hi => ⟨by rw [e2]; exact Rat.le_refl, by rw [e2]; exact rho_ge' i hi⟩) (by rw [psum_zero fun i _ => e2 i]; exact hh)
                   refine Rat.le_trans this ?_
                   rw [psum_zero fun i _ => by unfold cstF; rw [e2]; grind]
                   exact Rat.le_refl
                 · have e : j = us.length := by omega
                   rw [e] at hh hxx ⊢
                   exact hcost hxx hh
               clear hR hcost hxx hroom hou hrs hxs
               cbv
               refine fequal_s h (l := 900) (hO.r.le (by omega)) (hS.r.le (by omega)) (by omega) fun c6 hc6 => ?_
               cases c6
               · cbv
                 (repeat (first | (refine Good.len' ‹_› ?_; intro _ _; cbv) | ((first | refine Good.add' ‹_› ?_ ?_ | refine Good.sub' ‹_› ?_ ?_ | refine Good.mul' ‹_› ?_ ?_); (· (first | omega | (simp only [inR, cmpP, loOk, hiOk, Int.ofNat_eq_natCast, Int.negSucc_eq, IntKind.bits, Int.toNat_natCast, ge_iff_le, gt_iff_lt, ne_eq, wl_len, hl_len, natCast_fold, not_true_eq_false, not_false_eq_true] at * <;> omega))); intro _ _; cbv) | ((first | (refine Good.yes ‹_› ?_ ?_; (· (first | omega | (simp only [inR, cmpP, loOk, hiOk, Int.ofNat_eq_natCast, Int.negSucc_eq, IntKind.bits, Int.toNat_natCast, ge_iff_le, gt_iff_lt, ne_eq, wl_len, hl_len, natCast_fold, not_true_eq_false, not_false_eq_true] at * <;> omega)))) | (refine Good.no ‹_› rfl ?_ ?_; (· (first | omega | (simp only [inR, cmpP, loOk, hiOk, Int.ofNat_eq_natCast, Int.negSucc_eq, IntKind.bits, Int.toNat_natCast, ge_iff_le, gt_iff_lt, ne_eq, wl_len, hl_len, natCast_fold, not_true_eq_false, not_false_eq_true] at * <;> omega)))) | (refine Good.convi ‹_› ?_ ?_; (· (first | omega | (simp only [inR, cmpP, loOk, hiOk, Int.ofNat_eq_natCast, Int.negSucc_eq, IntKind.bits, Int.toNat_natCast, ge_iff_le, gt_iff_lt, ne_eq, wl_len, hl_len, natCast_fold, not_true_eq_false, not_false_eq_true] at * <;> omega))))); cbv) | (refine Good.chk' ‹_› rfl ?_; cbv)))
                 exact hQ
               · have hfin2 := hfin (of_decide_eq_true hc6.symm)
                 cbv
                 refine fcmp_s h (l := 900) (hM.r.le (by omega)) (hC.r.le (by omega)) (by omega) fun c7 hc7 => ?_
                 have hc70 : 0 ≤ c7 := by
                   rw [hc7]
                   rcases sgnQ_cases (psum (cstF us xs) j - psum (cstF us A.taken) us.length) with ⟨k, _⟩ | ⟨_, k⟩ | ⟨_, k⟩
                   · exfalso; grind
                   · omega
                   · omega
                 clear hc7 hc6 hfin hfin2
                 cbv
                 (repeat (first | (refine Good.len' ‹_› ?_; intro _ _; cbv) | ((first | refine Good.add' ‹_› ?_ ?_ | refine Good.sub' ‹_› ?_ ?_ | refine Good.mul' ‹_› ?_ ?_); (· (first | omega | (simp only [inR, cmpP, loOk, hiOk, Int.ofNat_eq_natCast, Int.negSucc_eq, IntKind.bits, Int.toNat_natCast, ge_iff_le, gt_iff_lt, ne_eq, wl_len, hl_len, natCast_fold, not_true_eq_false, not_false_eq_true] at * <;> omega))); intro _ _; cbv) | ((first | (refine Good.yes ‹_› ?_ ?_; (· (first | omega | (simp only [inR, cmpP, loOk, hiOk, Int.ofNat_eq_natCast, Int.negSucc_eq, IntKind.bits, Int.toNat_natCast, ge_iff_le, gt_iff_lt, ne_eq, wl_len, hl_len, natCast_fold, not_true_eq_false, not_false_eq_true] at * <;> omega)))) | (refine Good.no ‹_› rfl ?_ ?_; (· (first | omega | (simp only [inR, cmpP, loOk, hiOk, Int.ofNat_eq_natCast, Int.negSucc_eq, IntKind.bits, Int.toNat_natCast, ge_iff_le, gt_iff_lt, ne_eq, wl_len, hl_len, natCast_fold, not_true_eq_false, not_false_eq_true] at * <;> omega)))) | (refine Good.convi ‹_› ?_ ?_; (· (first | omega | (simp only [inR, cmpP, loOk, hiOk, Int.ofNat_eq_natCast, Int.negSucc_eq, IntKind.bits, Int.toNat_natCast, ge_iff_le, gt_iff_lt, ne_eq, wl_len, hl_len, natCast_fold, not_true_eq_false, not_false_eq_true] at * <;> omega))))); cbv) | (refine Good.chk' ‹_› rfl ?_; cbv)))
                 exact hQ
            )
          · (clear hp3 hfb3
             cbv
             (repeat (first | (refine Good.len' ‹_› ?_; intro _ _; cbv) | ((first | refine Good.add' ‹_› ?_ ?_ | refine Good.sub' ‹_› ?_ ?_ | refine Good.mul' ‹_› ?_ ?_); (· (first | omega | (simp only [inR, cmpP, loOk, hiOk, Int.ofNat_eq_natCast, Int.negSucc_eq, IntKind.bits, Int.toNat_natCast, ge_iff_le, gt_iff_lt, ne_eq, wl_len, hl_len, natCast_fold, not_true_eq_false, not_false_eq_true] at * <;> omega))); intro _ _; cbv) | ((first | (refine Good.yes ‹_› ?_ ?_; (· (first | omega | (simp only [inR, cmpP, loOk, hiOk, Int.ofNat_eq_natCast, Int.negSucc_eq, IntKind.bits, Int.toNat_natCast, ge_iff_le, gt_iff_lt, ne_eq, wl_len, hl_len, natCast_fold, not_true_eq_false, not_false_eq_true] at * <;> omega)))) | (refine Good.no ‹_› rfl ?_ ?_; (· (first | omega | (simp only [inR, cmpP, loOk, hiOk, Int.ofNat_eq_natCast, Int.negSucc_eq, IntKind.bits, Int.toNat_natCast, ge_iff_le, gt_iff_lt, ne_eq, wl_len, hl_len, natCast_fold, not_true_eq_false, not_false_eq_true] at * <;> omega)))) | (refine Good.convi ‹_› ?_ ?_; (· (first | omega | (simp only [inR, cmpP, loOk, hiOk, Int.ofNat_eq_natCast, Int.negSucc_eq, IntKind.bits, Int.toNat_natCast, ge_iff_le, gt_iff_lt, ne_eq, wl_len, hl_len, natCast_fold, not_true_eq_false, not_false_eq_true] at * <;> omega))))); cbv) | (refine Good.chk' ‹_› rfl ?_; cbv)))
             refine ffromInt_s h (n := 0) ir0 fun b7 z7 hq7 => ?_
             have hq7 : Qc b7 z7 false [] (0 : Rat) := hq7
             cbv
             refine ffromInt_s h (n := 0) ir0 fun b8 z8 hq8 => ?_
             have hq8 : Qc b8 z8 false [] (0 : Rat) := hq8
             cbv
             refine h.loop' ((Int × Nat) × (Bool × List (List D) × Bool × List (List D)) × (Bool × List (List D) × Bool × List (List D))) (fun p => p.1.1 = (p.1.2 : Int) ∧ p.1.2 ≤ xs.length ∧ (p.1.2 = 0 ∨ xs.length = us.length) ∧ (∀ j, j < p.1.2 → 0 ≤ gR xs j ∧ gR xs j ≤ gR (rmsF us os rs) j) ∧ Qc p.2.1.1 p.2.1.2.1 p.2.1.2.2.1 p.2.1.2.2.2 (psum (gR xs) p.1.2) ∧ ql (psum (gR xs) p.1.2) ≤ 1 + 10 * p.1.2 ∧ Qc p.2.2.1 p.2.2.2.1 p.2.2.2.2.1 p.2.2.2.2.2 (psum (cstF us xs) p.1.2) ∧ ql (psum (cstF us xs) p.1.2) ≤ 1 + 10 * p.1.2)
               (fun p => ⟨[(0, .v (.one (.sl t 9 es))), (1, .v (.one (.sl t' 1 bs))), (2, .v (.one (.sl t'' 4 gs))), (4, .v (.one (.sl t3 4 gs4))), (15, .p 15 0 0 0), (16, .p 16 0 0 0), (20, .p 20 0 0 0), (21, .p 21 0 0 0), (22, vi .i64 p.1.1)],
                 [(15, .bx [.sc (.bool d1), .sl 1 1 d2, .sc (.bool d3), .sl 1 1 d4]), (16, .bx [.sc (.bool d5), .sl 1 1 d6, .sc (.bool d7), .sl 1 1 d8]), (20, .bx [.sc (.bool p.2.1.1), .sl 1 1 p.2.1.2.1, .sc (.bool p.2.1.2.2.1), .sl 1 1 p.2.1.2.2.2]), (21, .bx [.sc (.bool p.2.2.1), .sl 1 1 p.2.2.2.1, .sc (.bool p.2.2.2.2.1), .sl 1 1 p.2.2.2.2.2])]⟩) (fun p => xs.length - p.1.2) ((0, 0), (b7, z7, false, []), (b8, z8, false, [])) ⟨rfl, Nat.zero_le _, .inl rfl, fun j hj => absurd hj (Nat.not_lt_zero _), hq7, ql_zero, hq8, ql_zero⟩ (by (refine Wk.of [(15, some 15), (16, some 16), (20, some 20), (21, some 21)] rfl ?_ ?_; (· (repeat (first | exact trivial | (refine And.intro ?_ ?_; (· first | exact trivial | exact Or.inl ⟨_, rfl, rfl⟩ | exact ⟨_, rfl, rfl⟩ | exact Or.inr ⟨rfl, rfl, by decide⟩))))); (· (repeat (first | exact trivial | (refine And.intro ?_ ?_; (· first | exact trivial | exact Or.inl rfl | rfl | exact Or.inr ⟨_, _, _, _, rfl, rfl, rfl, renNo rfl⟩ | exact ⟨ne_no rfl, Or.inl ⟨_, rfl, rfl⟩⟩ | exact ⟨ne_no rfl, Or.inr ⟨rfl, _, rfl⟩⟩ | exact ⟨_, rfl, rfl, ne_no rfl⟩))))))) ?_
             clear hq7 hq8 hp2 hiz
             rintro ⟨⟨jz, j⟩, ⟨p1, p2, p3, p4⟩, ⟨p5, p6, p7, p8⟩⟩ R ⟨hjz, hj, hle2, hxx, hO, hOb, hM, hMb⟩ hR
             simp only at hjz hj hle2 hxx hO hOb hM hMb
             cbv
             (repeat (first | (refine Good.len' ‹_› ?_; intro _ _; cbv) | ((first | refine Good.add' ‹_› ?_ ?_ | refine Good.sub' ‹_› ?_ ?_ | refine Good.mul' ‹_› ?_ ?_); (· (first | omega | (simp only [inR, cmpP, loOk, hiOk, Int.ofNat_eq_natCast, Int.negSucc_eq, IntKind.bits, Int.toNat_natCast, ge_iff_le, gt_iff_lt, ne_eq, wl_len, hl_len, natCast_fold, not_true_eq_false, not_false_eq_true] at * <;> omega))); intro _ _; cbv) | ((first | (refine Good.yes ‹_› ?_ ?_; (· (first | omega | (simp only [inR, cmpP, loOk, hiOk, Int.ofNat_eq_natCast, Int.negSucc_eq, IntKind.bits, Int.toNat_natCast, ge_iff_le, gt_iff_lt, ne_eq, wl_len, hl_len, natCast_fold, not_true_eq_false, not_false_eq_true] at * <;> omega)))) | (refine Good.no ‹_› rfl ?_ ?_; (· (first | omega | (simp only [inR, cmpP, loOk, hiOk, Int.ofNat_eq_natCast, Int.negSucc_eq, IntKind.bits, Int.toNat_natCast, ge_iff_le, gt_iff_lt, ne_eq, wl_len, hl_len, natCast_fold, not_true_eq_false, not_false_eq_true] at * <;> omega)))) | (refine Good.convi ‹_› ?_ ?_; (· (first | omega | (simp only [inR, cmpP, loOk, hiOk, Int.ofNat_eq_natCast, Int.negSucc_eq, IntKind.bits, Int.toNat_natCast, ge_iff_le, gt_iff_lt, ne_eq, wl_len, hl_len, natCast_fold, not_true_eq_false, not_false_eq_true] at * <;> omega))))); cbv) | (refine Good.chk' ‹_› rfl ?_; cbv)))
             refine h.dec rfl (fun hp5 => ?_) (fun hp5 => ?_)
             · cbv
               (repeat (first | (refine Good.len' ‹_› ?_; intro _ _; cbv) | ((first | refine Good.add' ‹_› ?_ ?_ | refine Good.sub' ‹_› ?_ ?_ | refine Good.mul' ‹_› ?_ ?_); (· (first | omega | (simp only [inR, cmpP, loOk, hiOk, Int.ofNat_eq_natCast, Int.negSucc_eq, IntKind.bits, Int.toNat_natCast, ge_iff_le, gt_iff_lt, ne_eq, wl_len, hl_len, natCast_fold, not_true_eq_false, not_false_eq_true] at * <;> omega))); intro _ _; cbv) | ((first | (refine Good.yes ‹_› ?_ ?_; (· (first | omega | (simp only [inR, cmpP, loOk, hiOk, Int.ofNat_eq_natCast, Int.negSucc_eq, IntKind.bits, Int.toNat_natCast, ge_iff_le, gt_iff_lt, ne_eq, wl_len, hl_len, natCast_fold, not_true_eq_false, not_false_eq_true] at * <;> omega)))) | (refine Good.no ‹_› rfl ?_ ?_; (· (first | omega | (simp only [inR, cmpP, loOk, hiOk, Int.ofNat_eq_natCast, Int.negSucc_eq, IntKind.bits, Int.toNat_natCast, ge_iff_le, gt_iff_lt, ne_eq, wl_len, hl_len, natCast_fold, not_true_eq_false, not_false_eq_true] at * <;> omega)))) | (refine Good.convi ‹_› ?_ ?_; (· (first | omega | (simp only [inR, cmpP, loOk, hiOk, Int.ofNat_eq_natCast, Int.negSucc_eq, IntKind.bits, Int.toNat_natCast, ge_iff_le, gt_iff_lt, ne_eq, wl_len, hl_len, natCast_fold, not_true_eq_false, not_false_eq_true] at * <;> omega))))); cbv) | (refine Good.chk' ‹_› rfl ?_; cbv)))
               refine h.dec rfl (fun hp6 => ?_) (fun hp6 => ?_)
               · cbv
                 (repeat (first | (refine Good.len' ‹_› ?_; intro _ _; cbv) | ((first | refine Good.add' ‹_› ?_ ?_ | refine Good.sub' ‹_› ?_ ?_ | refine Good.mul' ‹_› ?_ ?_); (· (first | omega | (simp only [inR, cmpP, loOk, hiOk, Int.ofNat_eq_natCast, Int.negSucc_eq, IntKind.bits, Int.toNat_natCast, ge_iff_le, gt_iff_lt, ne_eq, wl_len, hl_len, natCast_fold, not_true_eq_false, not_false_eq_true] at * <;> omega))); intro _ _; cbv) | ((first | (refine Good.yes ‹_› ?_ ?_; (· (first | omega | (simp only [inR, cmpP, loOk, hiOk, Int.ofNat_eq_natCast, Int.negSucc_eq, IntKind.bits, Int.toNat_natCast, ge_iff_le, gt_iff_lt, ne_eq, wl_len, hl_len, natCast_fold, not_true_eq_false, not_false_eq_true] at * <;> omega)))) | (refine Good.no ‹_› rfl ?_ ?_; (· (first | omega | (simp only [inR, cmpP, loOk, hiOk, Int.ofNat_eq_natCast, Int.negSucc_eq, IntKind.bits, Int.toNat_natCast, ge_iff_le, gt_iff_lt, ne_eq, wl_len, hl_len, natCast_fold, not_true_eq_false, not_false_eq_true] at * <;> omega)))) | (refine Good.convi ‹_› ?_ ?_; (· (first | omega | (simp only [inR, cmpP, loOk, hiOk, Int.ofNat_eq_natCast, Int.negSucc_eq, IntKind.bits, Int.toNat_natCast, ge_iff_le, gt_iff_lt, ne_eq, wl_len, hl_len, natCast_fold, not_true_eq_false, not_false_eq_true] at * <;> omega))))); cbv) | (refine Good.chk' ‹_› rfl ?_; cbv)))
                 exact hQ
               · have hxl : xs.length = us.length := by (first | omega | (simp only [inR, cmpP, loOk, hiOk, Int.ofNat_eq_natCast, Int.negSucc_eq, IntKind.bits, Int.toNat_natCast, ge_iff_le, gt_iff_lt, ne_eq, wl_len, hl_len, natCast_fold, not_true_eq_false, not_false_eq_true] at * <;> omega))
                 have hjl : j < us.length := by (first | omega | (simp only [inR, cmpP, loOk, hiOk, Int.ofNat_eq_natCast, Int.negSucc_eq, IntKind.bits, Int.toNat_natCast, ge_iff_le, gt_iff_lt, ne_eq, wl_len, hl_len, natCast_fold, not_true_eq_false, not_false_eq_true] at * <;> omega))
                 obtain ⟨u, o, r, g1, g2, g3, g4⟩ := rooms_get (rmsF_rooms hlo hlr) hjl
                 obtain ⟨zq, r', g5, g6, g7⟩ := hrs.get (show j < rs.length by omega)
                 rw [g3] at g6
                 cases g6
                 obtain ⟨zx4, x, g8, g9, g10⟩ := hxs.get (show j < xs.length by omega)
                 have hge := ud_get g1
                 rw [← he] at hge
                 obtain ⟨ss, hss⟩ : ∃ ss, ss = stl u.steps := ⟨_, rfl⟩
                 rw [← hss] at hge
                 have hbg := bl_get g2
                 rw [← hb] at hbg
                 have hgg := qd_get g5
                 rw [← hg] at hgg
                 have hgx := qd_get g8
                 rw [← hg4] at hgx
                 have hu := hou u (List.mem_of_getElem? g1)
                 have hsi := hu.spin
                 obtain ⟨zs1, zt, zx, zs2, zt', zy⟩ := zq
                 obtain ⟨xs1, xt, xx, xs2, xt', xy⟩ := zx4
                 simp only at hgg g7 hgx g10
                 have hrm := hroom g1 g2 g3
                 have hqr := g7.ql
                 have hqx := g10.ql
                 have hrl := rmR_ql (u := u) (o := o) (r := r) (L := 6) (by omega)
                 have hsp := spn_get g1
                 have hgr := gR_get g9
                 obtain ⟨ρ, hρ⟩ : ∃ ρ, ρ = rmR u o r := ⟨_, rfl⟩
                 rw [← hρ] at hrl hrm
                 have hpx : psum (gR xs) j + x = psum (gR xs) (j + 1) := by rw [← hgr]; rfl
                 have hpy : psum (cstF us xs) j + x * (u.spin : Rat) = psum (cstF us xs) (j + 1) := by rw [← hsp, ← hgr]; rfl
                 obtain ⟨sq, hsq⟩ : ∃ sq, sq = (u.spin : Rat) := ⟨_, rfl⟩
                 have hsl := need_ql hsi
                 rw [← hsq] at hsl hpy
                 have lm1 := ql_mul x sq
                 have hb3 : ql (psum (gR xs) (j + 1)) ≤ 1 + 10 * (j + 1) := by
                   have := sum_bd (A := 10) (x := x) hOb (by omega)
                   rwa [hpx] at this
                 have hb4 : ql (psum (cstF us xs) (j + 1)) ≤ 1 + 10 * (j + 1) := by
                   have := sum_bd (A := 10) (x := x * sq) hMb (by omega)
                   rwa [hpy] at this
                 obtain ⟨X, hX⟩ : ∃ X, X = psum (gR xs) j := ⟨_, rfl⟩
                 obtain ⟨Y, hY⟩ : ∃ Y, Y = psum (cstF us xs) j := ⟨_, rfl⟩
                 rw [← hX] at hO hOb hpx
                 rw [← hY] at hM hMb hpy
                 have step : ¬ x < 0 → x ≤ ρ → ∀ k, k < j + 1 → 0 ≤ gR xs k ∧ gR xs k ≤ gR (rmsF us os rs) k := fun k1 k2 k hk => by
                   by_cases hkj : k = j
                   · subst hkj
                     rw [hgr, ← hrm]
                     exact ⟨by grind, k2⟩
                   · exact hxx k (by omega)
                 clear hrm g4 hou hrs hroom hb hqr hX hY hg hxx hcost hS hC hB hB2
                 cbv
                 refine h.get' j _ hjz hgx ?_
                 cbv
                 refine fsign_s h (l := 900) (g10.le (by omega)) (by omega) fun c4 hc4 => ?_
                 have hs4 := sgnQ_neg' (q := x)
                 rw [← hc4] at hs4
                 clear hc4
                 cbv
                 refine h.dec rfl (fun hp7 => ?_) (fun hp7 => ?_)
                 · cbv
                   (repeat (first | (refine Good.len' ‹_› ?_; intro _ _; cbv) | ((first | refine Good.add' ‹_› ?_ ?_ | refine Good.sub' ‹_› ?_ ?_ | refine Good.mul' ‹_› ?_ ?_); (· (first | omega | (simp only [inR, cmpP, loOk, hiOk, Int.ofNat_eq_natCast, Int.negSucc_eq, IntKind.bits, Int.toNat_natCast, ge_iff_le, gt_iff_lt, ne_eq, wl_len, hl_len, natCast_fold, not_true_eq_false, not_false_eq_true] at * <;> omega))); intro _ _; cbv) | ((first | (refine Good.yes ‹_› ?_ ?_; (· (first | omega | (simp only [inR, cmpP, loOk, hiOk, Int.ofNat_eq_natCast, Int.negSucc_eq, IntKind.bits, Int.toNat_natCast, ge_iff_le, gt_iff_lt, ne_eq, wl_len, hl_len, natCast_fold, not_true_eq_false, not_false_eq_true] at * <;> omega)))) | (refine Good.no ‹_› rfl ?_ ?_; (· (first | omega | (simp only [inR, cmpP, loOk, hiOk, Int.ofNat_eq_natCast, Int.negSucc_eq, IntKind.bits, Int.toNat_natCast, ge_iff_le, gt_iff_lt, ne_eq, wl_len, hl_len, natCast_fold, not_true_eq_false, not_false_eq_true] at * <;> omega)))) | (refine Good.convi ‹_› ?_ ?_; (· (first | omega | (simp only [inR, cmpP, loOk, hiOk, Int.ofNat_eq_natCast, Int.negSucc_eq, IntKind.bits, Int.toNat_natCast, ge_iff_le, gt_iff_lt, ne_eq, wl_len, hl_len, natCast_fold, not_true_eq_false, not_false_eq_true] at * <;> omega))))); cbv) | (refine Good.chk' ‹_› rfl ?_; cbv)))
                   exact hQ
                 · have hx0 : ¬ x < 0 := fun hh => hp7 (by have := hs4.2 hh; (first | omega | (simp only [inR, cmpP, loOk, hiOk, Int.ofNat_eq_natCast, Int.negSucc_eq, IntKind.bits, Int.toNat_natCast, ge_iff_le, gt_iff_lt, ne_eq, wl_len, hl_len, natCast_fold, not_true_eq_false, not_false_eq_true] at * <;> omega)))
                   clear hs4
                   cbv
                   refine h.get' j _ hjz hgx ?_
                   cbv
                   refine h.get' j _ hjz hge ?_
                   cbv
                   refine h.get' j _ hjz hbg ?_
                   cbv
                   refine h.get' j _ hjz hgg ?_
                   cbv
                   refine lroom_s h hu hss g7 (by decide) fun e1 e2 e3 e4 ke => ?_
                   rw [← hρ] at ke
                   cbv
                   refine fcmp_s h (l := 900) (g10.le (by omega)) (ke.r.le (by omega)) (by omega) fun c5 hc5 => ?_
                   have hs5 := sgnQ_le' (q := x - ρ)
                   rw [← hc5] at hs5
                   clear hc5 ke hρ
                   cbv
                   refine h.dec rfl (fun hp8 => ?_) (fun hp8 => ?_)
                   · cbv
                     (repeat (first | (refine Good.len' ‹_› ?_; intro _ _; cbv) | ((first | refine Good.add' ‹_› ?_ ?_ | refine Good.sub' ‹_› ?_ ?_ | refine Good.mul' ‹_› ?_ ?_); (· (first | omega | (simp only [inR, cmpP, loOk, hiOk, Int.ofNat_eq_natCast, Int.negSucc_eq, IntKind.bits, Int.toNat_natCast, ge_iff_le, gt_iff_lt, ne_eq, wl_len, hl_len, natCast_fold, not_true_eq_false, not_false_eq_true] at * <;> omega))); intro _ _; cbv) | ((first | (refine Good.yes ‹_› ?_ ?_; (· (first | omega | (simp only [inR, cmpP, loOk, hiOk, Int.ofNat_eq_natCast, Int.negSucc_eq, IntKind.bits, Int.toNat_natCast, ge_iff_le, gt_iff_lt, ne_eq, wl_len, hl_len, natCast_fold, not_true_eq_false, not_false_eq_true] at * <;> omega)))) | (refine Good.no ‹_› rfl ?_ ?_; (· (first | omega | (simp only [inR, cmpP, loOk, hiOk, Int.ofNat_eq_natCast, Int.negSucc_eq, IntKind.bits, Int.toNat_natCast, ge_iff_le, gt_iff_lt, ne_eq, wl_len, hl_len, natCast_fold, not_true_eq_false, not_false_eq_true] at * <;> omega)))) | (refine Good.convi ‹_› ?_ ?_; (· (first | omega | (simp only [inR, cmpP, loOk, hiOk, Int.ofNat_eq_natCast, Int.negSucc_eq, IntKind.bits, Int.toNat_natCast, ge_iff_le, gt_iff_lt, ne_eq, wl_len, hl_len, natCast_fold, not_true_eq_false, not_false_eq_true] at * <;> omega))))); cbv) | (refine Good.chk' ‹_› rfl ?_; cbv)))
                     exact hQ
                   · have hx1 : x ≤ ρ := by have := hs5.1 (by (first | omega | (simp only [inR, cmpP, loOk, hiOk, Int.ofNat_eq_natCast, Int.negSucc_eq, IntKind.bits, Int.toNat_natCast, ge_iff_le, gt_iff_lt, ne_eq, wl_len, hl_len, natCast_fold, not_true_eq_false, not_false_eq_true] at * <;> omega))); grind
                     have hst := step hx0 hx1
                     clear hs5 step hp7 hp8
                     cbv
                     (repeat (first | (refine Good.len' ‹_› ?_; intro _ _; cbv) | ((first | refine Good.add' ‹_› ?_ ?_ | refine Good.sub' ‹_› ?_ ?_ | refine Good.mul' ‹_› ?_ ?_); (· (first | omega | (simp only [inR, cmpP, loOk, hiOk, Int.ofNat_eq_natCast, Int.negSucc_eq, IntKind.bits, Int.toNat_natCast, ge_iff_le, gt_iff_lt, ne_eq, wl_len, hl_len, natCast_fold, not_true_eq_false, not_false_eq_true] at * <;> omega))); intro _ _; cbv) | ((first | (refine Good.yes ‹_› ?_ ?_; (· (first | omega | (simp only [inR, cmpP, loOk, hiOk, Int.ofNat_eq_natCast, Int.negSucc_eq, IntKind.bits, Int.toNat_natCast, ge_iff_le, gt_iff_lt, ne_eq, wl_len, hl_len, natCast_fold, not_true_eq_false, not_false_eq_true] at * <;> omega)))) | (refine Good.no ‹_› rfl ?_ ?_; (· (first | omega | (simp only [inR, cmpP, loOk, hiOk, Int.ofNat_eq_natCast, Int.negSucc_eq, IntKind.bits, Int.toNat_natCast, ge_iff_le, gt_iff_lt, ne_eq, wl_len, hl_len, natCast_fold, not_true_eq_false, not_false_eq_true] at * <;> omega)))) | (refine Good.convi ‹_› ?_ ?_; (· (first | omega | (simp only [inR, cmpP, loOk, hiOk, Int.ofNat_eq_natCast, Int.negSucc_eq, IntKind.bits, Int.toNat_natCast, ge_iff_le, gt_iff_lt, ne_eq, wl_len, hl_len, natCast_fold, not_true_eq_false, not_false_eq_true] at * <;> omega))))); cbv) | (refine Good.chk' ‹_› rfl ?_; cbv)))
                     refine h.get' j _ hjz hgx ?_
                     cbv
                     refine fadd_s h (l := 900) (hO.r.le (by omega)) (g10.le (by omega)) (by omega) fun n1 n2 n3 n4 kn => ?_
                     cbv
                     refine h.get' j _ hjz hgx ?_
                     cbv
                     refine h.get' j _ hjz hge ?_
                     cbv
                     refine ffromInt_s h hsi fun f1 f2 kf => ?_
                     have kf : Qc f1 f2 false [] sq := by rw [hsq]; exact kf
                     cbv
                     refine fmul_s h (l := 900) (g10.le (by omega)) (kf.r.le (by omega)) (by omega) fun m1 m2 m3 m4 km => ?_
                     cbv
                     refine fadd_s h (l := 900) (hM.r.le (by omega)) (km.r.le (by omega)) (by omega) fun o1 o2 o3 o4 ko => ?_
                     rw [hpx] at kn
                     rw [hpy] at ko
                     clear hO hM km kf
                     cbv
                     (repeat (first | (refine Good.len' ‹_› ?_; intro _ _; cbv) | ((first | refine Good.add' ‹_› ?_ ?_ | refine Good.sub' ‹_› ?_ ?_ | refine Good.mul' ‹_› ?_ ?_); (· (first | omega | (simp only [inR, cmpP, loOk, hiOk, Int.ofNat_eq_natCast, Int.negSucc_eq, IntKind.bits, Int.toNat_natCast, ge_iff_le, gt_iff_lt, ne_eq, wl_len, hl_len, natCast_fold, not_true_eq_false, not_false_eq_true] at * <;> omega))); intro _ _; cbv) | ((first | (refine Good.yes ‹_› ?_ ?_; (· (first | omega | (simp only [inR, cmpP, loOk, hiOk, Int.ofNat_eq_natCast, Int.negSucc_eq, IntKind.bits, Int.toNat_natCast, ge_iff_le, gt_iff_lt, ne_eq, wl_len, hl_len, natCast_fold, not_true_eq_false, not_false_eq_true] at * <;> omega)))) | (refine Good.no ‹_› rfl ?_ ?_; (· (first | omega | (simp only [inR, cmpP, loOk, hiOk, Int.ofNat_eq_natCast, Int.negSucc_eq, IntKind.bits, Int.toNat_natCast, ge_iff_le, gt_iff_lt, ne_eq, wl_len, hl_len, natCast_fold, not_true_eq_false, not_false_eq_true] at * <;> omega)))) | (refine Good.convi ‹_› ?_ ?_; (· (first | omega | (simp only [inR, cmpP, loOk, hiOk, Int.ofNat_eq_natCast, Int.negSucc_eq, IntKind.bits, Int.toNat_natCast, ge_iff_le, gt_iff_lt, ne_eq, wl_len, hl_len, natCast_fold, not_true_eq_false, not_false_eq_true] at * <;> omega))))); cbv) | (refine Good.chk' ‹_› rfl ?_; cbv)))
                     rename_i j1 hj1
                     refine hR _ ((j1, j + 1), (n1, n2, n3, n4), (o1, o2, o3, o4)) ⟨by simp only; (first | omega | (simp only [inR, cmpP, loOk, hiOk, Int.ofNat_eq_natCast, Int.negSucc_eq, IntKind.bits, Int.toNat_natCast, ge_iff_le, gt_iff_lt, ne_eq, wl_len, hl_len, natCast_fold, not_true_eq_false, not_false_eq_true] at * <;> omega)), by simp only; (first | omega | (simp only [inR, cmpP, loOk, hiOk, Int.ofNat_eq_natCast, Int.negSucc_eq, IntKind.bits, Int.toNat_natCast, ge_iff_le, gt_iff_lt, ne_eq, wl_len, hl_len, natCast_fold, not_true_eq_false, not_false_eq_true] at * <;> omega)), .inr hxl, hst, kn, hb3, ko, hb4⟩ (by simp only; (first | omega | (simp only [inR, cmpP, loOk, hiOk, Int.ofNat_eq_natCast, Int.negSucc_eq, IntKind.bits, Int.toNat_natCast, ge_iff_le, gt_iff_lt, ne_eq, wl_len, hl_len, natCast_fold, not_true_eq_false, not_false_eq_true] at * <;> omega))) (by (refine Wk.of [(15, some 15), (16, some 16), (20, some 20), (21, some 21)] rfl ?_ ?_; (· (repeat (first | exact trivial | (refine And.intro ?_ ?_; (· first | exact trivial | exact Or.inl ⟨_, rfl, rfl⟩ | exact ⟨_, rfl, rfl⟩ | exact Or.inr ⟨rfl, rfl, by decide⟩))))); (· (repeat (first | exact trivial | (refine And.intro ?_ ?_; (· first | exact trivial | exact Or.inl rfl | rfl | exact Or.inr ⟨_, _, _, _, rfl, rfl, rfl, renNo rfl⟩ | exact ⟨ne_no rfl, Or.inl ⟨_, rfl, rfl⟩⟩ | exact ⟨ne_no rfl, Or.inr ⟨rfl, _, rfl⟩⟩ | exact ⟨_, rfl, rfl, ne_no rfl⟩)))))))
             · have hj2 : j = xs.length := by (first | omega | (simp only [inR, cmpP, loOk, hiOk, Int.ofNat_eq_natCast, Int.negSucc_eq, IntKind.bits, Int.toNat_natCast, ge_iff_le, gt_iff_lt, ne_eq, wl_len, hl_len, natCast_fold, not_true_eq_false, not_false_eq_true] at * <;> omega))
               have hfin : psum (gR xs) j = psum (gR A.taken) us.length → psum (cstF us A.taken) us.length ≤ psum (cstF us xs) j := fun hh => by
                 rcases hle2 with h0 | h0
                 · have hnil : xs = [] := List.eq_nil_of_length_eq_zero (by omega)
                   subst hnil
                   have e1 : ∀ f : Nat → Rat, psum f j = 0 := fun f => by rw [h0]; rfl
                   rw [e1] at hh ⊢
                   have e2 : ∀ i, gR [] i = 0 := fun i => by unfold gR; rfl
                   have := hcost (x := []) (fun i hi => ⟨by rw [e2]; exact Rat.le_refl, by rw [e2]; exact rho_ge' i hi⟩) (by rw [psum_zero fun i _ => e2 i]; exact hh)
                   refine Rat.le_trans this ?_
                   rw [psum_zero fun i _ => by unfold cstF; rw [e2]; grind]
                   exact Rat.le_refl
                 · have e : j = us.length := by omega
                   rw [e] at hh hxx ⊢
                   exact hcost hxx hh
               clear hR hcost hxx hroom hou hrs hxs
               cbv
               refine fequal_s h (l := 900) (hO.r.le (by omega)) (hS.r.le (by omega)) (by omega) fun c6 hc6 => ?_
               cases c6
               · cbv
                 (repeat (first | (refine Good.len' ‹_› ?_; intro _ _; cbv) | ((first | refine Good.add' ‹_› ?_ ?_ | refine Good.sub' ‹_› ?_ ?_ | refine Good.mul' ‹_› ?_ ?_); (· (first | omega | (simp only [inR, cmpP, loOk, hiOk, Int.ofNat_eq_natCast, Int.negSucc_eq, IntKind.bits, Int.toNat_natCast, ge_iff_le, gt_iff_lt, ne_eq, wl_len, hl_len, natCast_fold, not_true_eq_false, not_false_eq_true] at * <;> omega))); intro _ _; cbv) | ((first | (refine Good.yes ‹_› ?_ ?_; (· (first | omega | (simp only [inR, cmpP, loOk, hiOk, Int.ofNat_eq_natCast, Int.negSucc_eq, IntKind.bits, Int.toNat_natCast, ge_iff_le, gt_iff_lt, ne_eq, wl_len, hl_len, natCast_fold, not_true_eq_false, not_false_eq_true] at * <;> omega)))) | (refine Good.no ‹_› rfl ?_ ?_; (· (first | omega | (simp only [inR, cmpP, loOk, hiOk, Int.ofNat_eq_natCast, Int.negSucc_eq, IntKind.bits, Int.toNat_natCast, ge_iff_le, gt_iff_lt, ne_eq, wl_len, hl_len, natCast_fold, not_true_eq_false, not_false_eq_true] at * <;> omega)))) | (refine Good.convi ‹_› ?_ ?_; (· (first | omega | (simp only [inR, cmpP, loOk, hiOk, Int.ofNat_eq_natCast, Int.negSucc_eq, IntKind.bits, Int.toNat_natCast, ge_iff_le, gt_iff_lt, ne_eq, wl_len, hl_len, natCast_fold, not_true_eq_false, not_false_eq_true] at * <;> omega))))); cbv) | (refine Good.chk' ‹_› rfl ?_; cbv)))
                 exact hQ
               · have hfin2 := hfin (of_decide_eq_true hc6.symm)
                 cbv
                 refine fcmp_s h (l := 900) (hM.r.le (by omega)) (hC.r.le (by omega)) (by omega) fun c7 hc7 => ?_
                 have hc70 : 0 ≤ c7 := by
                   rw [hc7]
                   rcases sgnQ_cases (psum (cstF us xs) j - psum (cstF us A.taken) us.length) with ⟨k, _⟩ | ⟨_, k⟩ | ⟨_, k⟩
                   · exfalso; grind
                   · omega
                   · omega
                 clear hc7 hc6 hfin hfin2
                 cbv
                 (repeat (first | (refine Good.len' ‹_› ?_; intro _ _; cbv) | ((first | refine Good.add' ‹_› ?_ ?_ | refine Good.sub' ‹_› ?_ ?_ | refine Good.mul' ‹_› ?_ ?_); (· (first | omega | (simp only [inR, cmpP, loOk, hiOk, Int.ofNat_eq_natCast, Int.negSucc_eq, IntKind.bits, Int.toNat_natCast, ge_iff_le, gt_iff_lt, ne_eq, wl_len, hl_len, natCast_fold, not_true_eq_false, not_false_eq_true] at * <;> omega))); intro _ _; cbv) | ((first | (refine Good.yes ‹_› ?_ ?_; (· (first | omega | (simp only [inR, cmpP, loOk, hiOk, Int.ofNat_eq_natCast, Int.negSucc_eq, IntKind.bits, Int.toNat_natCast, ge_iff_le, gt_iff_lt, ne_eq, wl_len, hl_len, natCast_fold, not_true_eq_false, not_false_eq_true] at * <;> omega)))) | (refine Good.no ‹_› rfl ?_ ?_; (· (first | omega | (simp only [inR, cmpP, loOk, hiOk, Int.ofNat_eq_natCast, Int.negSucc_eq, IntKind.bits, Int.toNat_natCast, ge_iff_le, gt_iff_lt, ne_eq, wl_len, hl_len, natCast_fold, not_true_eq_false, not_false_eq_true] at * <;> omega)))) | (refine Good.convi ‹_› ?_ ?_; (· (first | omega | (simp only [inR, cmpP, loOk, hiOk, Int.ofNat_eq_natCast, Int.negSucc_eq, IntKind.bits, Int.toNat_natCast, ge_iff_le, gt_iff_lt, ne_eq, wl_len, hl_len, natCast_fold, not_true_eq_false, not_false_eq_true] at * <;> omega))))); cbv) | (refine Good.chk' ‹_› rfl ?_; cbv)))
                 exact hQ
            )
      · obtain ⟨e, hee⟩ : ∃ e, e = fillE us os rs need := ⟨_, rfl⟩
        rw [← hee] at e0 ⊢
        clear hee
        cbv
        (repeat (first | (refine Good.len' ‹_› ?_; intro _ _; cbv) | ((first | refine Good.add' ‹_› ?_ ?_ | refine Good.sub' ‹_› ?_ ?_ | refine Good.mul' ‹_› ?_ ?_); (· (first | omega | (simp only [inR, cmpP, loOk, hiOk, Int.ofNat_eq_natCast, Int.negSucc_eq, IntKind.bits, Int.toNat_natCast, ge_iff_le, gt_iff_lt, ne_eq, wl_len, hl_len, natCast_fold, not_true_eq_false, not_false_eq_true] at * <;> omega))); intro _ _; cbv) | ((first | (refine Good.yes ‹_› ?_ ?_; (· (first | omega | (simp only [inR, cmpP, loOk, hiOk, Int.ofNat_eq_natCast, Int.negSucc_eq, IntKind.bits, Int.toNat_natCast, ge_iff_le, gt_iff_lt, ne_eq, wl_len, hl_len, natCast_fold, not_true_eq_false, not_false_eq_true] at * <;> omega)))) | (refine Good.no ‹_› rfl ?_ ?_; (· (first | omega | (simp only [inR, cmpP, loOk, hiOk, Int.ofNat_eq_natCast, Int.negSucc_eq, IntKind.bits, Int.toNat_natCast, ge_iff_le, gt_iff_lt, ne_eq, wl_len, hl_len, natCast_fold, not_true_eq_false, not_false_eq_true] at * <;> omega)))) | (refine Good.convi ‹_› ?_ ?_; (· (first | omega | (simp only [inR, cmpP, loOk, hiOk, Int.ofNat_eq_natCast, Int.negSucc_eq, IntKind.bits, Int.toNat_natCast, ge_iff_le, gt_iff_lt, ne_eq, wl_len, hl_len, natCast_fold, not_true_eq_false, not_false_eq_true] at * <;> omega))))); cbv) | (refine Good.chk' ‹_› rfl ?_; cbv)))
        exact hQ
end Go.Proofs.YtpmlocilhhjifaaGreat.Eng
