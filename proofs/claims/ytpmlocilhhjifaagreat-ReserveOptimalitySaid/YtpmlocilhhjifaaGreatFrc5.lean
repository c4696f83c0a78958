/- Package frac: the other functions. -/
import Derived.Test.YtpmlocilhhjifaaGreatFrc4
set_option maxRecDepth 100000
set_option linter.unusedSimpArgs false
set_option linter.unusedVariables false
set_option pp.maxSteps 200
namespace Go.Proofs.YtpmlocilhhjifaaGreat.Eng
open Go.RowKit Go.Proofs
theorem ql_div {n d : Int} {l : Nat} (hd : 0 < d) (h1 : (dg BW n.natAbs).length ≤ l) (h2 : (dg BW d.natAbs).length ≤ l) : ql (Rat.divInt n d) ≤ l := by
  have hg := gcd_pos (n := n) hd
  have e1 := Int.ediv_mul_cancel (Int.gcd_dvd_left n d)
  have e2 := divInt_den (n := n) hd
  have k1 : (Rat.divInt n d).num.natAbs ≤ n.natAbs := by
    rw [divInt_num hd]
    have : n.natAbs = (n / (Int.gcd n d : Int)).natAbs * (Int.gcd n d) := by
      conv => lhs; rw [← e1]
      rw [Int.natAbs_mul, Int.natAbs_natCast]
    rw [this]
    exact Nat.le_mul_of_pos_right _ (by omega)
  have k2 : (Rat.divInt n d).den ≤ d.natAbs := by
    have h1 : d / (Int.gcd n d : Int) ≤ d := Int.ediv_le_self _ (by omega)
    omega
  have := dg_len_mono BW2 k1
  have := dg_len_mono BW2 k2
  unfold ql
  omega
theorem Qr.ql {b : Bool} {z : List (List D)} {b' : Bool} {z' : List (List D)} {q : Rat} {l : Nat} (h : Qr b z b' z' q l) : ql q ≤ max l 1 := by
  obtain ⟨i, j, h1, h2, rfl⟩ := h
  have e1 := h1.len
  have e2 := h2.len
  refine ql_div (qd_pos j) ?_ ?_
  · unfold qn
    split
    · rw [Int.natAbs_neg]; omega
    · omega
  · unfold qd
    split
    · exact Nat.le_trans (dg_len BW2 (by rw [Nat.pow_one]; exact BW2)) (Nat.le_max_right _ _)
    · rw [Int.natAbs_natCast]; omega
theorem den_pos (p : Rat) : 0 < (p.den : Int) := by have := p.den_nz; omega
theorem ql_add (p q : Rat) : ql (p + q) ≤ ql p + ql q + 1 := by
  have m1 := ll_mul p.num q.den
  have m2 := ll_mul q.num p.den
  have m3 := ll_mul p.den q.den
  have m4 := ll_add (p.num * q.den) (q.num * p.den)
  rw [Int.natAbs_natCast] at m1 m2
  rw [Int.natAbs_natCast, Int.natAbs_natCast] at m3
  have h1 := den_pos p
  have h2 := den_pos q
  have e : p + q = Rat.divInt (p.num * q.den + q.num * p.den) (p.den * q.den) := by rw [← Rat.divInt_add_divInt _ _ (by omega) (by omega), Rat.num_divInt_den, Rat.num_divInt_den]
  rw [e]
  refine ql_div (Int.mul_pos h1 h2) ?_ ?_ <;> unfold ql <;> omega
theorem ql_neg (p : Rat) : ql (-p) = ql p := by unfold ql; rw [Rat.neg_num, Rat.neg_den, Int.natAbs_neg]
theorem ql_sub (p q : Rat) : ql (p - q) ≤ ql p + ql q + 1 := by
  rw [Rat.sub_eq_add_neg]
  have := ql_add p (-q)
  rwa [ql_neg] at this
theorem ql_mul (p q : Rat) : ql (p * q) ≤ ql p + ql q := by
  have m1 := ll_mul p.num q.num
  have m3 := ll_mul p.den q.den
  rw [Int.natAbs_natCast, Int.natAbs_natCast] at m3
  have h1 := den_pos p
  have h2 := den_pos q
  have e : p * q = Rat.divInt (p.num * q.num) (p.den * q.den) := by rw [← Rat.divInt_mul_divInt, Rat.num_divInt_den, Rat.num_divInt_den]
  rw [e]
  refine ql_div (Int.mul_pos h1 h2) ?_ ?_ <;> unfold ql <;> omega
theorem floor_div {n d : Int} (hd : 0 < d) : (Rat.divInt n d).floor = n / d := by
  have hg := gcd_pos (n := n) hd
  rw [Rat.floor_def, divInt_num hd, divInt_den hd]
  have e1 := Int.ediv_mul_cancel (Int.gcd_dvd_left n d)
  have e2 := Int.ediv_mul_cancel (Int.gcd_dvd_right n d)
  have := Int.mul_ediv_mul_of_pos (n / (Int.gcd n d : Int)) (d / (Int.gcd n d : Int)) hg
  rw [Int.mul_comm, e1, Int.mul_comm (Int.gcd n d : Int), e2] at this
  exact this.symm
theorem floor_len (p : Rat) : (dg BW p.floor.natAbs).length ≤ ql p + 2 := by
  rw [Rat.floor_def]
  have h1 : (p.num / p.den).natAbs ≤ p.num.natAbs + 1 := by
    have hd := den_pos p
    have e := Int.mul_ediv_add_emod p.num p.den
    have h0 := Int.emod_nonneg p.num (show (p.den : Int) ≠ 0 by omega)
    have hlt := Int.emod_lt_of_pos p.num hd
    rcases Int.lt_or_le (p.num / p.den) 0 with h | h
    · have := Int.mul_le_mul_of_nonneg_right (show (1 : Int) ≤ p.den by omega) (show (0 : Int) ≤ -(p.num / p.den) - 1 by omega)
      rw [Int.one_mul, Int.mul_sub, Int.mul_neg] at this
      omega
    · have := Int.mul_le_mul_of_nonneg_right (show (1 : Int) ≤ p.den by omega) h
      rw [Int.one_mul] at this
      omega
  have := Nat.le_trans (dg_len_mono BW2 h1) (dg_len_add BW2 _ _)
  have h2 : (dg BW 1).length ≤ 1 := dg_len BW2 (by rw [Nat.pow_one]; exact BW2)
  unfold ql
  omega
theorem zero_qr : Qr false [] false [] 0 0 := ⟨0, 0, ⟨[], rfl, Ok.nil, Nat.le_refl _, rfl⟩, ⟨[], rfl, Ok.nil, Nat.le_refl _, rfl⟩, by
  unfold qv qn qd
  rw [if_neg (by decide), if_pos rfl, Rat.zero_divInt]⟩
/-- An integer as a rational. -/
theorem int_qc {b : Bool} {z : List (List D)} {n : Int} (h : Zc b z n) : Qc b z false [] (n : Rat) := by
  refine ⟨by rw [Rat.num_intCast]; exact h, ?_⟩
  rw [if_pos (Rat.den_intCast n)]
  exact ⟨rfl, rfl⟩
theorem int_qr {b : Bool} {z : List (List D)} {n : Int} {l : Nat} (h : Zr b z n l) : Qr b z false [] (n : Rat) l := ⟨n, 0, h, ⟨[], rfl, Ok.nil, Nat.zero_le _, rfl⟩, by
  have := qv_canon (n : Rat)
  rw [Rat.num_intCast, Rat.den_intCast, if_pos rfl] at this
  exact this.symm⟩
variable {s1 s2 s3 s4 : Bool} {t1 t2 t3 t4 : Nat} {x1 x2 x3 x4 : List (List D)} {p q : Rat} {l : Nat} {b b' : Bool} {zs zs' : List (List D)}
theorem fequal_c (ha : Qr s1 x1 s2 x2 p l) (hb : Qr s3 x3 s4 x4 q l) (hl : l ≤ 1000) {c : Bool} (hc : c = decide (p = q)) : TT 16 [qa s1 t1 x1 s2 t2 x2, qa s3 t3 x3 s4 t4 x4] [.one (.sc (.bool c))] := by
  refine con Tryz.func16 rfl (by kernel_rfl) (by kernel_rfl) fun π Q h hQ => ?_
  cbv
  refine h.call' _ (fcmp_c (c := sgnQ (p - q)) ha hb hl rfl) ?_
  obtain ⟨c', hc'⟩ : ∃ c', c' = sgnQ (p - q) := ⟨_, rfl⟩
  rw [← hc']
  have d := sgnQ_cases (p - q)
  have e : p - q = 0 ↔ p = q := by grind
  cbv
  refine h.dec rfl (fun hp => ?_) (fun hp => ?_)
  · have : c = true := by
      rw [hc, decide_eq_true_eq, ← e]
      have hp : c' = 0 := by (simp only [inR, cmpP, loOk, hiOk, Int.ofNat_eq_natCast, Int.negSucc_eq, IntKind.bits, Int.toNat_natCast, ge_iff_le, gt_iff_lt, ne_eq, wl_len, hl_len, natCast_fold, not_true_eq_false, not_false_eq_true] at * <;> omega)
      rcases d with ⟨_, h⟩ | ⟨h, _⟩ | ⟨_, h⟩
      · omega
      · exact h
      · omega
    rw [this] at hQ
    cbv
    skip
    exact hQ
  · have : c = false := by
      rw [hc, decide_eq_false_iff_not, ← e]
      intro h0
      rw [h0] at hc'
      have : c' = 0 := hc'
      (simp only [inR, cmpP, loOk, hiOk, Int.ofNat_eq_natCast, Int.negSucc_eq, IntKind.bits, Int.toNat_natCast, ge_iff_le, gt_iff_lt, ne_eq, wl_len, hl_len, natCast_fold, not_true_eq_false, not_false_eq_true] at * <;> omega)
    rw [this] at hQ
    cbv
    skip
    exact hQ
theorem fmin_c (ha : Qr s1 x1 s2 x2 p l) (hb : Qr s3 x3 s4 x4 q l) (hl : l ≤ 1000) (hq : Qc b zs b' zs' (if sgnQ (p - q) ≤ 0 then p else q)) : TT 39 [qa s1 t1 x1 s2 t2 x2, qa s3 t3 x3 s4 t4 x4] [qa b 1 zs b' 1 zs'] := by
  refine con Tryz.func39 rfl (by kernel_rfl) (by kernel_rfl) fun π Q h hQ => ?_
  cbv
  refine h.call' _ (fcmp_c (c := sgnQ (p - q)) ha hb hl rfl) ?_
  obtain ⟨c', hc'⟩ : ∃ c', c' = sgnQ (p - q) := ⟨_, rfl⟩
  rw [← hc'] at hq ⊢
  cbv
  refine h.dec rfl (fun hp => ?_) (fun hp => ?_)
  · rw [if_pos (by (simp only [inR, cmpP, loOk, hiOk, Int.ofNat_eq_natCast, Int.negSucc_eq, IntKind.bits, Int.toNat_natCast, ge_iff_le, gt_iff_lt, ne_eq, wl_len, hl_len, natCast_fold, not_true_eq_false, not_false_eq_true] at * <;> omega))] at hq
    cbv
    refine h.call' _ (fcanon_c ha hl hq) ?_
    cbv
    skip
    exact hQ
  · rw [if_neg (by (simp only [inR, cmpP, loOk, hiOk, Int.ofNat_eq_natCast, Int.negSucc_eq, IntKind.bits, Int.toNat_natCast, ge_iff_le, gt_iff_lt, ne_eq, wl_len, hl_len, natCast_fold, not_true_eq_false, not_false_eq_true] at * <;> omega))] at hq
    cbv
    refine h.call' _ (fcanon_c hb hl hq) ?_
    cbv
    skip
    exact hQ
theorem ffromInt_c {n : Int} (hn : inR .i64 n) (hz : Zc b zs n) : TT 14 [.one (.sc (.int .i64 n))] [qa b 1 zs false 1 []] := by
  refine con Tryz.func14 rfl (by kernel_rfl) (by kernel_rfl) fun π Q h hQ => ?_
  cbv
  refine fromInt64_s h hn fun _ _ w1 => ?_
  obtain ⟨rfl, rfl⟩ := w1.uni hz
  cbv
  skip
  exact hQ
end Go.Proofs.YtpmlocilhhjifaaGreat.Eng
