/- Chapter 2: Format, parted, IsCanonical, New, Parse where it refuses. -/
import Derived.Test.YtpmlocilhhjifaaRfc2
import Derived.Test.YtpmlocilhhjifaaLaw2
import Derived.Test.YtpmlocilhhjifaaFl0
section
set_option maxRecDepth 100000
set_option linter.unusedSimpArgs false
set_option linter.unusedVariables false
set_option pp.maxSteps 200
namespace Go.Proofs.Ytpmlocilhhjifaa.Eng
open Go.RowKit Go.Proofs
variable {s1 s2 s3 s4 : Bool} {t1 t2 t3 t4 : Nat} {x1 x2 x3 x4 : List (List D)} {p q : Rat} {l : Nat} {b b' : Bool} {zs zs' : List (List D)} {i j i' j' n d : Int}
theorem can_iff {ws : List Nat} (ho : Ok BW ws) : (dg BW (val BW ws)).length = ws.length ↔ ws = dg BW (val BW ws) := by
  refine ⟨fun h => ?_, fun h => by rw [← h]⟩
  have h1 := pd_of BW0 ho
  have h2 := pd_of BW0 (dg_ok BW2 (val BW ws))
  rw [dg_val BW2, h, h1] at h2
  exact h2
theorem canon_eq {s : Bool} {ws : List Nat} (ho : Ok BW ws) : (decide ((dg BW (val BW ws)).length = ws.length) && (!s || decide (ws.length > 0))) = decide (s = decide (sg s (val BW ws) < 0) ∧ ws = dg BW (sg s (val BW ws)).natAbs) := by
  rw [sg_natAbs]
  by_cases hw : ws = dg BW (val BW ws)
  · have hl := (can_iff ho).2 hw
    have hp : ws.length > 0 ↔ 0 < val BW ws := by
      rw [gt_iff_lt, List.length_pos_iff]
      constructor
      · intro h
        refine Nat.pos_of_ne_zero fun h0 => h ?_
        rw [hw, h0]; rfl
      · rintro h rfl
        simp [val] at h
    simp only [hl, decide_true, Bool.true_and]
    cases s
    · have : ¬ (sg false (val BW ws) < 0) := by rw [sg_f]; omega
      simp [this, ← hw]
    · by_cases h0 : 0 < val BW ws
      · have h1 : sg true (val BW ws) < 0 := by rw [sg_t]; omega
        have h2 := hp.2 h0
        simp [h1, ← hw, h2]
      · have h1 : ¬ (sg true (val BW ws) < 0) := by rw [sg_t]; omega
        have h2 : ¬ ws.length > 0 := fun h => h0 (hp.1 h)
        simp only [h1, h2, decide_false]
        simp
  · have hl : ¬ (dg BW (val BW ws)).length = ws.length := fun h => hw ((can_iff ho).1 h)
    simp [hl, hw]
theorem isCanonical_s {π : Pi} (h : Good TT π) {K : List DV → Prop} {t : Nat} {s : Bool} {xs : List (List D)} {ws : List Nat} (hx : xs = wl ws) (ho : Ok BW ws) (hl : ws.length ≤ 1000000) (hk : ∀ c, c = (decide ((dg BW (val BW ws)).length = ws.length) && (!s || decide (ws.length > 0))) → K [.one (.sc (.bool c))]) : π.call 41 [za s t xs] K := h.call' _ (isCanonical_c hx ho hl rfl) (hk _ rfl)
theorem bs_take (l : List UInt8) (k : Nat) : (bs l).extract 0 k = bs (l.take k) := by
  apply ByteArray.ext
  rw [ByteArray.data_extract]
  apply Array.ext'
  rw [Array.toList_extract]
  show l.extract 0 k = l.take k
  rw [List.extract_eq_take_drop]
  simp
def fmtQ (p : Rat) : List UInt8 := if p.den = 1 then fmtL p.num else fmtL p.num ++ 47 :: fmtL (p.den : Int)
theorem fmtL_len (i : Int) (h : (dg BW i.natAbs).length ≤ 1000) : (fmtL i).length ≤ 100000 := by
  have := dec_len h
  unfold fmtL
  split
  · rw [List.length_cons]; omega
  · omega
theorem fformat_c (ha : Qr s1 x1 s2 x2 p l) (hl : l ≤ 500) {st : ByteArray} (hs : st = bs (fmtQ p)) : TT 137 [qa s1 t1 x1 s2 t2 x2] [.one (.sc (.string st))] := by
  obtain ⟨c1, z1, c2, z2, hp⟩ := qcx p
  have h1 := ha.ql
  have h2 := jq_len p
  have h3 := num_len p
  have d1 := sgnV_cases (jq p)
  have hd := den_pos p
  refine con Try.func137 rfl (by kernel_rfl) (by kernel_rfl) fun π Q h hQ => ?_
  cbv
  refine h.call' _ (fcanon_c ha (by omega) hp) ?_
  cbv
  skip
  refine sign_s h hp.snd.r (by omega) fun c hc => ?_
  cbv
  refine h.dec rfl (fun hc0 => ?_) (fun hc0 => ?_)
  · have e : p.den = 1 := by
      have e0 : jq p = 0 := by (simp only [inR, cmpP, loOk, hiOk, Int.ofNat_eq_natCast, Int.negSucc_eq, IntKind.bits, Int.toNat_natCast, ge_iff_le, gt_iff_lt, ne_eq, wl_len, hl_len, natCast_fold, not_true_eq_false, not_false_eq_true] at * <;> omega)
      refine Decidable.byContradiction fun hh => ?_
      have e1 : jq p = (p.den : Int) := if_neg hh
      exact absurd (e1.symm.trans e0) (Int.ne_of_gt hd)
    cbv
    skip
    refine format_s h hp.1.r (by omega) fun st1 h1 => ?_
    have : st1 = st := by rw [h1, hs, fmtQ, if_pos e]
    subst this
    cbv
    skip
    exact hQ
  · have e : p.den ≠ 1 := fun e => by
      have : jq p = 0 := by unfold jq; rw [if_pos e]
      (simp only [inR, cmpP, loOk, hiOk, Int.ofNat_eq_natCast, Int.negSucc_eq, IntKind.bits, Int.toNat_natCast, ge_iff_le, gt_iff_lt, ne_eq, wl_len, hl_len, natCast_fold, not_true_eq_false, not_false_eq_true] at * <;> omega)
    have ej : jq p = (p.den : Int) := by unfold jq; rw [if_neg e]
    cbv
    skip
    refine format_s h hp.1.r (by omega) fun st1 g1 => ?_
    have k1 := fmtL_len p.num (by omega)
    have k2 := fmtL_len (jq p) (by omega)
    cbv
    refine h.scat' (by rw [g1, bs_size]; show (fmtL p.num).length + 1 ≤ maxLen; simp only [maxLen]; omega) fun st2 g2 => ?_
    cbv
    skip
    refine format_s h hp.snd.r (by omega) fun st3 g3 => ?_
    cbv
    refine h.scat' (by rw [g2, g3, g1, show (⟨#[47]⟩ : ByteArray) = bs [47] from rfl, bs_app, bs_size, bs_size]; simp [maxLen]; omega) fun st4 g4 => ?_
    have : st4 = st := by
      rw [g4, g3, g2, g1, hs, fmtQ, if_neg e, ej, show (⟨#[47]⟩ : ByteArray) = bs [47] from rfl, bs_app, bs_app]
      simp
    subst this
    cbv
    (refine Good.chk' ‹_› rfl ?_; cbv)
    exact hQ
end Go.Proofs.Ytpmlocilhhjifaa.Eng
end
section
set_option maxRecDepth 100000
set_option linter.unusedSimpArgs false
set_option linter.unusedVariables false
set_option pp.maxSteps 200
namespace Go.Proofs.Ytpmlocilhhjifaa.Eng
open Go.RowKit Go.Proofs
variable {π : Pi} (h : Good TT π) {K : List DV → Prop} {s1 s2 s3 s4 : Bool} {t1 t2 t3 t4 : Nat} {x1 x2 x3 x4 : List (List D)} {p q : Rat} {l : Nat}
include h
theorem fadd_s (ha : Qr s1 x1 s2 x2 p l) (hb : Qr s3 x3 s4 x4 q l) (hl : l ≤ 1000) (hk : ∀ b z b' z', Qc b z b' z' (p + q) → K [qa b 1 z b' 1 z']) : π.call 95 [qa s1 t1 x1 s2 t2 x2, qa s3 t3 x3 s4 t4 x4] K := by
  obtain ⟨_, _, _, _, hc⟩ := qcx (p + q)
  exact h.call' _ (fadd_c ha hb hl hc) (hk _ _ _ _ hc)
theorem fsub_s (ha : Qr s1 x1 s2 x2 p l) (hb : Qr s3 x3 s4 x4 q l) (hl : l ≤ 1000) (hk : ∀ b z b' z', Qc b z b' z' (p - q) → K [qa b 1 z b' 1 z']) : π.call 91 [qa s1 t1 x1 s2 t2 x2, qa s3 t3 x3 s4 t4 x4] K := by
  obtain ⟨_, _, _, _, hc⟩ := qcx (p - q)
  exact h.call' _ (fsub_c ha hb hl hc) (hk _ _ _ _ hc)
theorem fmul_s (ha : Qr s1 x1 s2 x2 p l) (hb : Qr s3 x3 s4 x4 q l) (hl : l ≤ 1000) (hk : ∀ b z b' z', Qc b z b' z' (p * q) → K [qa b 1 z b' 1 z']) : π.call 97 [qa s1 t1 x1 s2 t2 x2, qa s3 t3 x3 s4 t4 x4] K := by
  obtain ⟨_, _, _, _, hc⟩ := qcx (p * q)
  exact h.call' _ (fmul_c ha hb hl hc) (hk _ _ _ _ hc)
theorem fcanon_s (ha : Qr s1 x1 s2 x2 p l) (hl : l ≤ 1000) (hk : ∀ b z b' z', Qc b z b' z' (p) → K [qa b 1 z b' 1 z']) : π.call 60 [qa s1 t1 x1 s2 t2 x2] K := by
  obtain ⟨_, _, _, _, hc⟩ := qcx (p)
  exact h.call' _ (fcanon_c ha hl hc) (hk _ _ _ _ hc)
theorem fneg_s (ha : Qr s1 x1 s2 x2 p l) (hl : l ≤ 1000) (hk : ∀ b z b' z', Qc b z b' z' (-p) → K [qa b 1 z b' 1 z']) : π.call 94 [qa s1 t1 x1 s2 t2 x2] K := by
  obtain ⟨_, _, _, _, hc⟩ := qcx (-p)
  exact h.call' _ (fneg_c ha hl hc) (hk _ _ _ _ hc)
theorem fmin_s (ha : Qr s1 x1 s2 x2 p l) (hb : Qr s3 x3 s4 x4 q l) (hl : l ≤ 1000) (hk : ∀ b z b' z', Qc b z b' z' (if sgnQ (p - q) ≤ 0 then p else q) → K [qa b 1 z b' 1 z']) : π.call 100 [qa s1 t1 x1 s2 t2 x2, qa s3 t3 x3 s4 t4 x4] K := by
  obtain ⟨_, _, _, _, hc⟩ := qcx (if sgnQ (p - q) ≤ 0 then p else q)
  exact h.call' _ (fmin_c ha hb hl hc) (hk _ _ _ _ hc)
theorem fmax_s (ha : Qr s1 x1 s2 x2 p l) (hb : Qr s3 x3 s4 x4 q l) (hl : l ≤ 1000) (hk : ∀ b z b' z', Qc b z b' z' (if sgnQ (p - q) > 0 then p else q) → K [qa b 1 z b' 1 z']) : π.call 101 [qa s1 t1 x1 s2 t2 x2, qa s3 t3 x3 s4 t4 x4] K := by
  obtain ⟨_, _, _, _, hc⟩ := qcx (if sgnQ (p - q) > 0 then p else q)
  exact h.call' _ (fmax_c ha hb hl hc) (hk _ _ _ _ hc)
theorem fabs_s (ha : Qr s1 x1 s2 x2 p l) (hl : l ≤ 500) (hk : ∀ b z b' z', Qc b z b' z' (if sgnQ (p - -p) > 0 then p else -p) → K [qa b 1 z b' 1 z']) : π.call 90 [qa s1 t1 x1 s2 t2 x2] K := by
  obtain ⟨_, _, _, _, hc⟩ := qcx (if sgnQ (p - -p) > 0 then p else -p)
  exact h.call' _ (fabs_c ha hl hc) (hk _ _ _ _ hc)
theorem fsign_s (ha : Qr s1 x1 s2 x2 p l) (hl : l ≤ 10000) (hk : ∀ c, c = sgnQ p → K [.one (.sc (.int .i64 c))]) : π.call 99 [qa s1 t1 x1 s2 t2 x2] K := h.call' _ (fsign_c ha hl rfl) (hk _ rfl)
theorem fcmp_s (ha : Qr s1 x1 s2 x2 p l) (hb : Qr s3 x3 s4 x4 q l) (hl : l ≤ 1000) (hk : ∀ c, c = sgnQ (p - q) → K [.one (.sc (.int .i64 c))]) : π.call 92 [qa s1 t1 x1 s2 t2 x2, qa s3 t3 x3 s4 t4 x4] K := h.call' _ (fcmp_c ha hb hl rfl) (hk _ rfl)
theorem fequal_s (ha : Qr s1 x1 s2 x2 p l) (hb : Qr s3 x3 s4 x4 q l) (hl : l ≤ 1000) (hk : ∀ c, c = decide (p = q) → K [.one (.sc (.bool c))]) : π.call 96 [qa s1 t1 x1 s2 t2 x2, qa s3 t3 x3 s4 t4 x4] K := h.call' _ (fequal_c ha hb hl rfl) (hk _ rfl)
theorem ffloor_s (ha : Qr s1 x1 s2 x2 p l) (hl : l ≤ 1000) (hk : ∀ b z, Zc b z (p.floor) → K [za b 1 z]) : π.call 66 [qa s1 t1 x1 s2 t2 x2] K := by
  obtain ⟨_, _, hc⟩ := zcx (p.floor)
  exact h.call' _ (ffloor_c ha hl hc) (hk _ _ hc)
theorem fceil_s (ha : Qr s1 x1 s2 x2 p l) (hl : l ≤ 500) (hk : ∀ b z, Zc b z (-(-p).floor) → K [za b 1 z]) : π.call 68 [qa s1 t1 x1 s2 t2 x2] K := by
  obtain ⟨_, _, hc⟩ := zcx (-(-p).floor)
  exact h.call' _ (fceil_c ha hl hc) (hk _ _ hc)
theorem rradd_s (ha : Qr s1 x1 s2 x2 p l) (hb : Qr s3 x3 s4 x4 q l) (hl : l ≤ 1000) (hk : ∀ b z b' z', Qc b z b' z' (p + q) → K [qa b 1 z b' 1 z']) : π.call 103 [qa s1 t1 x1 s2 t2 x2, qa s3 t3 x3 s4 t4 x4] K := by
  obtain ⟨_, _, _, _, hc⟩ := qcx (p + q)
  exact h.call' _ (rradd_c ha hb hl hc) (hk _ _ _ _ hc)
theorem rrsub_s (ha : Qr s1 x1 s2 x2 p l) (hb : Qr s3 x3 s4 x4 q l) (hl : l ≤ 900) (hk : ∀ b z b' z', Qc b z b' z' (p - q) → K [qa b 1 z b' 1 z']) : π.call 104 [qa s1 t1 x1 s2 t2 x2, qa s3 t3 x3 s4 t4 x4] K := by
  obtain ⟨_, _, _, _, hc⟩ := qcx (p - q)
  exact h.call' _ (rrsub_c ha hb hl hc) (hk _ _ _ _ hc)
theorem rrmul_s (ha : Qr s1 x1 s2 x2 p l) (hb : Qr s3 x3 s4 x4 q l) (hl : l ≤ 1000) (hk : ∀ b z b' z', Qc b z b' z' (p * q) → K [qa b 1 z b' 1 z']) : π.call 105 [qa s1 t1 x1 s2 t2 x2, qa s3 t3 x3 s4 t4 x4] K := by
  obtain ⟨_, _, _, _, hc⟩ := qcx (p * q)
  exact h.call' _ (rrmul_c ha hb hl hc) (hk _ _ _ _ hc)
theorem rleast_s (ha : Qr s1 x1 s2 x2 p l) (hl : l ≤ 1000) (hk : ∀ b z b' z', Qc b z b' z' (p) → K [qa b 1 z b' 1 z']) : π.call 61 [qa s1 t1 x1 s2 t2 x2] K := by
  obtain ⟨_, _, _, _, hc⟩ := qcx (p)
  exact h.call' _ (rleast_c ha hl hc) (hk _ _ _ _ hc)
theorem rrneg_s (ha : Qr s1 x1 s2 x2 p l) (hl : l ≤ 1000) (hk : ∀ b z b' z', Qc b z b' z' (-p) → K [qa b 1 z b' 1 z']) : π.call 106 [qa s1 t1 x1 s2 t2 x2] K := by
  obtain ⟨_, _, _, _, hc⟩ := qcx (-p)
  exact h.call' _ (rrneg_c ha hl hc) (hk _ _ _ _ hc)
theorem rrmin_s (ha : Qr s1 x1 s2 x2 p l) (hb : Qr s3 x3 s4 x4 q l) (hl : l ≤ 900) (hk : ∀ b z b' z', Qc b z b' z' (if sgnQ (p - q) ≤ 0 then p else q) → K [qa b 1 z b' 1 z']) : π.call 108 [qa s1 t1 x1 s2 t2 x2, qa s3 t3 x3 s4 t4 x4] K := by
  obtain ⟨_, _, _, _, hc⟩ := qcx (if sgnQ (p - q) ≤ 0 then p else q)
  exact h.call' _ (rrmin_c ha hb hl hc) (hk _ _ _ _ hc)
theorem rrmax_s (ha : Qr s1 x1 s2 x2 p l) (hb : Qr s3 x3 s4 x4 q l) (hl : l ≤ 900) (hk : ∀ b z b' z', Qc b z b' z' (if sgnQ (p - q) ≥ 0 then p else q) → K [qa b 1 z b' 1 z']) : π.call 109 [qa s1 t1 x1 s2 t2 x2, qa s3 t3 x3 s4 t4 x4] K := by
  obtain ⟨_, _, _, _, hc⟩ := qcx (if sgnQ (p - q) ≥ 0 then p else q)
  exact h.call' _ (rrmax_c ha hb hl hc) (hk _ _ _ _ hc)
theorem rrabs_s (ha : Qr s1 x1 s2 x2 p l) (hl : l ≤ 1000) (hk : ∀ b z b' z', Qc b z b' z' (Rat.divInt (p.num.natAbs : Int) p.den) → K [qa b 1 z b' 1 z']) : π.call 107 [qa s1 t1 x1 s2 t2 x2] K := by
  obtain ⟨_, _, _, _, hc⟩ := qcx (Rat.divInt (p.num.natAbs : Int) p.den)
  exact h.call' _ (rrabs_c ha hl hc) (hk _ _ _ _ hc)
theorem rrsign_s (ha : Qr s1 x1 s2 x2 p l) (hl : l ≤ 10000) (hk : ∀ c, c = sgnQ p → K [.one (.sc (.int .i64 c))]) : π.call 110 [qa s1 t1 x1 s2 t2 x2] K := h.call' _ (rrsign_c ha hl rfl) (hk _ rfl)
theorem rrcmp_s (ha : Qr s1 x1 s2 x2 p l) (hb : Qr s3 x3 s4 x4 q l) (hl : l ≤ 900) (hk : ∀ c, c = sgnQ (p - q) → K [.one (.sc (.int .i64 c))]) : π.call 111 [qa s1 t1 x1 s2 t2 x2, qa s3 t3 x3 s4 t4 x4] K := h.call' _ (rrcmp_c ha hb hl rfl) (hk _ rfl)
theorem rrsame_s (ha : Qr s1 x1 s2 x2 p l) (hb : Qr s3 x3 s4 x4 q l) (hl : l ≤ 900) (hk : ∀ c, c = decide (p = q) → K [.one (.sc (.bool c))]) : π.call 112 [qa s1 t1 x1 s2 t2 x2, qa s3 t3 x3 s4 t4 x4] K := h.call' _ (rrsame_c ha hb hl rfl) (hk _ rfl)
theorem rrfloor_s (ha : Qr s1 x1 s2 x2 p l) (hl : l ≤ 1000) (hk : ∀ b z, Zc b z (p.floor) → K [za b 1 z]) : π.call 67 [qa s1 t1 x1 s2 t2 x2] K := by
  obtain ⟨_, _, hc⟩ := zcx (p.floor)
  exact h.call' _ (rrfloor_c ha hl hc) (hk _ _ hc)
theorem rrceil_s (ha : Qr s1 x1 s2 x2 p l) (hl : l ≤ 900) (hk : ∀ b z, Zc b z (-(-p).floor) → K [za b 1 z]) : π.call 69 [qa s1 t1 x1 s2 t2 x2] K := by
  obtain ⟨_, _, hc⟩ := zcx (-(-p).floor)
  exact h.call' _ (rrceil_c ha hl hc) (hk _ _ hc)
theorem ffromInt_s {n : Int} (hn : inR .i64 n) (hk : ∀ b z, Qc b z false [] (n : Rat) → K [qa b 1 z false 1 []]) : π.call 63 [.one (.sc (.int .i64 n))] K := by
  obtain ⟨_, _, hc⟩ := zcx n
  exact h.call' _ (ffromInt_c hn hc) (hk _ _ (int_qc hc))
theorem rrint_s {n : Int} (hn : inR .i64 n) (hk : ∀ b z, Qc b z false [] (n : Rat) → K [qa b 1 z false 1 []]) : π.call 64 [.one (.sc (.int .i64 n))] K := by
  obtain ⟨_, _, hc⟩ := zcx n
  exact h.call' _ (rrint_c hn hc) (hk _ _ (int_qc hc))
theorem rrof_s {n d : Int} (hn : inR .i64 n) (hd : inR .i64 d) (hk : ∀ b z b' z', Qc b z b' z' (qv n d) → K [qa b 1 z b' 1 z']) : π.call 59 [.one (.sc (.int .i64 n)), .one (.sc (.int .i64 d))] K := by
  obtain ⟨_, _, _, _, hc⟩ := qcx (qv n d)
  exact h.call' _ (rrof_c hn hd hc) (hk _ _ _ _ hc)
theorem ffromZ_s {i : Int} (ha : Zr s1 x1 i l) (hl : l ≤ 1000) (hk : ∀ b z b' z', Qc b z b' z' (i : Rat) → K [qa b 1 z b' 1 z']) : π.call 65 [za s1 t1 x1] K := by
  obtain ⟨_, _, _, _, hc⟩ := qcx (i : Rat)
  exact h.call' _ (ffromZ_c ha hl hc) (hk _ _ _ _ hc)
theorem fdiv_s (ha : Qr s1 x1 s2 x2 p l) (hb : Qr s3 x3 s4 x4 q l) (hl : l ≤ 1000) (h0 : q ≠ 0) (hk : ∀ b z b' z', Qc b z b' z' (p / q) → K [qa b 1 z b' 1 z', .one (.sc (.int .i64 0))]) : π.call 98 [qa s1 t1 x1 s2 t2 x2, qa s3 t3 x3 s4 t4 x4] K := by
  obtain ⟨_, _, _, _, hc⟩ := qcx (p / q)
  exact h.call' _ (fdiv_c ha hb hl h0 hc) (hk _ _ _ _ hc)
theorem rrdiv_s (ha : Qr s1 x1 s2 x2 p l) (hb : Qr s3 x3 s4 x4 q l) (hl : l ≤ 900) (h0 : q ≠ 0) (hk : ∀ b z b' z', Qc b z b' z' (p / q) → K [qa b 1 z b' 1 z', .one (.sc (.int .i64 0))]) : π.call 102 [qa s1 t1 x1 s2 t2 x2, qa s3 t3 x3 s4 t4 x4] K := by
  obtain ⟨_, _, _, _, hc⟩ := qcx (p / q)
  exact h.call' _ (rrdiv_c ha hb hl h0 hc) (hk _ _ _ _ hc)
end Go.Proofs.Ytpmlocilhhjifaa.Eng
end
section
set_option maxRecDepth 100000
set_option linter.unusedSimpArgs false
set_option linter.unusedVariables false
set_option pp.maxSteps 200
namespace Go.Proofs.Ytpmlocilhhjifaa.Eng
open Go.RowKit Go.Proofs
variable {s1 s2 s3 s4 : Bool} {t1 t2 t3 t4 : Nat} {x1 x2 x3 x4 : List (List D)} {p q : Rat} {l : Nat} {b b' : Bool} {zs zs' : List (List D)} {i j i' j' n d : Int}
set_option maxHeartbeats 1000000 in
theorem fiscan_c {ws ws' : List Nat} (hx : x1 = wl ws) (hx' : x2 = wl ws') (ho : Ok BW ws) (ho' : Ok BW ws') (hl : ws.length ≤ 400) (hl' : ws'.length ≤ 400) (hi : i = sg s1 (val BW ws)) (hj : j = sg s2 (val BW ws')) {c : Bool}
    (hc : c = decide ((s1 = decide (i < 0) ∧ ws = dg BW i.natAbs) ∧ (s2 = decide (j < 0) ∧ ws' = dg BW j.natAbs) ∧ i = (qv i j).num ∧ j = jq (qv i j))) :
    TT 62 [qa s1 t1 x1 s2 t2 x2] [.one (.sc (.bool c))] := by
  have hz : Zr s1 x1 i 400 := ⟨ws, hx, ho, hl, hi⟩
  have hz' : Zr s2 x2 j 400 := ⟨ws', hx', ho', hl', hj⟩
  have hQr : Qr s1 x1 s2 x2 (qv i j) 400 := ⟨i, j, hz, hz', rfl⟩
  have hcan := canon_eq (s := s1) ho
  have hcan' := canon_eq (s := s2) ho'
  rw [← hi] at hcan
  rw [← hj] at hcan'
  have h1 := hQr.ql
  have h2 := jq_len (qv i j)
  have h3 := num_len (qv i j)
  obtain ⟨p, hp⟩ : ∃ p, p = qv i j := ⟨_, rfl⟩
  rw [← hp] at hQr h1 h2 h3 hc
  refine con Try.func62 rfl (by kernel_rfl) (by kernel_rfl) fun π Q h hQ => ?_
  have g1 := sgnV_cases (i - p.num)
  have g2 := sgnV_cases (j - jq p)
  cbv
  skip
  refine fcanon_s h hQr (by decide) fun c1 z1 c2 z2 hq => ?_
  cbv
  skip
  refine isCanonical_s h hx ho (by omega) fun e1 he1 => ?_
  rw [hcan] at he1
  by_cases k1 : s1 = decide (i < 0) ∧ ws = dg BW i.natAbs
  · have : e1 = true := by rw [he1]; exact decide_eq_true k1
    subst this
    cbv
    skip
    refine isCanonical_s h hx' ho' (by omega) fun e2 he2 => ?_
    rw [hcan'] at he2
    by_cases k2 : s2 = decide (j < 0) ∧ ws' = dg BW j.natAbs
    · have : e2 = true := by rw [he2]; exact decide_eq_true k2
      subst this
      cbv
      skip
      refine cmp2_s h hz hq.1.r (by decide) (by omega) fun m hm => ?_
      cbv
      refine h.dec rfl (fun hm0 => ?_) (fun hm0 => ?_)
      · cbv
        skip
        refine cmp2_s h hz' hq.snd.r (by decide) (by omega) fun m' hm' => ?_
        cbv
        refine h.dec rfl (fun hm1 => ?_) (fun hm1 => ?_)
        · have : c = true := by rw [hc]; exact decide_eq_true ⟨k1, k2, by (simp only [inR, cmpP, loOk, hiOk, Int.ofNat_eq_natCast, Int.negSucc_eq, IntKind.bits, Int.toNat_natCast, ge_iff_le, gt_iff_lt, ne_eq, wl_len, hl_len, natCast_fold, not_true_eq_false, not_false_eq_true] at * <;> omega), by (simp only [inR, cmpP, loOk, hiOk, Int.ofNat_eq_natCast, Int.negSucc_eq, IntKind.bits, Int.toNat_natCast, ge_iff_le, gt_iff_lt, ne_eq, wl_len, hl_len, natCast_fold, not_true_eq_false, not_false_eq_true] at * <;> omega)⟩
          subst this
          cbv
          skip
          exact hQ
        · have : c = false := by rw [hc]; exact decide_eq_false fun hh => by have := hh.2.2.2; (simp only [inR, cmpP, loOk, hiOk, Int.ofNat_eq_natCast, Int.negSucc_eq, IntKind.bits, Int.toNat_natCast, ge_iff_le, gt_iff_lt, ne_eq, wl_len, hl_len, natCast_fold, not_true_eq_false, not_false_eq_true] at * <;> omega)
          subst this
          cbv
          skip
          exact hQ
      · have : c = false := by rw [hc]; exact decide_eq_false fun hh => by have := hh.2.2.1; (simp only [inR, cmpP, loOk, hiOk, Int.ofNat_eq_natCast, Int.negSucc_eq, IntKind.bits, Int.toNat_natCast, ge_iff_le, gt_iff_lt, ne_eq, wl_len, hl_len, natCast_fold, not_true_eq_false, not_false_eq_true] at * <;> omega)
        subst this
        cbv
        skip
        exact hQ
    · have : e2 = false := by rw [he2]; exact decide_eq_false k2
      subst this
      have : c = false := by rw [hc]; exact decide_eq_false fun hh => k2 hh.2.1
      subst this
      cbv
      skip
      exact hQ
  · have : e1 = false := by rw [he1]; exact decide_eq_false k1
    subst this
    have : c = false := by rw [hc]; exact decide_eq_false fun hh => k1 hh.1
    subst this
    cbv
    skip
    exact hQ
/-- A canonical rational is said to be. -/
theorem fiscan_q {π : Pi} (h : Good TT π) {K : List DV → Prop} (ha : Qc s1 x1 s2 x2 p) (hl : ql p ≤ 400) (hk : K [.one (.sc (.bool true))]) : π.call 62 [qa s1 t1 x1 s2 t2 x2] K := by
  have h1 := num_len p
  have h2 := jq_len p
  have hs := ha.snd
  have e1 : ∀ {s : Bool} {x : List (List D)} {i : Int}, Zc s x i → i = sg s (val BW (dg BW i.natAbs)) := fun {s x i} hz => by
    rw [dg_val BW2, hz.1]
    by_cases hi : i < 0
    · simp [hi, sg]; omega
    · simp [hi, sg]; omega
  have eq : qv p.num (jq p) = p := qv_canon p
  refine h.call' _ (fiscan_c (c := true) (i := p.num) (j := jq p) ha.1.2 hs.2 (dg_ok BW2 _) (dg_ok BW2 _) (by omega) (by omega) (e1 ha.1) (e1 hs) ?_) hk
  rw [eq]
  exact (decide_eq_true ⟨⟨ha.1.1, rfl⟩, ⟨hs.1, rfl⟩, rfl, rfl⟩).symm
/-- One that is not. -/
theorem fiscan_n {π : Pi} (h : Good TT π) {K : List DV → Prop} (h1 : Zc s1 x1 i) (h2 : Zc s2 x2 j) (l1 : (dg BW i.natAbs).length ≤ 400) (l2 : (dg BW j.natAbs).length ≤ 400) (hne : ¬ (i = (qv i j).num ∧ j = jq (qv i j))) (hk : K [.one (.sc (.bool false))]) : π.call 62 [qa s1 t1 x1 s2 t2 x2] K := by
  have e1 : ∀ {s : Bool} {x : List (List D)} {i : Int}, Zc s x i → i = sg s (val BW (dg BW i.natAbs)) := fun {s x i} hz => by
    rw [dg_val BW2, hz.1]
    by_cases hi : i < 0
    · simp [hi, sg]; omega
    · simp [hi, sg]; omega
  refine h.call' _ (fiscan_c (c := false) (i := i) (j := j) h1.2 h2.2 (dg_ok BW2 _) (dg_ok BW2 _) l1 l2 (e1 h1) (e1 h2) ?_) hk
  exact (decide_eq_false fun hh => hne hh.2.2).symm
theorem fnew_s {π : Pi} (h : Good TT π) {K : List DV → Prop} (hn : inR .i64 n) (hd : inR .i64 d) (h0 : d ≠ 0) (hk : ∀ b z b' z', Qc b z b' z' (qv n d) → K [qa b 1 z b' 1 z', .one (.sc (.int .i64 0))]) : π.call 57 [.one (.sc (.int .i64 n)), .one (.sc (.int .i64 d))] K := by
  obtain ⟨c1, z1, c2, z2, hq⟩ := qcx (qv n d)
  refine h.call' _ ?_ (hk _ _ _ _ hq)
  have l1 := small_len hn
  have l2 := small_len hd
  refine con Try.func57 rfl (by kernel_rfl) (by kernel_rfl) fun π Q h hQ => ?_
  cbv
  (refine Good.no ‹_› rfl ?_ ?_; (· (simp only [inR, cmpP, loOk, hiOk, Int.ofNat_eq_natCast, Int.negSucc_eq, IntKind.bits, Int.toNat_natCast, ge_iff_le, gt_iff_lt, ne_eq, wl_len, hl_len, natCast_fold, not_true_eq_false, not_false_eq_true] at * <;> omega)); cbv)
  refine fromInt64_s h hn fun _ _ w1 => ?_
  cbv
  skip
  refine fromInt64_s h hd fun _ _ w2 => ?_
  cbv
  skip
  refine h.call' _ (fcanon_c (l := 2) ⟨n, d, w1.r.le l1, w2.r.le l2, rfl⟩ (by decide) hq) ?_
  cbv
  skip
  exact hQ
theorem fnew0_s {π : Pi} (h : Good TT π) {K : List DV → Prop} (hk : K [qa false 1 [] false 1 [], .one (.sc (.int .i64 7))]) : π.call 57 [.one (.sc (.int .i64 n)), .one (.sc (.int .i64 0))] K := by
  refine h.call' _ ?_ hk
  refine con Try.func57 rfl (by kernel_rfl) (by kernel_rfl) fun π Q h hQ => ?_
  cbv
  (refine Good.yes ‹_› ?_ ?_; (· (simp only [inR, cmpP, loOk, hiOk, Int.ofNat_eq_natCast, Int.negSucc_eq, IntKind.bits, Int.toNat_natCast, ge_iff_le, gt_iff_lt, ne_eq, wl_len, hl_len, natCast_fold, not_true_eq_false, not_false_eq_true] at * <;> omega)); cbv)
  exact hQ
end Go.Proofs.Ytpmlocilhhjifaa.Eng
end
section
set_option maxRecDepth 100000
set_option linter.unusedSimpArgs false
set_option linter.unusedVariables false
set_option pp.maxSteps 200
namespace Go.Proofs.Ytpmlocilhhjifaa.Eng
open Go.RowKit Go.Proofs
/-- A rational as it lies in a slice. -/
structure QD where
  s : Bool
  t : Nat
  xs : List (List D)
  s' : Bool
  t' : Nat
  ys : List (List D)
def QD.cell (z : QD) : List D := [.sc (.bool z.s), .sl z.t 1 z.xs, .sc (.bool z.s'), .sl z.t' 1 z.ys]
def QD.long (z : QD) : Bool := decide (6 < z.xs.length ∨ 6 < z.ys.length)
theorem qlong_c {t : Nat} {c : Bool} {es : List (List D)} {zs : List QD} (he : es = zs.map QD.cell) (hl' : zs.length ≤ 1000000) (hc : c = zs.any QD.long) : TT 55 [.one (.sl t 4 es)] [.one (.sc (.bool c))] := by
  refine con Try.func55 rfl (by kernel_rfl) (by kernel_rfl) fun π Q h hQ => ?_
  have hle : es.length = zs.length := by rw [he]; simp
  cbv
  refine h.loop' (Int × Nat) (fun p => p.1 = (p.2 : Int) ∧ p.2 ≤ zs.length ∧ ((zs.take p.2).any QD.long) = false) (fun p => ⟨[(0, .v (.one (.sl t 4 es))), (3, vi .i64 p.1)], []⟩) (fun p => zs.length - p.2) (0, 0) ⟨rfl, Nat.zero_le _, rfl⟩ (by (refine Wk.of [] rfl ?_ ?_; (· (repeat (first | exact trivial | (refine And.intro ?_ ?_; (· first | exact trivial | exact Or.inl ⟨_, rfl, rfl⟩ | exact ⟨_, rfl, rfl⟩ | exact Or.inr ⟨rfl, rfl, by decide⟩))))); (· (repeat (first | exact trivial | (refine And.intro ?_ ?_; (· first | exact trivial | exact Or.inl rfl | rfl | exact Or.inr ⟨_, _, _, _, rfl, rfl, rfl, renNo rfl⟩ | exact ⟨ne_no rfl, Or.inl ⟨_, rfl, rfl⟩⟩ | exact ⟨ne_no rfl, Or.inr ⟨rfl, _, rfl⟩⟩ | exact ⟨_, rfl, rfl, ne_no rfl⟩))))))) ?_
  rintro ⟨iz, i⟩ R ⟨hiz, hi, hv⟩ hR
  simp only at hiz hi hv
  cbv
  (refine Good.len' ‹_› ?_; intro _ _; cbv)
  refine h.dec rfl (fun hp => ?_) (fun hp => ?_)
  · obtain ⟨z, hgz⟩ : ∃ z, zs[i]? = some z := ⟨zs[i]'(by (simp only [inR, cmpP, loOk, hiOk, Int.ofNat_eq_natCast, Int.negSucc_eq, IntKind.bits, Int.toNat_natCast, ge_iff_le, gt_iff_lt, ne_eq, wl_len, hl_len, natCast_fold, not_true_eq_false, not_false_eq_true] at * <;> omega)), List.getElem?_eq_getElem _⟩
    obtain ⟨zs1, zt, zx, zs2, zt', zy⟩ := z
    have hge : es[i]? = some [.sc (.bool zs1), .sl zt 1 zx, .sc (.bool zs2), .sl zt' 1 zy] := by rw [he]; simp [hgz, QD.cell]
    have yes : (6 < zx.length ∨ 6 < zy.length) → c = true := fun hh => by
      rw [hc, List.any_eq_true]
      exact ⟨_, List.mem_of_getElem? hgz, decide_eq_true hh⟩
    cbv
    refine h.get' i _ hiz hge ?_
    cbv
    refine h.get' i _ hiz hge ?_
    cbv
    skip
    refine long_s h [(zs1, zt, zx), (zs2, zt', zy)] rfl (by simp) fun c1 hc1 => ?_
    cases c1
    · cbv
      refine h.get' i _ hiz hge ?_
      cbv
      (refine Good.len' ‹_› ?_; intro _ _; cbv)
      refine h.dec rfl (fun hp2 => ?_) (fun hp2 => ?_)
      · have := yes (by (simp only [inR, cmpP, loOk, hiOk, Int.ofNat_eq_natCast, Int.negSucc_eq, IntKind.bits, Int.toNat_natCast, ge_iff_le, gt_iff_lt, ne_eq, wl_len, hl_len, natCast_fold, not_true_eq_false, not_false_eq_true] at * <;> omega))
        rw [this] at hQ
        cbv
        (refine Good.chk' ‹_› rfl ?_; cbv)
        exact hQ
      · cbv
        refine h.get' i _ hiz hge ?_
        cbv
        (refine Good.len' ‹_› ?_; intro _ _; cbv)
        refine h.dec rfl (fun hp3 => ?_) (fun hp3 => ?_)
        · have := yes (by (simp only [inR, cmpP, loOk, hiOk, Int.ofNat_eq_natCast, Int.negSucc_eq, IntKind.bits, Int.toNat_natCast, ge_iff_le, gt_iff_lt, ne_eq, wl_len, hl_len, natCast_fold, not_true_eq_false, not_false_eq_true] at * <;> omega))
          rw [this] at hQ
          cbv
          (refine Good.chk' ‹_› rfl ?_; cbv)
          exact hQ
        · cbv
          (refine Good.chk' ‹_› rfl ?_; cbv; refine Good.add' ‹_› ?_ ?_; (· (simp only [inR, cmpP, loOk, hiOk, Int.ofNat_eq_natCast, Int.negSucc_eq, IntKind.bits, Int.toNat_natCast, ge_iff_le, gt_iff_lt, ne_eq, wl_len, hl_len, natCast_fold, not_true_eq_false, not_false_eq_true] at * <;> omega)); intro _ _; cbv)
          rename_i i1 hi1
          refine hR _ (i1, i + 1) ⟨by simp only; (simp only [inR, cmpP, loOk, hiOk, Int.ofNat_eq_natCast, Int.negSucc_eq, IntKind.bits, Int.toNat_natCast, ge_iff_le, gt_iff_lt, ne_eq, wl_len, hl_len, natCast_fold, not_true_eq_false, not_false_eq_true] at * <;> omega), by simp only; (simp only [inR, cmpP, loOk, hiOk, Int.ofNat_eq_natCast, Int.negSucc_eq, IntKind.bits, Int.toNat_natCast, ge_iff_le, gt_iff_lt, ne_eq, wl_len, hl_len, natCast_fold, not_true_eq_false, not_false_eq_true] at * <;> omega), ?_⟩ (by simp only; (simp only [inR, cmpP, loOk, hiOk, Int.ofNat_eq_natCast, Int.negSucc_eq, IntKind.bits, Int.toNat_natCast, ge_iff_le, gt_iff_lt, ne_eq, wl_len, hl_len, natCast_fold, not_true_eq_false, not_false_eq_true] at * <;> omega)) (by (refine Wk.of [] rfl ?_ ?_; (· (repeat (first | exact trivial | (refine And.intro ?_ ?_; (· first | exact trivial | exact Or.inl ⟨_, rfl, rfl⟩ | exact ⟨_, rfl, rfl⟩ | exact Or.inr ⟨rfl, rfl, by decide⟩))))); (· (repeat (first | exact trivial | (refine And.intro ?_ ?_; (· first | exact trivial | exact Or.inl rfl | rfl | exact Or.inr ⟨_, _, _, _, rfl, rfl, rfl, renNo rfl⟩ | exact ⟨ne_no rfl, Or.inl ⟨_, rfl, rfl⟩⟩ | exact ⟨ne_no rfl, Or.inr ⟨rfl, _, rfl⟩⟩ | exact ⟨_, rfl, rfl, ne_no rfl⟩)))))))
          show ((zs.take (i + 1)).any QD.long) = false
          rw [List.take_add_one, hgz]
          simp only [Option.toList_some, List.any_append, hv, List.any_cons, List.any_nil, Bool.or_false, Bool.false_or]
          exact decide_eq_false (by (simp only [inR, cmpP, loOk, hiOk, Int.ofNat_eq_natCast, Int.negSucc_eq, IntKind.bits, Int.toNat_natCast, ge_iff_le, gt_iff_lt, ne_eq, wl_len, hl_len, natCast_fold, not_true_eq_false, not_false_eq_true] at * <;> omega))
    · have : c = true := by
        refine yes ?_
        have hc1 := hc1.symm
        simp only [List.any_cons, List.any_nil, Bool.or_false, Bool.or_eq_true, decide_eq_true_eq] at hc1
        omega
      rw [this] at hQ
      cbv
      (refine Good.chk' ‹_› rfl ?_; cbv)
      exact hQ
  · have hi2 : i = zs.length := by (simp only [inR, cmpP, loOk, hiOk, Int.ofNat_eq_natCast, Int.negSucc_eq, IntKind.bits, Int.toNat_natCast, ge_iff_le, gt_iff_lt, ne_eq, wl_len, hl_len, natCast_fold, not_true_eq_false, not_false_eq_true] at * <;> omega)
    rw [hi2, List.take_length, ← hc] at hv
    rw [hv] at hQ
    cbv
    skip
    exact hQ
theorem qlong_s {π : Pi} (h : Good TT π) {K : List DV → Prop} {t : Nat} {es : List (List D)} (zs : List QD) (he : es = zs.map QD.cell) (hl' : zs.length ≤ 1000000) (hk : ∀ c, c = zs.any QD.long → K [.one (.sc (.bool c))]) : π.call 55 [.one (.sl t 4 es)] K := h.call' _ (qlong_c he hl' rfl) (hk _ rfl)
theorem qown_s {π : Pi} (h : Good TT π) {K : List DV → Prop} {t t' : Nat} {s s' : Bool} {xs ys : List (List D)} (hx : ∀ y ∈ xs, y.length = 1) (hy : ∀ y ∈ ys, y.length = 1) (hl : xs.length ≤ 1000000) (hl' : ys.length ≤ 1000000) (hk : K [qa s 1 xs s' 1 ys]) : π.call 56 [qa s t xs s' t' ys] K := by
  refine h.call' _ ?_ hk
  refine con Try.func56 rfl (by kernel_rfl) (by kernel_rfl) fun π Q h hQ => ?_
  cbv
  skip
  refine own_s h hx hl ?_
  cbv
  skip
  refine own_s h hy hl' ?_
  cbv
  (refine Good.chk' ‹_› rfl ?_; cbv)
  exact hQ
/-- Two numbers, in words that parse, that are no canonical rational. -/
theorem fparse_n {π : Pi} (h : Good TT π) {K : List DV → Prop} {s sa sb : ByteArray} {la lb : List UInt8} (hp : TT 153 [.one (.sc (.string s))] [.one (.sc (.string sa)), .one (.sc (.string sb)), .one (.sc (.bool true))]) (hsa : sa = bs la) (hsb : sb = bs lb) (hla : la.length ≤ 100) (hlb : lb.length ≤ 100) {n d : Int}
    (h1 : prs la = (n, 0)) (h2 : prs lb = (d, 0)) (hd : d ≠ 0) (l1 : (dg BW n.natAbs).length ≤ 400) (l2 : (dg BW d.natAbs).length ≤ 400) (hne : ¬ (n = (qv n d).num ∧ d = jq (qv n d)))
    (hk : K [qa false 1 [] false 1 [], .one (.sc (.int .i64 3))]) : π.call 136 [.one (.sc (.string s))] K := by
  refine h.call' _ ?_ hk
  refine con Try.func136 rfl (by kernel_rfl) (by kernel_rfl) fun π Q h hQ => ?_
  have c0 := sgnV_cases d
  cbv
  refine h.call' _ hp ?_
  cbv
  skip
  refine parse_s h hsa (by omega) fun b1 y1 e1 hz1 he1 => ?_
  rw [h1] at hz1 he1
  have hz1 : Zc b1 y1 n := hz1
  have he1 : e1 = 0 := he1
  subst he1
  cbv
  skip
  refine parse_s h hsb (by omega) fun b2 y2 e2 hz2 he2 => ?_
  rw [h2] at hz2 he2
  have hz2 : Zc b2 y2 d := hz2
  have he2 : e2 = 0 := he2
  subst he2
  cbv
  (refine Good.no ‹_› rfl ?_ ?_; (· (simp only [inR, cmpP, loOk, hiOk, Int.ofNat_eq_natCast, Int.negSucc_eq, IntKind.bits, Int.toNat_natCast, ge_iff_le, gt_iff_lt, ne_eq, wl_len, hl_len, natCast_fold, not_true_eq_false, not_false_eq_true] at * <;> omega)); cbv; refine Good.no ‹_› rfl ?_ ?_; (· (simp only [inR, cmpP, loOk, hiOk, Int.ofNat_eq_natCast, Int.negSucc_eq, IntKind.bits, Int.toNat_natCast, ge_iff_le, gt_iff_lt, ne_eq, wl_len, hl_len, natCast_fold, not_true_eq_false, not_false_eq_true] at * <;> omega)); cbv; refine Good.no ‹_› rfl ?_ ?_; (· (simp only [inR, cmpP, loOk, hiOk, Int.ofNat_eq_natCast, Int.negSucc_eq, IntKind.bits, Int.toNat_natCast, ge_iff_le, gt_iff_lt, ne_eq, wl_len, hl_len, natCast_fold, not_true_eq_false, not_false_eq_true] at * <;> omega)); cbv; refine Good.no ‹_› rfl ?_ ?_; (· (simp only [inR, cmpP, loOk, hiOk, Int.ofNat_eq_natCast, Int.negSucc_eq, IntKind.bits, Int.toNat_natCast, ge_iff_le, gt_iff_lt, ne_eq, wl_len, hl_len, natCast_fold, not_true_eq_false, not_false_eq_true] at * <;> omega)); cbv)
  refine sign_s h hz2.r (by omega) fun c hc => ?_
  cbv
  (refine Good.no ‹_› rfl ?_ ?_; (· (simp only [inR, cmpP, loOk, hiOk, Int.ofNat_eq_natCast, Int.negSucc_eq, IntKind.bits, Int.toNat_natCast, ge_iff_le, gt_iff_lt, ne_eq, wl_len, hl_len, natCast_fold, not_true_eq_false, not_false_eq_true] at * <;> omega)); cbv)
  refine fiscan_n h hz1 hz2 l1 l2 hne ?_
  cbv
  skip
  exact hQ
end Go.Proofs.Ytpmlocilhhjifaa.Eng
end
section
set_option maxRecDepth 100000
set_option linter.unusedSimpArgs false
set_option linter.unusedVariables false
set_option pp.maxSteps 200
namespace Go.Proofs.Ytpmlocilhhjifaa.Eng
open Go.RowKit Go.Proofs
theorem q1 : qv 6 (-4) = mkRat (-3) 2 := by rfl
theorem q2 : qv 4 2 = 2 := by rfl
theorem f1 : fmtQ (mkRat (-3) 2) = [45, 51, 47, 50] := by decide
theorem f2 : fmtQ 2 = [50] := by decide
theorem f0 : fmtQ 0 = [48] := by decide
theorem prs_l2 : prs [50] = (2, 0) := by decide
theorem prs_l4 : prs [52] = (4, 0) := by decide
theorem prs_l3 : prs [51] = (3, 0) := by decide
theorem prs_l1 : prs [49] = (1, 0) := by decide
set_option maxHeartbeats 4000000 in
theorem qalive_c : TT 54 [] [.one (.sc (.bool true))] := by
  refine con Try.func54 rfl (by kernel_rfl) (by kernel_rfl) fun π Q h hQ => ?_
  have k2 : ∀ {n : Int}, -9223372036854775808 ≤ n → n ≤ 9223372036854775807 → (dg BW n.natAbs).length ≤ 2 := fun h1 h2 => len2 h1 h2
  cbv
  refine fnew_s h (n := 6) (d := -4) ⟨by decide, by decide⟩ ⟨by decide, by decide⟩ (by decide) fun b1 z1 b2 z2 ha => ?_
  rw [q1] at ha
  cbv
  skip
  refine fnew_s h (n := 4) (d := 2) ⟨by decide, by decide⟩ ⟨by decide, by decide⟩ (by decide) fun b3 z3 b4 z4 hb => ?_
  rw [q2] at hb
  cbv
  skip
  refine fnew0_s h ?_
  cbv
  skip
  refine fparse_n h part24_c (la := [50]) (lb := [52]) (n := 2) (d := 4) rfl rfl (by decide) (by decide) prs_l2 prs_l4 (by decide) (Nat.le_trans (k2 (by decide) (by decide)) (by decide)) (Nat.le_trans (k2 (by decide) (by decide)) (by decide)) (by decide) ?_
  cbv
  skip
  refine fparse_n h part31_c (la := [51]) (lb := [49]) (n := 3) (d := 1) rfl rfl (by decide) (by decide) prs_l3 prs_l1 (by decide) (Nat.le_trans (k2 (by decide) (by decide)) (by decide)) (Nat.le_trans (k2 (by decide) (by decide)) (by decide)) (by decide) ?_
  cbv
  (refine Good.no ‹_› rfl ?_ ?_; (· (simp only [inR, cmpP, loOk, hiOk, Int.ofNat_eq_natCast, Int.negSucc_eq, IntKind.bits, Int.toNat_natCast, ge_iff_le, gt_iff_lt, ne_eq, wl_len, hl_len, natCast_fold, not_true_eq_false, not_false_eq_true] at * <;> omega)); cbv; refine Good.no ‹_› rfl ?_ ?_; (· (simp only [inR, cmpP, loOk, hiOk, Int.ofNat_eq_natCast, Int.negSucc_eq, IntKind.bits, Int.toNat_natCast, ge_iff_le, gt_iff_lt, ne_eq, wl_len, hl_len, natCast_fold, not_true_eq_false, not_false_eq_true] at * <;> omega)); cbv; refine Good.no ‹_› rfl ?_ ?_; (· (simp only [inR, cmpP, loOk, hiOk, Int.ofNat_eq_natCast, Int.negSucc_eq, IntKind.bits, Int.toNat_natCast, ge_iff_le, gt_iff_lt, ne_eq, wl_len, hl_len, natCast_fold, not_true_eq_false, not_false_eq_true] at * <;> omega)); cbv; refine Good.no ‹_› rfl ?_ ?_; (· (simp only [inR, cmpP, loOk, hiOk, Int.ofNat_eq_natCast, Int.negSucc_eq, IntKind.bits, Int.toNat_natCast, ge_iff_le, gt_iff_lt, ne_eq, wl_len, hl_len, natCast_fold, not_true_eq_false, not_false_eq_true] at * <;> omega)); cbv; refine Good.no ‹_› rfl ?_ ?_; (· (simp only [inR, cmpP, loOk, hiOk, Int.ofNat_eq_natCast, Int.negSucc_eq, IntKind.bits, Int.toNat_natCast, ge_iff_le, gt_iff_lt, ne_eq, wl_len, hl_len, natCast_fold, not_true_eq_false, not_false_eq_true] at * <;> omega)); cbv)
  have lq : ∀ {b : Bool} {z : List (List D)} {b' : Bool} {z' : List (List D)} {n d : Int}, -9223372036854775808 ≤ n ∧ n ≤ 9223372036854775807 → -9223372036854775808 ≤ d ∧ d ≤ 9223372036854775807 → ql (qv n d) ≤ 2 := fun {_ _ _ _ n d} hn hd => by
    obtain ⟨bn, zn, hzn⟩ := zcx n
    obtain ⟨bd, zd, hzd⟩ := zcx d
    exact Nat.le_trans (Qr.ql (l := 2) ⟨n, d, hzn.r.le (k2 hn.1 hn.2), hzd.r.le (k2 hd.1 hd.2), rfl⟩) (by decide)
  have la : ql (mkRat (-3) 2) ≤ 2 := by rw [← q1]; exact lq (b := true) (z := []) (b' := true) (z' := []) (by decide) (by decide)
  have lb : ql (2 : Rat) ≤ 2 := by rw [← q2]; exact lq (b := true) (z := []) (b' := true) (z' := []) (by decide) (by decide)
  refine h.call' _ (fformat_c (l := 10) (st := ⟨#[45, 51, 47, 50]⟩) (ha.r.le (by omega)) (by decide) (by rw [f1]; rfl)) ?_
  cbv
  refine h.scmp' fun c hc => ?_
  have hc : c = true := by rw [hc]; simp
  subst hc
  cbv
  skip
  refine h.call' _ (fformat_c (l := 10) (st := ⟨#[50]⟩) (hb.r.le (by omega)) (by decide) (by rw [f2]; rfl)) ?_
  cbv
  refine h.scmp' fun c hc => ?_
  have hc : c = true := by rw [hc]; simp
  subst hc
  have hb2 := hb.2
  rw [if_pos (show (2 : Rat).den = 1 from rfl)] at hb2
  obtain ⟨rfl, rfl⟩ := hb2
  cbv
  (refine Good.len' ‹_› ?_; intro _ _; cbv; refine Good.yes ‹_› ?_ ?_; (· (simp only [inR, cmpP, loOk, hiOk, Int.ofNat_eq_natCast, Int.negSucc_eq, IntKind.bits, Int.toNat_natCast, ge_iff_le, gt_iff_lt, ne_eq, wl_len, hl_len, natCast_fold, not_true_eq_false, not_false_eq_true] at * <;> omega)); cbv)
  refine ffloor_s h (l := 10) (ha.r.le (by omega)) (by decide) fun _ _ zf => ?_
  have zf : Zc _ _ (-2) := zf
  cbv
  skip
  refine fromInt64_s h (n := -2) ⟨by decide, by decide⟩ fun _ _ zw => ?_
  cbv
  skip
  refine cmp2_s h zf.r zw.r (Nat.le_trans (k2 (by decide) (by decide)) (by decide)) (Nat.le_trans (k2 (by decide) (by decide)) (by decide)) fun m hm => ?_
  have hm : m = 0 := by rw [hm]; rfl
  subst hm
  cbv
  (refine Good.yes ‹_› ?_ ?_; (· (simp only [inR, cmpP, loOk, hiOk, Int.ofNat_eq_natCast, Int.negSucc_eq, IntKind.bits, Int.toNat_natCast, ge_iff_le, gt_iff_lt, ne_eq, wl_len, hl_len, natCast_fold, not_true_eq_false, not_false_eq_true] at * <;> omega)); cbv)
  refine fceil_s h (l := 10) (ha.r.le (by omega)) (by decide) fun _ _ zc => ?_
  have zc : Zc _ _ (-1) := zc
  cbv
  skip
  refine fromInt64_s h (n := -1) ⟨by decide, by decide⟩ fun _ _ zv => ?_
  cbv
  skip
  refine cmp2_s h zc.r zv.r (Nat.le_trans (k2 (by decide) (by decide)) (by decide)) (Nat.le_trans (k2 (by decide) (by decide)) (by decide)) fun m hm => ?_
  have hm : m = 0 := by rw [hm]; rfl
  subst hm
  cbv
  (refine Good.yes ‹_› ?_ ?_; (· (simp only [inR, cmpP, loOk, hiOk, Int.ofNat_eq_natCast, Int.negSucc_eq, IntKind.bits, Int.toNat_natCast, ge_iff_le, gt_iff_lt, ne_eq, wl_len, hl_len, natCast_fold, not_true_eq_false, not_false_eq_true] at * <;> omega)); cbv)
  have z0 : ∀ {s : Bool}, Zr s [] 0 10 := fun {s} => ⟨[], rfl, fun x hx => absurd hx (List.not_mem_nil), by decide, by cases s <;> rfl⟩
  refine h.call' _ (fformat_c (p := 0) (l := 10) (st := ⟨#[48]⟩) ⟨0, 0, z0, z0, rfl⟩ (by decide) (by rw [f0]; rfl)) ?_
  cbv
  refine h.scmp' fun c hc => ?_
  have hc : c = true := by rw [hc]; simp
  subst hc
  cbv
  skip
  exact hQ
theorem fexamples_l : TT 9 [] [.one (.sc (.bool true))] := by
  refine con Try.func9 rfl (by kernel_rfl) (by kernel_rfl) fun π Q h hQ => ?_
  cbv
  skip
  refine h.call' _ qalive_c ?_
  cbv
  skip
  exact hQ
end Go.Proofs.Ytpmlocilhhjifaa.Eng
end
