/- Packages frac, pylonref02: the functions as callers take them. -/
import Derived.Test.YtpmlocilhhjifaaGreatFrc5
import Derived.Test.YtpmlocilhhjifaaGreatRfc2
set_option maxRecDepth 100000
set_option linter.unusedSimpArgs false
set_option linter.unusedVariables false
set_option pp.maxSteps 200
namespace Go.Proofs.YtpmlocilhhjifaaGreat.Eng
open Go.RowKit Go.Proofs
variable {π : Pi} (h : Good TT π) {K : List DV → Prop} {s1 s2 s3 s4 : Bool} {t1 t2 t3 t4 : Nat} {x1 x2 x3 x4 : List (List D)} {p q : Rat} {l : Nat}
include h
theorem fadd_s (ha : Qr s1 x1 s2 x2 p l) (hb : Qr s3 x3 s4 x4 q l) (hl : l ≤ 1000) (hk : ∀ b z b' z', Qc b z b' z' (p + q) → K [qa b 1 z b' 1 z']) : π.call 20 [qa s1 t1 x1 s2 t2 x2, qa s3 t3 x3 s4 t4 x4] K := by
  obtain ⟨_, _, _, _, hc⟩ := qcx (p + q)
  exact h.call' _ (fadd_c ha hb hl hc) (hk _ _ _ _ hc)
theorem fsub_s (ha : Qr s1 x1 s2 x2 p l) (hb : Qr s3 x3 s4 x4 q l) (hl : l ≤ 1000) (hk : ∀ b z b' z', Qc b z b' z' (p - q) → K [qa b 1 z b' 1 z']) : π.call 40 [qa s1 t1 x1 s2 t2 x2, qa s3 t3 x3 s4 t4 x4] K := by
  obtain ⟨_, _, _, _, hc⟩ := qcx (p - q)
  exact h.call' _ (fsub_c ha hb hl hc) (hk _ _ _ _ hc)
theorem fmul_s (ha : Qr s1 x1 s2 x2 p l) (hb : Qr s3 x3 s4 x4 q l) (hl : l ≤ 1000) (hk : ∀ b z b' z', Qc b z b' z' (p * q) → K [qa b 1 z b' 1 z']) : π.call 19 [qa s1 t1 x1 s2 t2 x2, qa s3 t3 x3 s4 t4 x4] K := by
  obtain ⟨_, _, _, _, hc⟩ := qcx (p * q)
  exact h.call' _ (fmul_c ha hb hl hc) (hk _ _ _ _ hc)
theorem fcanon_s (ha : Qr s1 x1 s2 x2 p l) (hl : l ≤ 1000) (hk : ∀ b z b' z', Qc b z b' z' (p) → K [qa b 1 z b' 1 z']) : π.call 58 [qa s1 t1 x1 s2 t2 x2] K := by
  obtain ⟨_, _, _, _, hc⟩ := qcx (p)
  exact h.call' _ (fcanon_c ha hl hc) (hk _ _ _ _ hc)
theorem fmin_s (ha : Qr s1 x1 s2 x2 p l) (hb : Qr s3 x3 s4 x4 q l) (hl : l ≤ 1000) (hk : ∀ b z b' z', Qc b z b' z' (if sgnQ (p - q) ≤ 0 then p else q) → K [qa b 1 z b' 1 z']) : π.call 39 [qa s1 t1 x1 s2 t2 x2, qa s3 t3 x3 s4 t4 x4] K := by
  obtain ⟨_, _, _, _, hc⟩ := qcx (if sgnQ (p - q) ≤ 0 then p else q)
  exact h.call' _ (fmin_c ha hb hl hc) (hk _ _ _ _ hc)
theorem fsign_s (ha : Qr s1 x1 s2 x2 p l) (hl : l ≤ 10000) (hk : ∀ c, c = sgnQ p → K [.one (.sc (.int .i64 c))]) : π.call 15 [qa s1 t1 x1 s2 t2 x2] K := h.call' _ (fsign_c ha hl rfl) (hk _ rfl)
theorem fcmp_s (ha : Qr s1 x1 s2 x2 p l) (hb : Qr s3 x3 s4 x4 q l) (hl : l ≤ 1000) (hk : ∀ c, c = sgnQ (p - q) → K [.one (.sc (.int .i64 c))]) : π.call 18 [qa s1 t1 x1 s2 t2 x2, qa s3 t3 x3 s4 t4 x4] K := h.call' _ (fcmp_c ha hb hl rfl) (hk _ rfl)
theorem fequal_s (ha : Qr s1 x1 s2 x2 p l) (hb : Qr s3 x3 s4 x4 q l) (hl : l ≤ 1000) (hk : ∀ c, c = decide (p = q) → K [.one (.sc (.bool c))]) : π.call 16 [qa s1 t1 x1 s2 t2 x2, qa s3 t3 x3 s4 t4 x4] K := h.call' _ (fequal_c ha hb hl rfl) (hk _ rfl)
theorem rradd_s (ha : Qr s1 x1 s2 x2 p l) (hb : Qr s3 x3 s4 x4 q l) (hl : l ≤ 1000) (hk : ∀ b z b' z', Qc b z b' z' (p + q) → K [qa b 1 z b' 1 z']) : π.call 55 [qa s1 t1 x1 s2 t2 x2, qa s3 t3 x3 s4 t4 x4] K := by
  obtain ⟨_, _, _, _, hc⟩ := qcx (p + q)
  exact h.call' _ (rradd_c ha hb hl hc) (hk _ _ _ _ hc)
theorem rrsub_s (ha : Qr s1 x1 s2 x2 p l) (hb : Qr s3 x3 s4 x4 q l) (hl : l ≤ 900) (hk : ∀ b z b' z', Qc b z b' z' (p - q) → K [qa b 1 z b' 1 z']) : π.call 51 [qa s1 t1 x1 s2 t2 x2, qa s3 t3 x3 s4 t4 x4] K := by
  obtain ⟨_, _, _, _, hc⟩ := qcx (p - q)
  exact h.call' _ (rrsub_c ha hb hl hc) (hk _ _ _ _ hc)
theorem rrmul_s (ha : Qr s1 x1 s2 x2 p l) (hb : Qr s3 x3 s4 x4 q l) (hl : l ≤ 1000) (hk : ∀ b z b' z', Qc b z b' z' (p * q) → K [qa b 1 z b' 1 z']) : π.call 54 [qa s1 t1 x1 s2 t2 x2, qa s3 t3 x3 s4 t4 x4] K := by
  obtain ⟨_, _, _, _, hc⟩ := qcx (p * q)
  exact h.call' _ (rrmul_c ha hb hl hc) (hk _ _ _ _ hc)
theorem rleast_s (ha : Qr s1 x1 s2 x2 p l) (hl : l ≤ 1000) (hk : ∀ b z b' z', Qc b z b' z' (p) → K [qa b 1 z b' 1 z']) : π.call 57 [qa s1 t1 x1 s2 t2 x2] K := by
  obtain ⟨_, _, _, _, hc⟩ := qcx (p)
  exact h.call' _ (rleast_c ha hl hc) (hk _ _ _ _ hc)
theorem rrneg_s (ha : Qr s1 x1 s2 x2 p l) (hl : l ≤ 1000) (hk : ∀ b z b' z', Qc b z b' z' (-p) → K [qa b 1 z b' 1 z']) : π.call 79 [qa s1 t1 x1 s2 t2 x2] K := by
  obtain ⟨_, _, _, _, hc⟩ := qcx (-p)
  exact h.call' _ (rrneg_c ha hl hc) (hk _ _ _ _ hc)
theorem rrmin_s (ha : Qr s1 x1 s2 x2 p l) (hb : Qr s3 x3 s4 x4 q l) (hl : l ≤ 900) (hk : ∀ b z b' z', Qc b z b' z' (if sgnQ (p - q) ≤ 0 then p else q) → K [qa b 1 z b' 1 z']) : π.call 49 [qa s1 t1 x1 s2 t2 x2, qa s3 t3 x3 s4 t4 x4] K := by
  obtain ⟨_, _, _, _, hc⟩ := qcx (if sgnQ (p - q) ≤ 0 then p else q)
  exact h.call' _ (rrmin_c ha hb hl hc) (hk _ _ _ _ hc)
theorem rrsign_s (ha : Qr s1 x1 s2 x2 p l) (hl : l ≤ 10000) (hk : ∀ c, c = sgnQ p → K [.one (.sc (.int .i64 c))]) : π.call 52 [qa s1 t1 x1 s2 t2 x2] K := h.call' _ (rrsign_c ha hl rfl) (hk _ rfl)
theorem rrcmp_s (ha : Qr s1 x1 s2 x2 p l) (hb : Qr s3 x3 s4 x4 q l) (hl : l ≤ 900) (hk : ∀ c, c = sgnQ (p - q) → K [.one (.sc (.int .i64 c))]) : π.call 77 [qa s1 t1 x1 s2 t2 x2, qa s3 t3 x3 s4 t4 x4] K := h.call' _ (rrcmp_c ha hb hl rfl) (hk _ rfl)
theorem ffromInt_s {n : Int} (hn : inR .i64 n) (hk : ∀ b z, Qc b z false [] (n : Rat) → K [qa b 1 z false 1 []]) : π.call 14 [.one (.sc (.int .i64 n))] K := by
  obtain ⟨_, _, hc⟩ := zcx n
  exact h.call' _ (ffromInt_c hn hc) (hk _ _ (int_qc hc))
theorem rrint_s {n : Int} (hn : inR .i64 n) (hk : ∀ b z, Qc b z false [] (n : Rat) → K [qa b 1 z false 1 []]) : π.call 28 [.one (.sc (.int .i64 n))] K := by
  obtain ⟨_, _, hc⟩ := zcx n
  exact h.call' _ (rrint_c hn hc) (hk _ _ (int_qc hc))
theorem rrof_s {n d : Int} (hn : inR .i64 n) (hd : inR .i64 d) (hk : ∀ b z b' z', Qc b z b' z' (qv n d) → K [qa b 1 z b' 1 z']) : π.call 29 [.one (.sc (.int .i64 n)), .one (.sc (.int .i64 d))] K := by
  obtain ⟨_, _, _, _, hc⟩ := qcx (qv n d)
  exact h.call' _ (rrof_c hn hd hc) (hk _ _ _ _ hc)
end Go.Proofs.YtpmlocilhhjifaaGreat.Eng
