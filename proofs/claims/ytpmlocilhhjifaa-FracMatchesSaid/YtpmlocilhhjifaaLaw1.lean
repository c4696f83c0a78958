/- Chapter 1's own functions: n, is, Long, Own. -/
import Derived.Test.YtpmlocilhhjifaaStr4
set_option maxRecDepth 100000
set_option linter.unusedSimpArgs false
set_option linter.unusedVariables false
set_option pp.maxSteps 200
namespace Go.Proofs.Ytpmlocilhhjifaa.Eng
open Go.RowKit
theorem n_c {n : Int} {b : Bool} {ys : List (List D)} (hn : inR .i64 n) (hz : Zc b ys n) : TT 113 [.one (.sc (.int .i64 n))] [za b 1 ys] := by
  refine con Try.func113 rfl (by kernel_rfl) (by kernel_rfl) fun π Q h hQ => ?_
  cbv
  refine fromInt64_s h hn fun b' ys' hz' => ?_
  rw [show za b' 1 ys' = za b 1 ys from za_eq hz' hz rfl]
  cbv
  skip
  exact hQ
theorem n_s {π : Pi} (h : Good TT π) {K : List DV → Prop} {n : Int} (hn : inR .i64 n) (hk : ∀ b ys, Zc b ys n → K [za b 1 ys]) : π.call 113 [.one (.sc (.int .i64 n))] K := h.call' _ (n_c hn ⟨rfl, rfl⟩) (hk _ _ ⟨rfl, rfl⟩)
theorem small_len {n : Int} (hn : inR .i64 n) : (dg BW n.natAbs).length ≤ 2 := by
  refine dg_len BW2 ?_
  have : BW ^ 2 = 18446744073709551616 := by decide
  rw [this]
  simp only [inR] at hn
  omega
theorem is_c {t : Nat} {s c : Bool} {xs : List (List D)} {i n : Int} (hz : Zc s xs i) (hl' : (dg BW i.natAbs).length ≤ 1000000) (hn : inR .i64 n) (hc : c = decide (i = n)) : TT 114 [za s t xs, .one (.sc (.int .i64 n))] [.one (.sc (.bool c))] := by
  refine con Try.func114 rfl (by kernel_rfl) (by kernel_rfl) fun π Q h hQ => ?_
  have l2 := small_len hn
  cbv
  refine rfrom_s h hn fun b1 y1 hb1 => ?_
  cbv
  refine same_z h hz hb1 hl' (by omega) fun c' hc' => ?_
  rw [hc', ← hc]
  cbv
  (refine Good.chk' ‹_› rfl ?_; cbv)
  exact hQ
theorem is_s {π : Pi} (h : Good TT π) {K : List DV → Prop} {t : Nat} {s : Bool} {xs : List (List D)} {i n : Int} (hz : Zc s xs i) (hl' : (dg BW i.natAbs).length ≤ 1000000) (hn : inR .i64 n) (hk : ∀ c, c = decide (i = n) → K [.one (.sc (.bool c))]) : π.call 114 [za s t xs, .one (.sc (.int .i64 n))] K := h.call' _ (is_c hz hl' hn rfl) (hk _ rfl)
def zcell (p : Bool × Nat × List (List D)) : List D := [.sc (.bool p.1), .sl p.2.1 1 p.2.2]
theorem long_c {t : Nat} {c : Bool} {es : List (List D)} {zs : List (Bool × Nat × List (List D))} (he : es = zs.map zcell) (hl' : zs.length ≤ 1000000) (hc : c = zs.any fun p => decide (12 < p.2.2.length)) : TT 21 [.one (.sl t 2 es)] [.one (.sc (.bool c))] := by
  refine con Try.func21 rfl (by kernel_rfl) (by kernel_rfl) fun π Q h hQ => ?_
  have hle : es.length = zs.length := by rw [he]; simp
  cbv
  refine h.loop' (Int × Nat) (fun p => p.1 = (p.2 : Int) ∧ p.2 ≤ zs.length ∧ ((zs.take p.2).any fun p => decide (12 < p.2.2.length)) = false) (fun p => ⟨[(0, .v (.one (.sl t 2 es))), (3, vi .i64 p.1)], []⟩) (fun p => zs.length - p.2) (0, 0) ⟨rfl, Nat.zero_le _, rfl⟩ (by (refine Wk.of [] rfl ?_ ?_; (· (repeat (first | exact trivial | (refine And.intro ?_ ?_; (· first | exact trivial | exact Or.inl ⟨_, rfl, rfl⟩ | exact ⟨_, rfl, rfl⟩ | exact Or.inr ⟨rfl, rfl, by decide⟩))))); (· (repeat (first | exact trivial | (refine And.intro ?_ ?_; (· first | exact trivial | exact Or.inl rfl | rfl | exact Or.inr ⟨_, _, _, _, rfl, rfl, rfl, renNo rfl⟩ | exact ⟨ne_no rfl, Or.inl ⟨_, rfl, rfl⟩⟩ | exact ⟨ne_no rfl, Or.inr ⟨rfl, _, rfl⟩⟩ | exact ⟨_, rfl, rfl, ne_no rfl⟩))))))) ?_
  rintro ⟨iz, i⟩ R ⟨hiz, hi, hv⟩ hR
  simp only at hiz hi hv
  cbv
  (refine Good.len' ‹_› ?_; intro _ _; cbv)
  refine h.dec rfl (fun hp => ?_) (fun hp => ?_)
  · obtain ⟨z, hgz⟩ : ∃ z, zs[i]? = some z := ⟨zs[i]'(by (simp only [inR, cmpP, loOk, hiOk, Int.ofNat_eq_natCast, Int.negSucc_eq, IntKind.bits, Int.toNat_natCast, ge_iff_le, gt_iff_lt, ne_eq, wl_len, hl_len, natCast_fold, not_true_eq_false, not_false_eq_true] at * <;> omega)), List.getElem?_eq_getElem _⟩
    obtain ⟨s, tz, xs⟩ := z
    cbv
    refine h.get' i [.sc (.bool s), .sl tz 1 xs] hiz (by rw [he]; simp [hgz, zcell]) ?_
    cbv
    (refine Good.len' ‹_› ?_; intro _ _; cbv)
    refine h.dec rfl (fun hp2 => ?_) (fun hp2 => ?_)
    · have : c = true := by
        rw [hc, List.any_eq_true]
        exact ⟨_, List.mem_of_getElem? hgz, by simp only [decide_eq_true_eq]; (simp only [inR, cmpP, loOk, hiOk, Int.ofNat_eq_natCast, Int.negSucc_eq, IntKind.bits, Int.toNat_natCast, ge_iff_le, gt_iff_lt, ne_eq, wl_len, hl_len, natCast_fold, not_true_eq_false, not_false_eq_true] at * <;> omega)⟩
      rw [this] at hQ
      cbv
      skip
      exact hQ
    · cbv
      (refine Good.add' ‹_› ?_ ?_; (· (simp only [inR, cmpP, loOk, hiOk, Int.ofNat_eq_natCast, Int.negSucc_eq, IntKind.bits, Int.toNat_natCast, ge_iff_le, gt_iff_lt, ne_eq, wl_len, hl_len, natCast_fold, not_true_eq_false, not_false_eq_true] at * <;> omega)); intro _ _; cbv)
      rename_i i1 hi1
      refine hR _ (i1, i + 1) ⟨by simp only; (simp only [inR, cmpP, loOk, hiOk, Int.ofNat_eq_natCast, Int.negSucc_eq, IntKind.bits, Int.toNat_natCast, ge_iff_le, gt_iff_lt, ne_eq, wl_len, hl_len, natCast_fold, not_true_eq_false, not_false_eq_true] at * <;> omega), by simp only; (simp only [inR, cmpP, loOk, hiOk, Int.ofNat_eq_natCast, Int.negSucc_eq, IntKind.bits, Int.toNat_natCast, ge_iff_le, gt_iff_lt, ne_eq, wl_len, hl_len, natCast_fold, not_true_eq_false, not_false_eq_true] at * <;> omega), ?_⟩ (by simp only; (simp only [inR, cmpP, loOk, hiOk, Int.ofNat_eq_natCast, Int.negSucc_eq, IntKind.bits, Int.toNat_natCast, ge_iff_le, gt_iff_lt, ne_eq, wl_len, hl_len, natCast_fold, not_true_eq_false, not_false_eq_true] at * <;> omega)) (by (refine Wk.of [] rfl ?_ ?_; (· (repeat (first | exact trivial | (refine And.intro ?_ ?_; (· first | exact trivial | exact Or.inl ⟨_, rfl, rfl⟩ | exact ⟨_, rfl, rfl⟩ | exact Or.inr ⟨rfl, rfl, by decide⟩))))); (· (repeat (first | exact trivial | (refine And.intro ?_ ?_; (· first | exact trivial | exact Or.inl rfl | rfl | exact Or.inr ⟨_, _, _, _, rfl, rfl, rfl, renNo rfl⟩ | exact ⟨ne_no rfl, Or.inl ⟨_, rfl, rfl⟩⟩ | exact ⟨ne_no rfl, Or.inr ⟨rfl, _, rfl⟩⟩ | exact ⟨_, rfl, rfl, ne_no rfl⟩)))))))
      show ((zs.take (i + 1)).any fun p => decide (12 < p.2.2.length)) = false
      rw [List.take_add_one, hgz]
      simp only [Option.toList_some, List.any_append, hv, List.any_cons, List.any_nil, Bool.or_false, Bool.false_or, decide_eq_false_iff_not]
      (simp only [inR, cmpP, loOk, hiOk, Int.ofNat_eq_natCast, Int.negSucc_eq, IntKind.bits, Int.toNat_natCast, ge_iff_le, gt_iff_lt, ne_eq, wl_len, hl_len, natCast_fold, not_true_eq_false, not_false_eq_true] at * <;> omega)
  · have hi2 : i = zs.length := by (simp only [inR, cmpP, loOk, hiOk, Int.ofNat_eq_natCast, Int.negSucc_eq, IntKind.bits, Int.toNat_natCast, ge_iff_le, gt_iff_lt, ne_eq, wl_len, hl_len, natCast_fold, not_true_eq_false, not_false_eq_true] at * <;> omega)
    rw [hi2, List.take_length, ← hc] at hv
    rw [hv] at hQ
    cbv
    skip
    exact hQ
theorem long_s {π : Pi} (h : Good TT π) {K : List DV → Prop} {t : Nat} {es : List (List D)} (zs : List (Bool × Nat × List (List D))) (he : es = zs.map zcell) (hl' : zs.length ≤ 1000000) (hk : ∀ c, c = (zs.any fun p => decide (12 < p.2.2.length)) → K [.one (.sc (.bool c))]) : π.call 21 [.one (.sl t 2 es)] K := h.call' _ (long_c he hl' rfl) (hk _ rfl)
theorem own_c {t : Nat} {s : Bool} {xs : List (List D)} (hx : ∀ y ∈ xs, y.length = 1) (hl' : xs.length ≤ 1000000) : TT 23 [za s t xs] [za s 1 xs] := by
  refine con Try.func23 rfl (by kernel_rfl) (by kernel_rfl) fun π Q h hQ => ?_
  cbv
  refine h.app' (by decide) hx (by simp [maxLen]; omega) (by simp; omega) fun zs hzs => ?_
  rw [List.nil_append] at hzs
  rw [hzs]
  cbv
  (refine Good.chk' ‹_› rfl ?_; cbv)
  exact hQ
theorem own_s {π : Pi} (h : Good TT π) {K : List DV → Prop} {t : Nat} {s : Bool} {xs : List (List D)} (hx : ∀ y ∈ xs, y.length = 1) (hl' : xs.length ≤ 1000000) (hk : K [za s 1 xs]) : π.call 23 [za s t xs] K := h.call' _ (own_c hx hl') hk
end Go.Proofs.Ytpmlocilhhjifaa.Eng
