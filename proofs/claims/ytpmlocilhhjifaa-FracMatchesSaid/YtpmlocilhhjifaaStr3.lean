/- Decimal forms; the reference's Text. -/
import Derived.Test.YtpmlocilhhjifaaStr2
set_option maxRecDepth 100000
set_option linter.unusedSimpArgs false
set_option linter.unusedVariables false
set_option pp.maxSteps 200
namespace Go.Proofs.Ytpmlocilhhjifaa.Eng
open Go.RowKit
theorem dg_step {B n : Nat} (hB : 2 ≤ B) (hn : 0 < n) : dg B n = n % B :: dg B (n / B) := by
  have hv : val B (n % B :: dg B (n / B)) = n := by rw [val, dg_val hB]; have := Nat.div_add_mod n B; omega
  have hc : Can (n % B :: dg B (n / B)) := by
    have h2 := dg_can hB (n / B)
    unfold Can at h2 ⊢
    cases hd : dg B (n / B) with
    | nil =>
      have h3 := (dg_nil hB).1 hd
      have := Nat.div_add_mod n B
      rw [h3] at this
      simp; omega
    | cons y r => rw [hd] at h2; rwa [List.getLast?_cons_cons]
  have ho : Ok B (n % B :: dg B (n / B)) := Ok.of (Nat.mod_lt _ (by omega)) (dg_ok hB _)
  rw [← dg_of hB ho hc, hv]
def digC (d : Nat) : UInt8 := UInt8.ofNat (48 + d)
def decP (n : Nat) : List UInt8 := (dg 10 n).reverse.map digC
theorem decP_step {n : Nat} (hn : 0 < n) : decP n = decP (n / 10) ++ [digC (n % 10)] := by
  unfold decP
  rw [dg_step (by decide) hn]
  simp
theorem decP_zero : decP 0 = [] := rfl
theorem decP_len (n : Nat) : (decP n).length = (dg 10 n).length := by simp [decP]
def dec (n : Nat) : List UInt8 := if n = 0 then [48] else decP n
/-- What Format writes. -/
def fmtL (i : Int) : List UInt8 := if i < 0 then 45 :: dec i.natAbs else dec i.natAbs
theorem dec10_len {n l : Nat} (h : (dg BW n).length ≤ l) : (dg 10 n).length ≤ 10 * l := by
  refine dg_len (by decide) ?_
  rw [Nat.pow_mul]
  exact Nat.lt_of_lt_of_le (lt_dg_len BW2 n) (Nat.le_trans (Nat.pow_le_pow_right BW0 h) (Nat.pow_le_pow_left (by decide) l))
theorem dec_len {n l : Nat} (h : (dg BW n).length ≤ l) : (dec n).length ≤ 10 * l + 1 := by
  unfold dec
  split
  · simp
  · rw [decP_len]; have := dec10_len h; omega
theorem gd_dg {B x : Nat} (hB : 2 ≤ B) (hx : x < B) : gd (dg B x) 0 = x := by
  have h1 := val_drop_gd B (dg B x) 0
  rw [List.drop_zero, dg_val hB] at h1
  have h2 := gd_lt (by omega : 0 < B) (dg_ok hB x) 0
  rcases Nat.eq_zero_or_pos (val B ((dg B x).drop (0 + 1))) with h | h
  · rw [h] at h1; omega
  · have := Nat.le_mul_of_pos_right B h; omega
theorem digC_toNat {d : Nat} (h : d < 10) : (digC d).toNat = 48 + d := by
  rw [digC, UInt8.toNat_ofNat']; omega
set_option maxHeartbeats 4000000 in
theorem text_c {t l : Nat} {s : Bool} {xs : List (List D)} {i : Int} {st : ByteArray} (hz : Zr s xs i l) (hl' : l ≤ 100000) (hst : st = bs (fmtL i)) : TT 32 [za s t xs] [.one (.sc (.string st))] := by
  refine con Try.func32 rfl (by kernel_rfl) (by kernel_rfl) fun π Q h hQ => ?_
  have hz0 := hz
  obtain ⟨ws, hx, ho, hw, hi⟩ := hz
  have l0 := dg_len_val BW2 ho
  have l1 := dgh_len l0
  have l2 := dec10_len l0
  obtain ⟨n0, hn0⟩ : ∃ n0, n0 = val BW ws := ⟨_, rfl⟩
  rw [← hn0] at l1 l2
  have hia : i.natAbs = n0 := by rw [hi, sg_natAbs, hn0]
  cbv
  refine halves_s h hx ho (by omega) fun us hu => ?_
  rw [← hn0] at hu
  cbv
  refine h.loop' (List (List D) × ByteArray × Nat × List UInt8) (fun p => p.1 = hl (dg BH p.2.2.1) ∧ p.2.1 = bs p.2.2.2 ∧ p.2.2.1 ≤ n0 ∧ ((0 < n0 ∧ decP p.2.2.1 ++ p.2.2.2 = decP n0) ∨ (n0 = 0 ∧ (p.2.2.2 = [] ∨ p.2.2.2 = [48]))))
    (fun p => ⟨[(1, .p 1 0 0 0), (3, vs 1 p.1), (4, .v (.one (.sc (.string p.2.1))))], [(1, .bx [.sc (.bool s), .sl t 1 xs])]⟩) (fun p => p.2.2.1 + (if p.2.2.2 = [] then 1 else 0)) (us, ⟨#[]⟩, n0, []) ⟨hu, rfl, Nat.le_refl _, ?_⟩ (by (refine Wk.of [(1, some 1)] rfl ?_ ?_; (· (repeat (first | exact trivial | (refine And.intro ?_ ?_; (· first | exact trivial | exact Or.inl ⟨_, rfl, rfl⟩ | exact ⟨_, rfl, rfl⟩ | exact Or.inr ⟨rfl, rfl, by decide⟩))))); (· (repeat (first | exact trivial | (refine And.intro ?_ ?_; (· first | exact trivial | exact Or.inl rfl | rfl | exact Or.inr ⟨_, _, _, _, rfl, rfl, rfl, renNo rfl⟩ | exact ⟨ne_no rfl, Or.inl ⟨_, rfl, rfl⟩⟩ | exact ⟨ne_no rfl, Or.inr ⟨rfl, _, rfl⟩⟩ | exact ⟨_, rfl, rfl, ne_no rfl⟩))))))) ?_
  · rcases Nat.eq_zero_or_pos n0 with h0 | h0
    · exact .inr ⟨h0, .inl rfl⟩
    · exact .inl ⟨h0, by simp⟩
  rintro ⟨us, sb, m, sl⟩ R ⟨hu, hsb, hm, hd⟩ hR
  simp only at hu hsb hm hd
  have hul : us.length = (dg BH m).length := by rw [hu, hl_len]
  have lm : (dg BH m).length ≤ (dg BH n0).length := dg_len_mono BH2 hm
  have lsl : sl.length ≤ 10 * ws.length + 1 := by
    rcases hd with ⟨_, hd⟩ | ⟨_, rfl | rfl⟩
    · have := congrArg List.length hd
      rw [List.length_append, decP_len n0] at this
      omega
    · simp
    · simp
  have hsz : sb.size = sl.length := by rw [hsb]; rfl
  have body : ∀ (K : List DV → Prop), (∀ qs rs, qs = hl (dg BH (m / 10)) → rs = hl (dg BH (m % 10)) → K [.one (.sl 1 1 qs), .one (.sl 1 1 rs)]) → π.call 121 [.one (.sl 1 1 us), .one (.sl 1 1 [[D.sc (.int .i64 10)]])] K := fun K hK => by
    refine rdiv_s h hu (b := [10]) rfl (dg_ok BH2 _) (Ok.of (by decide) Ok.nil) (by simp [Can]) (by decide) (by omega) (by simp) fun qs rs h1 h2 => ?_
    rw [val_one, dg_val BH2] at h1 h2
    exact hK qs rs h1 h2
  have h10 : m % 10 < 10 := Nat.mod_lt _ (by decide)
  have hgd : gd (dg BH (m % 10)) 0 = m % 10 := gd_dg BH2 (by rw [BH_eq]; omega)
  have fin : ∀ (sb2 : ByteArray), sb2 = bs (digC (m % 10) :: sl) → (0 < m ∨ sl = []) → ((0 < n0 ∧ decP (m / 10) ++ (digC (m % 10) :: sl) = decP n0) ∨ (n0 = 0 ∧ ((digC (m % 10) :: sl) = [] ∨ (digC (m % 10) :: sl) = [48]))) := fun sb2 hsb2 hgo => by
    rcases hd with ⟨h0, hd⟩ | ⟨h0, hd⟩
    · left
      refine ⟨h0, ?_⟩
      have hm0 : 0 < m := by
        rcases hgo with h | h
        · exact h
        · rcases Nat.eq_zero_or_pos m with h1 | h1
          · rw [h1, h, decP_zero] at hd
            have := congrArg List.length hd
            rw [decP_len, dg_step (by decide) h0] at this
            simp at this
          · exact h1
      rw [decP_step hm0] at hd
      rw [← hd]
      simp
    · right
      have hm0 : m = 0 := by omega
      refine ⟨h0, .inr ?_⟩
      have : sl = [] := by
        rcases hgo with h | h
        · omega
        · exact h
      rw [this, hm0]; rfl
  have meas : (0 < m ∨ sl = []) → m / 10 + (if (digC (m % 10) :: sl) = [] then 1 else 0) < m + (if sl = [] then 1 else 0) := fun hgo => by
    rw [if_neg (by simp)]
    rcases hgo with h | h
    · have : m / 10 < m := Nat.div_lt_self h (by decide)
      omega
    · rw [if_pos h]
      have : m / 10 ≤ m := Nat.div_le_self _ _
      omega
  cbv
  (refine Good.len' ‹_› ?_; intro _ _; cbv)
  refine h.dec rfl (fun hp => ?_) (fun hp => ?_)
  · have hgo : 0 < m ∨ sl = [] := .inl (Nat.pos_of_ne_zero fun h0 => by rw [h0, dg_zero, List.length_nil] at hul; (simp only [inR, cmpP, loOk, hiOk, Int.ofNat_eq_natCast, Int.negSucc_eq, IntKind.bits, Int.toNat_natCast, ge_iff_le, gt_iff_lt, ne_eq, wl_len, hl_len, natCast_fold, not_true_eq_false, not_false_eq_true] at * <;> omega))
    (cbv
     skip
     refine body _ fun qs rs hqs hrs => ?_
     cbv
     skip
     refine at_s h 0 hrs rfl fun c1 hc1 => ?_
     rw [hgd] at hc1
     cbv
     (refine Good.convi ‹_› ?_ ?_; (· (simp only [inR, cmpP, loOk, hiOk, Int.ofNat_eq_natCast, Int.negSucc_eq, IntKind.bits, Int.toNat_natCast, ge_iff_le, gt_iff_lt, ne_eq, wl_len, hl_len, natCast_fold, not_true_eq_false, not_false_eq_true] at * <;> omega)); cbv; refine Good.add' ‹_› ?_ ?_; (· (simp only [inR, cmpP, loOk, hiOk, Int.ofNat_eq_natCast, Int.negSucc_eq, IntKind.bits, Int.toNat_natCast, ge_iff_le, gt_iff_lt, ne_eq, wl_len, hl_len, natCast_fold, not_true_eq_false, not_false_eq_true] at * <;> omega)); intro _ _; cbv)
     rename_i c2 hc2
     refine h.ofb' [digC (m % 10)] ?_ fun s1 hs1 => ?_
     · have : c2 = (((digC (m % 10)).toNat : Nat) : Int) := by rw [digC_toNat h10]; (simp only [inR, cmpP, loOk, hiOk, Int.ofNat_eq_natCast, Int.negSucc_eq, IntKind.bits, Int.toNat_natCast, ge_iff_le, gt_iff_lt, ne_eq, wl_len, hl_len, natCast_fold, not_true_eq_false, not_false_eq_true] at * <;> omega)
       rw [this]; rfl
     have hs1 : s1 = bs [digC (m % 10)] := hs1
     cbv
     refine h.scat' ?_ fun s2 hs2 => ?_
     · rw [hs1, hsz]; show 1 + sl.length ≤ maxLen; simp [maxLen]; omega
     have hs2 : s2 = bs (digC (m % 10) :: sl) := by rw [hs2, hs1, hsb, bs_app]; rfl
     cbv
     skip
     refine hR _ (qs, s2, m / 10, digC (m % 10) :: sl) ⟨hqs, hs2, Nat.le_trans (Nat.div_le_self _ _) hm, fin s2 hs2 hgo⟩ (meas hgo) (by (refine Wk.of [(1, some 1)] rfl ?_ ?_; (· (repeat (first | exact trivial | (refine And.intro ?_ ?_; (· first | exact trivial | exact Or.inl ⟨_, rfl, rfl⟩ | exact ⟨_, rfl, rfl⟩ | exact Or.inr ⟨rfl, rfl, by decide⟩))))); (· (repeat (first | exact trivial | (refine And.intro ?_ ?_; (· first | exact trivial | exact Or.inl rfl | rfl | exact Or.inr ⟨_, _, _, _, rfl, rfl, rfl, renNo rfl⟩ | exact ⟨ne_no rfl, Or.inl ⟨_, rfl, rfl⟩⟩ | exact ⟨ne_no rfl, Or.inr ⟨rfl, _, rfl⟩⟩ | exact ⟨_, rfl, rfl, ne_no rfl⟩)))))))
    )
  · have hm0 : m = 0 := (dg_nil BH2).1 (List.eq_nil_of_length_eq_zero (by (simp only [inR, cmpP, loOk, hiOk, Int.ofNat_eq_natCast, Int.negSucc_eq, IntKind.bits, Int.toNat_natCast, ge_iff_le, gt_iff_lt, ne_eq, wl_len, hl_len, natCast_fold, not_true_eq_false, not_false_eq_true] at * <;> omega)))
    cbv
    skip
    refine scmp_s h hsb (l' := []) rfl fun c hc => ?_
    by_cases hle : sl = []
    · have : c = true := by rw [hc]; simp [hle]
      subst this
      have hgo : 0 < m ∨ sl = [] := .inr hle
      (cbv
       skip
       refine body _ fun qs rs hqs hrs => ?_
       cbv
       skip
       refine at_s h 0 hrs rfl fun c1 hc1 => ?_
       rw [hgd] at hc1
       cbv
       (refine Good.convi ‹_› ?_ ?_; (· (simp only [inR, cmpP, loOk, hiOk, Int.ofNat_eq_natCast, Int.negSucc_eq, IntKind.bits, Int.toNat_natCast, ge_iff_le, gt_iff_lt, ne_eq, wl_len, hl_len, natCast_fold, not_true_eq_false, not_false_eq_true] at * <;> omega)); cbv; refine Good.add' ‹_› ?_ ?_; (· (simp only [inR, cmpP, loOk, hiOk, Int.ofNat_eq_natCast, Int.negSucc_eq, IntKind.bits, Int.toNat_natCast, ge_iff_le, gt_iff_lt, ne_eq, wl_len, hl_len, natCast_fold, not_true_eq_false, not_false_eq_true] at * <;> omega)); intro _ _; cbv)
       rename_i c2 hc2
       refine h.ofb' [digC (m % 10)] ?_ fun s1 hs1 => ?_
       · have : c2 = (((digC (m % 10)).toNat : Nat) : Int) := by rw [digC_toNat h10]; (simp only [inR, cmpP, loOk, hiOk, Int.ofNat_eq_natCast, Int.negSucc_eq, IntKind.bits, Int.toNat_natCast, ge_iff_le, gt_iff_lt, ne_eq, wl_len, hl_len, natCast_fold, not_true_eq_false, not_false_eq_true] at * <;> omega)
         rw [this]; rfl
       have hs1 : s1 = bs [digC (m % 10)] := hs1
       cbv
       refine h.scat' ?_ fun s2 hs2 => ?_
       · rw [hs1, hsz]; show 1 + sl.length ≤ maxLen; simp [maxLen]; omega
       have hs2 : s2 = bs (digC (m % 10) :: sl) := by rw [hs2, hs1, hsb, bs_app]; rfl
       cbv
       skip
       refine hR _ (qs, s2, m / 10, digC (m % 10) :: sl) ⟨hqs, hs2, Nat.le_trans (Nat.div_le_self _ _) hm, fin s2 hs2 hgo⟩ (meas hgo) (by (refine Wk.of [(1, some 1)] rfl ?_ ?_; (· (repeat (first | exact trivial | (refine And.intro ?_ ?_; (· first | exact trivial | exact Or.inl ⟨_, rfl, rfl⟩ | exact ⟨_, rfl, rfl⟩ | exact Or.inr ⟨rfl, rfl, by decide⟩))))); (· (repeat (first | exact trivial | (refine And.intro ?_ ?_; (· first | exact trivial | exact Or.inl rfl | rfl | exact Or.inr ⟨_, _, _, _, rfl, rfl, rfl, renNo rfl⟩ | exact ⟨ne_no rfl, Or.inl ⟨_, rfl, rfl⟩⟩ | exact ⟨ne_no rfl, Or.inr ⟨rfl, _, rfl⟩⟩ | exact ⟨_, rfl, rfl, ne_no rfl⟩)))))))
      )
    · have : c = false := by rw [hc]; simp [hle]
      subst this
      have hsl : sl = dec n0 := by
        rcases hd with ⟨h0, hd⟩ | ⟨h0, hd | hd⟩
        · rw [hm0, decP_zero, List.nil_append] at hd
          rw [hd, dec, if_neg (by omega)]
        · exact absurd hd hle
        · rw [hd, dec, if_pos h0]
      cbv
      skip
      refine rsign_s h hz0 hl' fun c1 hc1 => ?_
      have c3 := sgnV_cases i
      cbv
      skip
      refine h.dec rfl (fun hp => ?_) (fun hp => ?_)
      · have hneg : i < 0 := by (simp only [inR, cmpP, loOk, hiOk, Int.ofNat_eq_natCast, Int.negSucc_eq, IntKind.bits, Int.toNat_natCast, ge_iff_le, gt_iff_lt, ne_eq, wl_len, hl_len, natCast_fold, not_true_eq_false, not_false_eq_true] at * <;> omega)
        cbv
        refine h.scat' ?_ fun s2 hs2 => ?_
        · rw [hsz]; show 1 + sl.length ≤ maxLen; simp [maxLen]; omega
        have : s2 = st := by
          rw [hs2, hst, hsb, show (⟨#[45]⟩ : ByteArray) = bs [45] from rfl, bs_app, fmtL, if_pos hneg, hia, hsl]; rfl
        rw [this]
        cbv
        skip
        exact hQ
      · have hneg : ¬ i < 0 := by (simp only [inR, cmpP, loOk, hiOk, Int.ofNat_eq_natCast, Int.negSucc_eq, IntKind.bits, Int.toNat_natCast, ge_iff_le, gt_iff_lt, ne_eq, wl_len, hl_len, natCast_fold, not_true_eq_false, not_false_eq_true] at * <;> omega)
        have : sb = st := by rw [hst, hsb, fmtL, if_neg hneg, hia, hsl]
        rw [this]
        cbv
        skip
        exact hQ
theorem text_s {π : Pi} (h : Good TT π) {K : List DV → Prop} {t l : Nat} {s : Bool} {xs : List (List D)} {i : Int} (hz : Zr s xs i l) (hl : l ≤ 100000) (hk : ∀ st, st = bs (fmtL i) → K [.one (.sc (.string st))]) : π.call 32 [za s t xs] K := h.call' _ (text_c hz hl rfl) (hk _ rfl)
end Go.Proofs.Ytpmlocilhhjifaa.Eng
