/- Strings as lists of bytes; what Parse answers; whole.Parse. -/
import Derived.Test.YtpmlocilhhjifaaRef7
set_option maxRecDepth 100000
set_option linter.unusedSimpArgs false
set_option linter.unusedVariables false
set_option pp.maxSteps 200
namespace Go.Proofs.Ytpmlocilhhjifaa.Eng
open Go.RowKit
def bs (l : List UInt8) : ByteArray := ⟨l.toArray⟩
theorem bs_size (l : List UInt8) : (bs l).size = l.length := rfl
theorem bs_get {l : List UInt8} {k : Nat} {c : UInt8} (h : l[k]? = some c) : (bs l)[k]? = some c := by
  obtain ⟨hk, rfl⟩ := List.getElem?_eq_some_iff.1 h
  exact getElem?_pos (bs l) k hk
theorem bs_drop (l : List UInt8) (k : Nat) : (bs l).extract k l.length = bs (l.drop k) := by
  apply ByteArray.ext
  rw [ByteArray.data_extract]
  apply Array.ext'
  rw [Array.toList_extract]
  show l.extract k l.length = l.drop k
  rw [List.extract_eq_take_drop, List.take_of_length_le (by simp)]
theorem bs_app (a b : List UInt8) : bs a ++ bs b = bs (a ++ b) := by
  apply ByteArray.ext
  rw [ByteArray.data_append]
  simp [bs]
theorem bs_inj {a b : List UInt8} (h : bs a = bs b) : a = b := by
  have := congrArg (fun x => x.data.toList) h
  simpa [bs] using this
theorem bs_toList (l : List UInt8) : (bs l).toList = l := by
  rw [Go.ByteArray.toList_eq]; rfl
theorem bs_of (s : ByteArray) : s = bs s.data.toList := rfl
theorem scmp_s {T : Nat → List DV → List DV → Prop} {π : Pi} (h : Good T π) {n : Bool} {s s' : ByteArray} {l l' : List UInt8} {K : Bool → Prop} (hs : s = bs l) (hs' : s' = bs l') (hk : ∀ c, c = (bif n then !decide (l = l') else decide (l = l')) → K c) : π.scmp n s s' K := by
  refine h.scmp' fun c hc => hk c ?_
  rw [hs, hs', bs_toList, bs_toList] at hc
  have e : (l == l') = decide (l = l') := by
    by_cases h : l = l' <;> simp [h]
  rw [e] at hc
  cases n <;> exact hc
def isDig (c : UInt8) : Bool := decide (48 ≤ c.toNat) && decide (c.toNat ≤ 57)
def num (l : List UInt8) : Nat := l.foldl (fun a c => 10 * a + (c.toNat - 48)) 0
theorem num_snoc (l : List UInt8) (c : UInt8) : num (l ++ [c]) = 10 * num l + (c.toNat - 48) := by simp [num]
theorem take_succ_u8 {l : List UInt8} {k : Nat} {c : UInt8} (hx : l[k]? = some c) : l.take (k + 1) = l.take k ++ [c] := by
  rw [List.take_add_one, hx]; rfl
theorem num_step {l : List UInt8} {k : Nat} {c : UInt8} (hx : l[k]? = some c) : num (l.take (k + 1)) = 10 * num (l.take k) + (c.toNat - 48) := by rw [take_succ_u8 hx, num_snoc]
theorem all_step {l : List UInt8} {k : Nat} {c : UInt8} (hx : l[k]? = some c) : (l.take (k + 1)).all isDig = ((l.take k).all isDig && isDig c) := by rw [take_succ_u8 hx]; simp
theorem num_lt (l : List UInt8) (h : l.all isDig = true) : num l < 10 ^ l.length := by
  obtain ⟨r, hr⟩ : ∃ r, r = l.reverse := ⟨_, rfl⟩
  have hl : l = r.reverse := by rw [hr, List.reverse_reverse]
  clear hr
  subst hl
  induction r with
  | nil => simp [num]
  | cons c r ih =>
    rw [List.reverse_cons] at h ⊢
    rw [num_snoc]
    simp only [List.all_append, Bool.and_eq_true, List.all_cons, List.all_nil, Bool.and_true] at h
    have h1 := ih h.1
    have h2 := h.2
    simp only [isDig, Bool.and_eq_true, decide_eq_true_eq] at h2
    rw [List.length_append, List.length_singleton, Nat.pow_succ]
    omega
def prD (neg : Bool) (l : List UInt8) : Int × Int :=
  if 1000 < l.length then (0, 5) else if l = [] ∨ (l[0]? = some 48 ∧ (neg = true ∨ 1 < l.length)) then (0, 3) else if l.all isDig = true then (sg neg (num l), 0) else (0, 3)
def prs (l : List UInt8) : Int × Int := if l[0]? = some 45 then prD true (l.drop 1) else prD false l
theorem u8_eq {c : UInt8} {n : Nat} (h : c.toNat = n) (hn : n < 256) : c = UInt8.ofNat n := by
  apply UInt8.toNat.inj
  rw [h, UInt8.toNat_ofNat', Nat.mod_eq_of_lt (by simpa using hn)]
theorem not_all {l : List UInt8} {k : Nat} {c : UInt8} (hx : l[k]? = some c) (h : isDig c = false) : l.all isDig = false := by
  rw [List.all_eq_false]
  exact ⟨c, List.mem_of_getElem? hx, by simp [h]⟩
theorem parse_c {s : ByteArray} {l0 : List UInt8} {b : Bool} {ys : List (List D)} {e0 : Int} (hs : s = bs l0) (hl0 : l0.length ≤ 1000000) (hy : Zc b ys (prs l0).1) (he : e0 = (prs l0).2) : TT 30 [.one (.sc (.string s))] [za b 1 ys, .one (.sc (.int .i64 e0))] := by
  refine con Try.func30 rfl (by kernel_rfl) (by kernel_rfl) fun π Q h hQ => ?_
  have hsl : s.size = l0.length := by rw [hs]; rfl
  cbv
  refine h.slen' fun n hn => ?_
  have hn : n = (l0.length : Int) := by rw [hn, hsl]
  cbv
  refine h.dec rfl (fun hp => ?_) (fun hp => ?_)
  · obtain ⟨c1, hg1⟩ : ∃ c1, l0[0]? = some c1 := ⟨l0[0]'(by (simp only [inR, cmpP, loOk, hiOk, Int.ofNat_eq_natCast, Int.negSucc_eq, IntKind.bits, Int.toNat_natCast, ge_iff_le, gt_iff_lt, ne_eq, wl_len, hl_len, natCast_fold, not_true_eq_false, not_false_eq_true] at * <;> omega)), List.getElem?_eq_getElem _⟩
    cbv
    refine h.sidx' 0 c1 rfl (by rw [hs]; exact bs_get hg1) fun m1 hm1 => ?_
    cbv
    refine h.dec rfl (fun hp1 => ?_) (fun hp1 => ?_)
    · have hc1 : c1 = 45 := u8_eq (n := 45) (by (simp only [inR, cmpP, loOk, hiOk, Int.ofNat_eq_natCast, Int.negSucc_eq, IntKind.bits, Int.toNat_natCast, ge_iff_le, gt_iff_lt, ne_eq, wl_len, hl_len, natCast_fold, not_true_eq_false, not_false_eq_true] at * <;> omega)) (by omega)
      subst hc1
      have hpr : prs l0 = prD true (l0.drop 1) := if_pos hg1
      rw [hpr] at hy he
      obtain ⟨l, hl⟩ : ∃ l, l = l0.drop 1 := ⟨_, rfl⟩
      have hll : l.length ≤ 1000000 := by rw [hl, List.length_drop]; omega
      rw [← hl] at hy he
      cbv
      refine h.ssli' 1 l0.length rfl (by rw [hsl]; rfl) (by (simp only [inR, cmpP, loOk, hiOk, Int.ofNat_eq_natCast, Int.negSucc_eq, IntKind.bits, Int.toNat_natCast, ge_iff_le, gt_iff_lt, ne_eq, wl_len, hl_len, natCast_fold, not_true_eq_false, not_false_eq_true] at * <;> omega)) (by rw [hsl]; exact Nat.le_refl _) fun d hd => ?_
      have hd : d = bs l := by rw [hd, hs, bs_drop, hl]
      clear hl hpr hg1
      cbv
      (have hdl : d.size = l.length := by rw [hd]; rfl
       refine h.slen' fun n0 hn0 => ?_
       have hn0 : n0 = (l.length : Int) := by rw [hn0, hdl]
       cbv
       refine h.dec rfl (fun hp => ?_) (fun hp => ?_)
       · have e : prD true l = (0, 5) := if_pos (by (simp only [inR, cmpP, loOk, hiOk, Int.ofNat_eq_natCast, Int.negSucc_eq, IntKind.bits, Int.toNat_natCast, ge_iff_le, gt_iff_lt, ne_eq, wl_len, hl_len, natCast_fold, not_true_eq_false, not_false_eq_true] at * <;> omega))
         rw [e] at hy he
         have e1 : DV.ag [.sc (.bool b), .sl 1 1 ys] = DV.ag [.sc (.bool false), .sl 1 1 []] := hy.eqs (s' := false) (xs' := []) (i' := 0) ⟨rfl, rfl⟩ rfl
         rw [e1, he] at hQ
         cbv
         skip
         exact hQ
       have hlen : l.length ≤ 1000 := by (simp only [inR, cmpP, loOk, hiOk, Int.ofNat_eq_natCast, Int.negSucc_eq, IntKind.bits, Int.toNat_natCast, ge_iff_le, gt_iff_lt, ne_eq, wl_len, hl_len, natCast_fold, not_true_eq_false, not_false_eq_true] at * <;> omega)
       cbv
       refine scmp_s h hd (l' := []) rfl fun c hc => ?_
       by_cases hl0 : l = []
       · have e : prD true l = (0, 3) := by unfold prD; rw [if_neg (by omega), if_pos (.inl hl0)]
         rw [e] at hy he
         have e1 : DV.ag [.sc (.bool b), .sl 1 1 ys] = DV.ag [.sc (.bool false), .sl 1 1 []] := hy.eqs (s' := false) (xs' := []) (i' := 0) ⟨rfl, rfl⟩ rfl
         rw [e1, he] at hQ
         have : c = true := by rw [hc]; simp [hl0]
         subst this
         cbv
         skip
         exact hQ
       have : c = false := by rw [hc]; simp [hl0]
       subst this
       have hlp : 0 < l.length := List.length_pos_iff.2 hl0
       obtain ⟨c0, hg0⟩ : ∃ c0, l[0]? = some c0 := ⟨l[0], List.getElem?_eq_getElem hlp⟩
       have hbad0 : ∀ q : (l[0]? = some 48 ∧ (true = true ∨ 1 < l.length)), prD true l = (0, 3) := fun q => by unfold prD; rw [if_neg (by omega), if_pos (.inr q)]
       cbv
       refine h.sidx' 0 c0 rfl (by rw [hd]; exact bs_get hg0) fun m0 hm0 => ?_
       cbv
      )
      refine h.dec rfl (fun hp => ?_) (fun hp => ?_)
      · have hc0 : c0 = 48 := u8_eq (n := 48) (by (simp only [inR, cmpP, loOk, hiOk, Int.ofNat_eq_natCast, Int.negSucc_eq, IntKind.bits, Int.toNat_natCast, ge_iff_le, gt_iff_lt, ne_eq, wl_len, hl_len, natCast_fold, not_true_eq_false, not_false_eq_true] at * <;> omega)) (by omega)
        rw [hc0] at hg0
        rw [hbad0 ⟨hg0, .inl rfl⟩] at hy he
        have e1 : DV.ag [.sc (.bool b), .sl 1 1 ys] = DV.ag [.sc (.bool false), .sl 1 1 []] := hy.eqs (s' := false) (xs' := []) (i' := 0) ⟨rfl, rfl⟩ rfl
        rw [e1, he] at hQ
        cbv
        skip
        exact hQ
      · have hform : ¬ (l = [] ∨ (l[0]? = some 48 ∧ (true = true ∨ 1 < l.length))) := by
          rintro (h1 | ⟨h1, _⟩)
          · exact hl0 h1
          · rw [hg0] at h1
            have := Option.some.inj h1
            subst this
            have q48 : UInt8.toNat 48 = 48 := rfl
            exact hp (by (simp only [inR, cmpP, loOk, hiOk, Int.ofNat_eq_natCast, Int.negSucc_eq, IntKind.bits, Int.toNat_natCast, ge_iff_le, gt_iff_lt, ne_eq, wl_len, hl_len, natCast_fold, not_true_eq_false, not_false_eq_true] at * <;> omega))
        cbv
        refine h.slen' fun n1 hn1 => ?_
        have hn1 : n1 = (l.length : Int) := by rw [hn1, hdl]
        cbv
        (refine h.loop' (Int × List (List D) × Nat × Nat) (fun p => p.1 = (p.2.2.2 : Int) ∧ p.2.1 = wl (dg BW (num (l.take p.2.2.2))) ∧ p.2.2.2 ≤ l.length ∧ (l.take p.2.2.2).all isDig = true ∧ (0 < p.2.2.2 → p.2.2.1 = 1))
           (fun p => ⟨[(0, .v (.one (.sc (.string d)))), (2, .p 2 0 0 0), (4, .v (.one (.sc (.bool true)))), (5, vs p.2.2.1 p.2.1), (39, vi .i64 n1), (40, vi .i64 p.1)], [(2, .bx [.sc (.bool false), .sl 1 1 []])]⟩) (fun p => l.length - p.2.2.2) (0, [], 3, 0) ⟨rfl, rfl, Nat.zero_le _, rfl, fun h => absurd h (Nat.lt_irrefl _)⟩ (by (refine Wk.of [(2, some 2)] rfl ?_ ?_; (· (repeat (first | exact trivial | (refine And.intro ?_ ?_; (· first | exact trivial | exact Or.inl ⟨_, rfl, rfl⟩ | exact ⟨_, rfl, rfl⟩ | exact Or.inr ⟨rfl, rfl, by decide⟩))))); (· (repeat (first | exact trivial | (refine And.intro ?_ ?_; (· first | exact trivial | exact Or.inl rfl | rfl | exact Or.inr ⟨_, _, _, _, rfl, rfl, rfl, renNo rfl⟩ | exact ⟨ne_no rfl, Or.inl ⟨_, rfl, rfl⟩⟩ | exact ⟨ne_no rfl, Or.inr ⟨rfl, _, rfl⟩⟩ | exact ⟨_, rfl, rfl, ne_no rfl⟩))))))) ?_
         rintro ⟨kz, ws, tw, k⟩ R ⟨hkz, hws, hk, hall, htw⟩ hR
         simp only at hkz hws hk hall htw
         have hnum := num_lt _ hall
         rw [List.length_take, Nat.min_eq_left hk] at hnum
         have hwl : (dg BW (num (l.take k))).length ≤ k := dg_len BW2 (Nat.lt_of_lt_of_le hnum (Nat.pow_le_pow_left (by decide) k))
         cbv
         refine h.dec rfl (fun hp => ?_) (fun hp => ?_)
         · obtain ⟨c, hgc⟩ : ∃ c, l[k]? = some c := ⟨l[k]'(by (simp only [inR, cmpP, loOk, hiOk, Int.ofNat_eq_natCast, Int.negSucc_eq, IntKind.bits, Int.toNat_natCast, ge_iff_le, gt_iff_lt, ne_eq, wl_len, hl_len, natCast_fold, not_true_eq_false, not_false_eq_true] at * <;> omega)), List.getElem?_eq_getElem _⟩
           have hc256 := c.toNat_lt
           cbv
           refine h.sidx' k c hkz (by rw [hd]; exact bs_get hgc) fun m hm => ?_
           cbv
           refine h.dec rfl (fun hp2 => ?_) (fun hp2 => ?_)
           · have hbad : l.all isDig = false := not_all hgc (by simp only [isDig]; have : ¬ 48 ≤ c.toNat := by (simp only [inR, cmpP, loOk, hiOk, Int.ofNat_eq_natCast, Int.negSucc_eq, IntKind.bits, Int.toNat_natCast, ge_iff_le, gt_iff_lt, ne_eq, wl_len, hl_len, natCast_fold, not_true_eq_false, not_false_eq_true] at * <;> omega)
                                                                simp [this])
             (have e : prD true l = (0, 3) := by
                unfold prD
                rw [if_neg (by omega), if_neg hform, if_neg (by rw [hbad]; simp)]
              rw [e] at hy he
              have e1 : DV.ag [.sc (.bool b), .sl 1 1 ys] = DV.ag [.sc (.bool false), .sl 1 1 []] := hy.eqs (s' := false) (xs' := []) (i' := 0) ⟨rfl, rfl⟩ rfl
              rw [e1, he] at hQ
              cbv
              skip
              exact hQ
             )
           · cbv
             skip
             refine h.sidx' k c hkz (by rw [hd]; exact bs_get hgc) fun m2 hm2 => ?_
             cbv
             refine h.dec rfl (fun hp3 => ?_) (fun hp3 => ?_)
             · have hbad : l.all isDig = false := not_all hgc (by simp only [isDig]; have : ¬ c.toNat ≤ 57 := by (simp only [inR, cmpP, loOk, hiOk, Int.ofNat_eq_natCast, Int.negSucc_eq, IntKind.bits, Int.toNat_natCast, ge_iff_le, gt_iff_lt, ne_eq, wl_len, hl_len, natCast_fold, not_true_eq_false, not_false_eq_true] at * <;> omega)
                                                                  simp [this])
               (have e : prD true l = (0, 3) := by
                  unfold prD
                  rw [if_neg (by omega), if_neg hform, if_neg (by rw [hbad]; simp)]
                rw [e] at hy he
                have e1 : DV.ag [.sc (.bool b), .sl 1 1 ys] = DV.ag [.sc (.bool false), .sl 1 1 []] := hy.eqs (s' := false) (xs' := []) (i' := 0) ⟨rfl, rfl⟩ rfl
                rw [e1, he] at hQ
                cbv
                skip
                exact hQ
               )
             · have h48 : 48 ≤ c.toNat := by (simp only [inR, cmpP, loOk, hiOk, Int.ofNat_eq_natCast, Int.negSucc_eq, IntKind.bits, Int.toNat_natCast, ge_iff_le, gt_iff_lt, ne_eq, wl_len, hl_len, natCast_fold, not_true_eq_false, not_false_eq_true] at * <;> omega)
               have h57 : c.toNat ≤ 57 := by (simp only [inR, cmpP, loOk, hiOk, Int.ofNat_eq_natCast, Int.negSucc_eq, IntKind.bits, Int.toNat_natCast, ge_iff_le, gt_iff_lt, ne_eq, wl_len, hl_len, natCast_fold, not_true_eq_false, not_false_eq_true] at * <;> omega)
               cbv
               refine mul_s h hws (b := [10]) rfl (dg_ok BW2 _) (Ok.of (by decide) Ok.nil) (by omega) (by simp) fun o1 z1 q1 q2 q3 q4 => ?_
               rw [val_one, dg_val BW2] at q4
               have q3' : o1.length = (dg BW (num (l.take k))).length + 1 := by rw [q3]; rfl
               cbv
               refine h.sidx' k c hkz (by rw [hd]; exact bs_get hgc) fun m3 hm3 => ?_
               cbv
               (refine Good.sub' ‹_› ?_ ?_; (· (simp only [inR, cmpP, loOk, hiOk, Int.ofNat_eq_natCast, Int.negSucc_eq, IntKind.bits, Int.toNat_natCast, ge_iff_le, gt_iff_lt, ne_eq, wl_len, hl_len, natCast_fold, not_true_eq_false, not_false_eq_true] at * <;> omega)); intro _ _; cbv; refine Good.convi ‹_› ?_ ?_; (· (simp only [inR, cmpP, loOk, hiOk, Int.ofNat_eq_natCast, Int.negSucc_eq, IntKind.bits, Int.toNat_natCast, ge_iff_le, gt_iff_lt, ne_eq, wl_len, hl_len, natCast_fold, not_true_eq_false, not_false_eq_true] at * <;> omega)); cbv)
               rename_i m4 hm4
               have hm4 : m4 = ((c.toNat - 48 : Nat) : Int) := by (simp only [inR, cmpP, loOk, hiOk, Int.ofNat_eq_natCast, Int.negSucc_eq, IntKind.bits, Int.toNat_natCast, ge_iff_le, gt_iff_lt, ne_eq, wl_len, hl_len, natCast_fold, not_true_eq_false, not_false_eq_true] at * <;> omega)
               have hcB : c.toNat - 48 < BW := by rw [BW_eq]; omega
               refine add_s h q1 (b := [c.toNat - 48]) (by rw [hm4]; rfl) q2 (Ok.of hcB Ok.nil) (by omega) (by simp) fun o2 z2 q5 q6 q7 q8 => ?_
               rw [val_one, q4] at q8
               have q7' : o2.length ≤ (dg BW (num (l.take k))).length + 3 := by rw [q7]; simp; omega
               cbv
               refine trim_s h q5 q6 (by omega) fun z3 q9 => ?_
               have hst := num_step hgc
               rw [q8, Nat.mul_comm, ← hst] at q9
               cbv
               (refine Good.chk' ‹_› rfl ?_; cbv; refine Good.add' ‹_› ?_ ?_; (· (simp only [inR, cmpP, loOk, hiOk, Int.ofNat_eq_natCast, Int.negSucc_eq, IntKind.bits, Int.toNat_natCast, ge_iff_le, gt_iff_lt, ne_eq, wl_len, hl_len, natCast_fold, not_true_eq_false, not_false_eq_true] at * <;> omega)); intro _ _; cbv)
               rename_i k1 hk1
               have hd1 : isDig c = true := by simp only [isDig]; simp [h48, h57]
               refine hR _ (k1, z3, 1, k + 1) ⟨by simp only; (simp only [inR, cmpP, loOk, hiOk, Int.ofNat_eq_natCast, Int.negSucc_eq, IntKind.bits, Int.toNat_natCast, ge_iff_le, gt_iff_lt, ne_eq, wl_len, hl_len, natCast_fold, not_true_eq_false, not_false_eq_true] at * <;> omega), q9, by simp only; (simp only [inR, cmpP, loOk, hiOk, Int.ofNat_eq_natCast, Int.negSucc_eq, IntKind.bits, Int.toNat_natCast, ge_iff_le, gt_iff_lt, ne_eq, wl_len, hl_len, natCast_fold, not_true_eq_false, not_false_eq_true] at * <;> omega), ?_, fun _ => rfl⟩ (by simp only; (simp only [inR, cmpP, loOk, hiOk, Int.ofNat_eq_natCast, Int.negSucc_eq, IntKind.bits, Int.toNat_natCast, ge_iff_le, gt_iff_lt, ne_eq, wl_len, hl_len, natCast_fold, not_true_eq_false, not_false_eq_true] at * <;> omega)) (by (refine Wk.of [(2, some 2)] rfl ?_ ?_; (· (repeat (first | exact trivial | (refine And.intro ?_ ?_; (· first | exact trivial | exact Or.inl ⟨_, rfl, rfl⟩ | exact ⟨_, rfl, rfl⟩ | exact Or.inr ⟨rfl, rfl, by decide⟩))))); (· (repeat (first | exact trivial | (refine And.intro ?_ ?_; (· first | exact trivial | exact Or.inl rfl | rfl | exact Or.inr ⟨_, _, _, _, rfl, rfl, rfl, renNo rfl⟩ | exact ⟨ne_no rfl, Or.inl ⟨_, rfl, rfl⟩⟩ | exact ⟨ne_no rfl, Or.inr ⟨rfl, _, rfl⟩⟩ | exact ⟨_, rfl, rfl, ne_no rfl⟩)))))))
               show (l.take (k + 1)).all isDig = true
               rw [all_step hgc, hall, hd1]; rfl
         · have hkl : k = l.length := by (simp only [inR, cmpP, loOk, hiOk, Int.ofNat_eq_natCast, Int.negSucc_eq, IntKind.bits, Int.toNat_natCast, ge_iff_le, gt_iff_lt, ne_eq, wl_len, hl_len, natCast_fold, not_true_eq_false, not_false_eq_true] at * <;> omega)
           rw [hkl, List.take_length] at hws hall hwl
           have e : prD true l = (sg true (num l), 0) := by
             unfold prD
             rw [if_neg (by omega), if_neg hform, if_pos hall]
           rw [e] at hy he
           cbv
           refine made_s h hws (dg_ok BW2 _) (by omega) fun b1 y1 hz1 => ?_
           have e1 : DV.ag [.sc (.bool b1), .sl 1 1 y1] = DV.ag [.sc (.bool b), .sl 1 1 ys] := hz1.eqs hy (by rw [dg_val BW2])
           have htw1 : tw = 1 := htw (by rw [hkl]; exact List.length_pos_iff.2 hl0)
           subst htw1
           rw [e1]
           rw [he] at hQ
           cbv
           skip
           exact hQ
        )
    · have hc1 : c1 ≠ 45 := fun e => hp1 (by rw [e] at hm1; have : (UInt8.toNat 45) = 45 := rfl; (simp only [inR, cmpP, loOk, hiOk, Int.ofNat_eq_natCast, Int.negSucc_eq, IntKind.bits, Int.toNat_natCast, ge_iff_le, gt_iff_lt, ne_eq, wl_len, hl_len, natCast_fold, not_true_eq_false, not_false_eq_true] at * <;> omega))
      have hpr : prs l0 = prD false l0 := if_neg (by rw [hg1]; exact fun e => hc1 (Option.some.inj e))
      rw [hpr] at hy he
      obtain ⟨l, hl⟩ : ∃ l, l = l0 := ⟨_, rfl⟩
      obtain ⟨d, hdd⟩ : ∃ d, d = s := ⟨_, rfl⟩
      subst hl hdd
      have hd := hs
      have hll := hl0
      cbv
      (have hdl : d.size = l.length := by rw [hd]; rfl
       refine h.slen' fun n0 hn0 => ?_
       have hn0 : n0 = (l.length : Int) := by rw [hn0, hdl]
       cbv
       refine h.dec rfl (fun hp => ?_) (fun hp => ?_)
       · have e : prD false l = (0, 5) := if_pos (by (simp only [inR, cmpP, loOk, hiOk, Int.ofNat_eq_natCast, Int.negSucc_eq, IntKind.bits, Int.toNat_natCast, ge_iff_le, gt_iff_lt, ne_eq, wl_len, hl_len, natCast_fold, not_true_eq_false, not_false_eq_true] at * <;> omega))
         rw [e] at hy he
         have e1 : DV.ag [.sc (.bool b), .sl 1 1 ys] = DV.ag [.sc (.bool false), .sl 1 1 []] := hy.eqs (s' := false) (xs' := []) (i' := 0) ⟨rfl, rfl⟩ rfl
         rw [e1, he] at hQ
         cbv
         skip
         exact hQ
       have hlen : l.length ≤ 1000 := by (simp only [inR, cmpP, loOk, hiOk, Int.ofNat_eq_natCast, Int.negSucc_eq, IntKind.bits, Int.toNat_natCast, ge_iff_le, gt_iff_lt, ne_eq, wl_len, hl_len, natCast_fold, not_true_eq_false, not_false_eq_true] at * <;> omega)
       cbv
       refine scmp_s h hd (l' := []) rfl fun c hc => ?_
       by_cases hl0 : l = []
       · have e : prD false l = (0, 3) := by unfold prD; rw [if_neg (by omega), if_pos (.inl hl0)]
         rw [e] at hy he
         have e1 : DV.ag [.sc (.bool b), .sl 1 1 ys] = DV.ag [.sc (.bool false), .sl 1 1 []] := hy.eqs (s' := false) (xs' := []) (i' := 0) ⟨rfl, rfl⟩ rfl
         rw [e1, he] at hQ
         have : c = true := by rw [hc]; simp [hl0]
         subst this
         cbv
         skip
         exact hQ
       have : c = false := by rw [hc]; simp [hl0]
       subst this
       have hlp : 0 < l.length := List.length_pos_iff.2 hl0
       obtain ⟨c0, hg0⟩ : ∃ c0, l[0]? = some c0 := ⟨l[0], List.getElem?_eq_getElem hlp⟩
       have hbad0 : ∀ q : (l[0]? = some 48 ∧ (false = true ∨ 1 < l.length)), prD false l = (0, 3) := fun q => by unfold prD; rw [if_neg (by omega), if_pos (.inr q)]
       cbv
       refine h.sidx' 0 c0 rfl (by rw [hd]; exact bs_get hg0) fun m0 hm0 => ?_
       cbv
      )
      refine h.dec rfl (fun hp => ?_) (fun hp => ?_)
      · have hc0 : c0 = 48 := u8_eq (n := 48) (by (simp only [inR, cmpP, loOk, hiOk, Int.ofNat_eq_natCast, Int.negSucc_eq, IntKind.bits, Int.toNat_natCast, ge_iff_le, gt_iff_lt, ne_eq, wl_len, hl_len, natCast_fold, not_true_eq_false, not_false_eq_true] at * <;> omega)) (by omega)
        rw [hc0] at hg0
        cbv
        refine h.slen' fun n1 hn1 => ?_
        have hn1 : n1 = (l.length : Int) := by rw [hn1, hdl]
        cbv
        refine h.dec rfl (fun hp2 => ?_) (fun hp2 => ?_)
        · rw [hbad0 ⟨hg0, .inr (by (simp only [inR, cmpP, loOk, hiOk, Int.ofNat_eq_natCast, Int.negSucc_eq, IntKind.bits, Int.toNat_natCast, ge_iff_le, gt_iff_lt, ne_eq, wl_len, hl_len, natCast_fold, not_true_eq_false, not_false_eq_true] at * <;> omega))⟩] at hy he
          have e1 : DV.ag [.sc (.bool b), .sl 1 1 ys] = DV.ag [.sc (.bool false), .sl 1 1 []] := hy.eqs (s' := false) (xs' := []) (i' := 0) ⟨rfl, rfl⟩ rfl
          rw [e1, he] at hQ
          cbv
          skip
          exact hQ
        · have hform : ¬ (l = [] ∨ (l[0]? = some 48 ∧ (false = true ∨ 1 < l.length))) := by
            rintro (h1 | ⟨_, h1 | h1⟩)
            · exact hl0 h1
            · cases h1
            · (simp only [inR, cmpP, loOk, hiOk, Int.ofNat_eq_natCast, Int.negSucc_eq, IntKind.bits, Int.toNat_natCast, ge_iff_le, gt_iff_lt, ne_eq, wl_len, hl_len, natCast_fold, not_true_eq_false, not_false_eq_true] at * <;> omega)
          cbv
          refine h.slen' fun n1 hn1 => ?_
          have hn1 : n1 = (l.length : Int) := by rw [hn1, hdl]
          cbv
          (refine h.loop' (Int × List (List D) × Nat × Nat) (fun p => p.1 = (p.2.2.2 : Int) ∧ p.2.1 = wl (dg BW (num (l.take p.2.2.2))) ∧ p.2.2.2 ≤ l.length ∧ (l.take p.2.2.2).all isDig = true ∧ (0 < p.2.2.2 → p.2.2.1 = 1))
             (fun p => ⟨[(0, .v (.one (.sc (.string d)))), (2, .p 2 0 0 0), (4, .v (.one (.sc (.bool false)))), (5, vs p.2.2.1 p.2.1), (39, vi .i64 n1), (40, vi .i64 p.1)], [(2, .bx [.sc (.bool false), .sl 1 1 []])]⟩) (fun p => l.length - p.2.2.2) (0, [], 3, 0) ⟨rfl, rfl, Nat.zero_le _, rfl, fun h => absurd h (Nat.lt_irrefl _)⟩ (by (refine Wk.of [(2, some 2)] rfl ?_ ?_; (· (repeat (first | exact trivial | (refine And.intro ?_ ?_; (· first | exact trivial | exact Or.inl ⟨_, rfl, rfl⟩ | exact ⟨_, rfl, rfl⟩ | exact Or.inr ⟨rfl, rfl, by decide⟩))))); (· (repeat (first | exact trivial | (refine And.intro ?_ ?_; (· first | exact trivial | exact Or.inl rfl | rfl | exact Or.inr ⟨_, _, _, _, rfl, rfl, rfl, renNo rfl⟩ | exact ⟨ne_no rfl, Or.inl ⟨_, rfl, rfl⟩⟩ | exact ⟨ne_no rfl, Or.inr ⟨rfl, _, rfl⟩⟩ | exact ⟨_, rfl, rfl, ne_no rfl⟩))))))) ?_
           rintro ⟨kz, ws, tw, k⟩ R ⟨hkz, hws, hk, hall, htw⟩ hR
           simp only at hkz hws hk hall htw
           have hnum := num_lt _ hall
           rw [List.length_take, Nat.min_eq_left hk] at hnum
           have hwl : (dg BW (num (l.take k))).length ≤ k := dg_len BW2 (Nat.lt_of_lt_of_le hnum (Nat.pow_le_pow_left (by decide) k))
           cbv
           refine h.dec rfl (fun hp => ?_) (fun hp => ?_)
           · obtain ⟨c, hgc⟩ : ∃ c, l[k]? = some c := ⟨l[k]'(by (simp only [inR, cmpP, loOk, hiOk, Int.ofNat_eq_natCast, Int.negSucc_eq, IntKind.bits, Int.toNat_natCast, ge_iff_le, gt_iff_lt, ne_eq, wl_len, hl_len, natCast_fold, not_true_eq_false, not_false_eq_true] at * <;> omega)), List.getElem?_eq_getElem _⟩
             have hc256 := c.toNat_lt
             cbv
             refine h.sidx' k c hkz (by rw [hd]; exact bs_get hgc) fun m hm => ?_
             cbv
             refine h.dec rfl (fun hp2 => ?_) (fun hp2 => ?_)
             · have hbad : l.all isDig = false := not_all hgc (by simp only [isDig]; have : ¬ 48 ≤ c.toNat := by (simp only [inR, cmpP, loOk, hiOk, Int.ofNat_eq_natCast, Int.negSucc_eq, IntKind.bits, Int.toNat_natCast, ge_iff_le, gt_iff_lt, ne_eq, wl_len, hl_len, natCast_fold, not_true_eq_false, not_false_eq_true] at * <;> omega)
                                                                  simp [this])
               (have e : prD false l = (0, 3) := by
                  unfold prD
                  rw [if_neg (by omega), if_neg hform, if_neg (by rw [hbad]; simp)]
                rw [e] at hy he
                have e1 : DV.ag [.sc (.bool b), .sl 1 1 ys] = DV.ag [.sc (.bool false), .sl 1 1 []] := hy.eqs (s' := false) (xs' := []) (i' := 0) ⟨rfl, rfl⟩ rfl
                rw [e1, he] at hQ
                cbv
                skip
                exact hQ
               )
             · cbv
               skip
               refine h.sidx' k c hkz (by rw [hd]; exact bs_get hgc) fun m2 hm2 => ?_
               cbv
               refine h.dec rfl (fun hp3 => ?_) (fun hp3 => ?_)
               · have hbad : l.all isDig = false := not_all hgc (by simp only [isDig]; have : ¬ c.toNat ≤ 57 := by (simp only [inR, cmpP, loOk, hiOk, Int.ofNat_eq_natCast, Int.negSucc_eq, IntKind.bits, Int.toNat_natCast, ge_iff_le, gt_iff_lt, ne_eq, wl_len, hl_len, natCast_fold, not_true_eq_false, not_false_eq_true] at * <;> omega)
                                                                    simp [this])
                 (have e : prD false l = (0, 3) := by
                    unfold prD
                    rw [if_neg (by omega), if_neg hform, if_neg (by rw [hbad]; simp)]
                  rw [e] at hy he
                  have e1 : DV.ag [.sc (.bool b), .sl 1 1 ys] = DV.ag [.sc (.bool false), .sl 1 1 []] := hy.eqs (s' := false) (xs' := []) (i' := 0) ⟨rfl, rfl⟩ rfl
                  rw [e1, he] at hQ
                  cbv
                  skip
                  exact hQ
                 )
               · have h48 : 48 ≤ c.toNat := by (simp only [inR, cmpP, loOk, hiOk, Int.ofNat_eq_natCast, Int.negSucc_eq, IntKind.bits, Int.toNat_natCast, ge_iff_le, gt_iff_lt, ne_eq, wl_len, hl_len, natCast_fold, not_true_eq_false, not_false_eq_true] at * <;> omega)
                 have h57 : c.toNat ≤ 57 := by (simp only [inR, cmpP, loOk, hiOk, Int.ofNat_eq_natCast, Int.negSucc_eq, IntKind.bits, Int.toNat_natCast, ge_iff_le, gt_iff_lt, ne_eq, wl_len, hl_len, natCast_fold, not_true_eq_false, not_false_eq_true] at * <;> omega)
                 cbv
                 refine mul_s h hws (b := [10]) rfl (dg_ok BW2 _) (Ok.of (by decide) Ok.nil) (by omega) (by simp) fun o1 z1 q1 q2 q3 q4 => ?_
                 rw [val_one, dg_val BW2] at q4
                 have q3' : o1.length = (dg BW (num (l.take k))).length + 1 := by rw [q3]; rfl
                 cbv
                 refine h.sidx' k c hkz (by rw [hd]; exact bs_get hgc) fun m3 hm3 => ?_
                 cbv
                 (refine Good.sub' ‹_› ?_ ?_; (· (simp only [inR, cmpP, loOk, hiOk, Int.ofNat_eq_natCast, Int.negSucc_eq, IntKind.bits, Int.toNat_natCast, ge_iff_le, gt_iff_lt, ne_eq, wl_len, hl_len, natCast_fold, not_true_eq_false, not_false_eq_true] at * <;> omega)); intro _ _; cbv; refine Good.convi ‹_› ?_ ?_; (· (simp only [inR, cmpP, loOk, hiOk, Int.ofNat_eq_natCast, Int.negSucc_eq, IntKind.bits, Int.toNat_natCast, ge_iff_le, gt_iff_lt, ne_eq, wl_len, hl_len, natCast_fold, not_true_eq_false, not_false_eq_true] at * <;> omega)); cbv)
                 rename_i m4 hm4
                 have hm4 : m4 = ((c.toNat - 48 : Nat) : Int) := by (simp only [inR, cmpP, loOk, hiOk, Int.ofNat_eq_natCast, Int.negSucc_eq, IntKind.bits, Int.toNat_natCast, ge_iff_le, gt_iff_lt, ne_eq, wl_len, hl_len, natCast_fold, not_true_eq_false, not_false_eq_true] at * <;> omega)
                 have hcB : c.toNat - 48 < BW := by rw [BW_eq]; omega
                 refine add_s h q1 (b := [c.toNat - 48]) (by rw [hm4]; rfl) q2 (Ok.of hcB Ok.nil) (by omega) (by simp) fun o2 z2 q5 q6 q7 q8 => ?_
                 rw [val_one, q4] at q8
                 have q7' : o2.length ≤ (dg BW (num (l.take k))).length + 3 := by rw [q7]; simp; omega
                 cbv
                 refine trim_s h q5 q6 (by omega) fun z3 q9 => ?_
                 have hst := num_step hgc
                 rw [q8, Nat.mul_comm, ← hst] at q9
                 cbv
                 (refine Good.chk' ‹_› rfl ?_; cbv; refine Good.add' ‹_› ?_ ?_; (· (simp only [inR, cmpP, loOk, hiOk, Int.ofNat_eq_natCast, Int.negSucc_eq, IntKind.bits, Int.toNat_natCast, ge_iff_le, gt_iff_lt, ne_eq, wl_len, hl_len, natCast_fold, not_true_eq_false, not_false_eq_true] at * <;> omega)); intro _ _; cbv)
                 rename_i k1 hk1
                 have hd1 : isDig c = true := by simp only [isDig]; simp [h48, h57]
                 refine hR _ (k1, z3, 1, k + 1) ⟨by simp only; (simp only [inR, cmpP, loOk, hiOk, Int.ofNat_eq_natCast, Int.negSucc_eq, IntKind.bits, Int.toNat_natCast, ge_iff_le, gt_iff_lt, ne_eq, wl_len, hl_len, natCast_fold, not_true_eq_false, not_false_eq_true] at * <;> omega), q9, by simp only; (simp only [inR, cmpP, loOk, hiOk, Int.ofNat_eq_natCast, Int.negSucc_eq, IntKind.bits, Int.toNat_natCast, ge_iff_le, gt_iff_lt, ne_eq, wl_len, hl_len, natCast_fold, not_true_eq_false, not_false_eq_true] at * <;> omega), ?_, fun _ => rfl⟩ (by simp only; (simp only [inR, cmpP, loOk, hiOk, Int.ofNat_eq_natCast, Int.negSucc_eq, IntKind.bits, Int.toNat_natCast, ge_iff_le, gt_iff_lt, ne_eq, wl_len, hl_len, natCast_fold, not_true_eq_false, not_false_eq_true] at * <;> omega)) (by (refine Wk.of [(2, some 2)] rfl ?_ ?_; (· (repeat (first | exact trivial | (refine And.intro ?_ ?_; (· first | exact trivial | exact Or.inl ⟨_, rfl, rfl⟩ | exact ⟨_, rfl, rfl⟩ | exact Or.inr ⟨rfl, rfl, by decide⟩))))); (· (repeat (first | exact trivial | (refine And.intro ?_ ?_; (· first | exact trivial | exact Or.inl rfl | rfl | exact Or.inr ⟨_, _, _, _, rfl, rfl, rfl, renNo rfl⟩ | exact ⟨ne_no rfl, Or.inl ⟨_, rfl, rfl⟩⟩ | exact ⟨ne_no rfl, Or.inr ⟨rfl, _, rfl⟩⟩ | exact ⟨_, rfl, rfl, ne_no rfl⟩)))))))
                 show (l.take (k + 1)).all isDig = true
                 rw [all_step hgc, hall, hd1]; rfl
           · have hkl : k = l.length := by (simp only [inR, cmpP, loOk, hiOk, Int.ofNat_eq_natCast, Int.negSucc_eq, IntKind.bits, Int.toNat_natCast, ge_iff_le, gt_iff_lt, ne_eq, wl_len, hl_len, natCast_fold, not_true_eq_false, not_false_eq_true] at * <;> omega)
             rw [hkl, List.take_length] at hws hall hwl
             have e : prD false l = (sg false (num l), 0) := by
               unfold prD
               rw [if_neg (by omega), if_neg hform, if_pos hall]
             rw [e] at hy he
             cbv
             refine made_s h hws (dg_ok BW2 _) (by omega) fun b1 y1 hz1 => ?_
             have e1 : DV.ag [.sc (.bool b1), .sl 1 1 y1] = DV.ag [.sc (.bool b), .sl 1 1 ys] := hz1.eqs hy (by rw [dg_val BW2])
             have htw1 : tw = 1 := htw (by rw [hkl]; exact List.length_pos_iff.2 hl0)
             subst htw1
             rw [e1]
             rw [he] at hQ
             cbv
             skip
             exact hQ
          )
      · have hform : ¬ (l = [] ∨ (l[0]? = some 48 ∧ (false = true ∨ 1 < l.length))) := by
          rintro (h1 | ⟨h1, _⟩)
          · exact hl0 h1
          · rw [hg0] at h1
            have := Option.some.inj h1
            subst this
            have q48 : UInt8.toNat 48 = 48 := rfl
            exact hp (by (simp only [inR, cmpP, loOk, hiOk, Int.ofNat_eq_natCast, Int.negSucc_eq, IntKind.bits, Int.toNat_natCast, ge_iff_le, gt_iff_lt, ne_eq, wl_len, hl_len, natCast_fold, not_true_eq_false, not_false_eq_true] at * <;> omega))
        cbv
        refine h.slen' fun n1 hn1 => ?_
        have hn1 : n1 = (l.length : Int) := by rw [hn1, hdl]
        cbv
        (refine h.loop' (Int × List (List D) × Nat × Nat) (fun p => p.1 = (p.2.2.2 : Int) ∧ p.2.1 = wl (dg BW (num (l.take p.2.2.2))) ∧ p.2.2.2 ≤ l.length ∧ (l.take p.2.2.2).all isDig = true ∧ (0 < p.2.2.2 → p.2.2.1 = 1))
           (fun p => ⟨[(0, .v (.one (.sc (.string d)))), (2, .p 2 0 0 0), (4, .v (.one (.sc (.bool false)))), (5, vs p.2.2.1 p.2.1), (39, vi .i64 n1), (40, vi .i64 p.1)], [(2, .bx [.sc (.bool false), .sl 1 1 []])]⟩) (fun p => l.length - p.2.2.2) (0, [], 3, 0) ⟨rfl, rfl, Nat.zero_le _, rfl, fun h => absurd h (Nat.lt_irrefl _)⟩ (by (refine Wk.of [(2, some 2)] rfl ?_ ?_; (· (repeat (first | exact trivial | (refine And.intro ?_ ?_; (· first | exact trivial | exact Or.inl ⟨_, rfl, rfl⟩ | exact ⟨_, rfl, rfl⟩ | exact Or.inr ⟨rfl, rfl, by decide⟩))))); (· (repeat (first | exact trivial | (refine And.intro ?_ ?_; (· first | exact trivial | exact Or.inl rfl | rfl | exact Or.inr ⟨_, _, _, _, rfl, rfl, rfl, renNo rfl⟩ | exact ⟨ne_no rfl, Or.inl ⟨_, rfl, rfl⟩⟩ | exact ⟨ne_no rfl, Or.inr ⟨rfl, _, rfl⟩⟩ | exact ⟨_, rfl, rfl, ne_no rfl⟩))))))) ?_
         rintro ⟨kz, ws, tw, k⟩ R ⟨hkz, hws, hk, hall, htw⟩ hR
         simp only at hkz hws hk hall htw
         have hnum := num_lt _ hall
         rw [List.length_take, Nat.min_eq_left hk] at hnum
         have hwl : (dg BW (num (l.take k))).length ≤ k := dg_len BW2 (Nat.lt_of_lt_of_le hnum (Nat.pow_le_pow_left (by decide) k))
         cbv
         refine h.dec rfl (fun hp => ?_) (fun hp => ?_)
         · obtain ⟨c, hgc⟩ : ∃ c, l[k]? = some c := ⟨l[k]'(by (simp only [inR, cmpP, loOk, hiOk, Int.ofNat_eq_natCast, Int.negSucc_eq, IntKind.bits, Int.toNat_natCast, ge_iff_le, gt_iff_lt, ne_eq, wl_len, hl_len, natCast_fold, not_true_eq_false, not_false_eq_true] at * <;> omega)), List.getElem?_eq_getElem _⟩
           have hc256 := c.toNat_lt
           cbv
           refine h.sidx' k c hkz (by rw [hd]; exact bs_get hgc) fun m hm => ?_
           cbv
           refine h.dec rfl (fun hp2 => ?_) (fun hp2 => ?_)
           · have hbad : l.all isDig = false := not_all hgc (by simp only [isDig]; have : ¬ 48 ≤ c.toNat := by (simp only [inR, cmpP, loOk, hiOk, Int.ofNat_eq_natCast, Int.negSucc_eq, IntKind.bits, Int.toNat_natCast, ge_iff_le, gt_iff_lt, ne_eq, wl_len, hl_len, natCast_fold, not_true_eq_false, not_false_eq_true] at * <;> omega)
                                                                simp [this])
             (have e : prD false l = (0, 3) := by
                unfold prD
                rw [if_neg (by omega), if_neg hform, if_neg (by rw [hbad]; simp)]
              rw [e] at hy he
              have e1 : DV.ag [.sc (.bool b), .sl 1 1 ys] = DV.ag [.sc (.bool false), .sl 1 1 []] := hy.eqs (s' := false) (xs' := []) (i' := 0) ⟨rfl, rfl⟩ rfl
              rw [e1, he] at hQ
              cbv
              skip
              exact hQ
             )
           · cbv
             skip
             refine h.sidx' k c hkz (by rw [hd]; exact bs_get hgc) fun m2 hm2 => ?_
             cbv
             refine h.dec rfl (fun hp3 => ?_) (fun hp3 => ?_)
             · have hbad : l.all isDig = false := not_all hgc (by simp only [isDig]; have : ¬ c.toNat ≤ 57 := by (simp only [inR, cmpP, loOk, hiOk, Int.ofNat_eq_natCast, Int.negSucc_eq, IntKind.bits, Int.toNat_natCast, ge_iff_le, gt_iff_lt, ne_eq, wl_len, hl_len, natCast_fold, not_true_eq_false, not_false_eq_true] at * <;> omega)
                                                                  simp [this])
               (have e : prD false l = (0, 3) := by
                  unfold prD
                  rw [if_neg (by omega), if_neg hform, if_neg (by rw [hbad]; simp)]
                rw [e] at hy he
                have e1 : DV.ag [.sc (.bool b), .sl 1 1 ys] = DV.ag [.sc (.bool false), .sl 1 1 []] := hy.eqs (s' := false) (xs' := []) (i' := 0) ⟨rfl, rfl⟩ rfl
                rw [e1, he] at hQ
                cbv
                skip
                exact hQ
               )
             · have h48 : 48 ≤ c.toNat := by (simp only [inR, cmpP, loOk, hiOk, Int.ofNat_eq_natCast, Int.negSucc_eq, IntKind.bits, Int.toNat_natCast, ge_iff_le, gt_iff_lt, ne_eq, wl_len, hl_len, natCast_fold, not_true_eq_false, not_false_eq_true] at * <;> omega)
               have h57 : c.toNat ≤ 57 := by (simp only [inR, cmpP, loOk, hiOk, Int.ofNat_eq_natCast, Int.negSucc_eq, IntKind.bits, Int.toNat_natCast, ge_iff_le, gt_iff_lt, ne_eq, wl_len, hl_len, natCast_fold, not_true_eq_false, not_false_eq_true] at * <;> omega)
               cbv
               refine mul_s h hws (b := [10]) rfl (dg_ok BW2 _) (Ok.of (by decide) Ok.nil) (by omega) (by simp) fun o1 z1 q1 q2 q3 q4 => ?_
               rw [val_one, dg_val BW2] at q4
               have q3' : o1.length = (dg BW (num (l.take k))).length + 1 := by rw [q3]; rfl
               cbv
               refine h.sidx' k c hkz (by rw [hd]; exact bs_get hgc) fun m3 hm3 => ?_
               cbv
               (refine Good.sub' ‹_› ?_ ?_; (· (simp only [inR, cmpP, loOk, hiOk, Int.ofNat_eq_natCast, Int.negSucc_eq, IntKind.bits, Int.toNat_natCast, ge_iff_le, gt_iff_lt, ne_eq, wl_len, hl_len, natCast_fold, not_true_eq_false, not_false_eq_true] at * <;> omega)); intro _ _; cbv; refine Good.convi ‹_› ?_ ?_; (· (simp only [inR, cmpP, loOk, hiOk, Int.ofNat_eq_natCast, Int.negSucc_eq, IntKind.bits, Int.toNat_natCast, ge_iff_le, gt_iff_lt, ne_eq, wl_len, hl_len, natCast_fold, not_true_eq_false, not_false_eq_true] at * <;> omega)); cbv)
               rename_i m4 hm4
               have hm4 : m4 = ((c.toNat - 48 : Nat) : Int) := by (simp only [inR, cmpP, loOk, hiOk, Int.ofNat_eq_natCast, Int.negSucc_eq, IntKind.bits, Int.toNat_natCast, ge_iff_le, gt_iff_lt, ne_eq, wl_len, hl_len, natCast_fold, not_true_eq_false, not_false_eq_true] at * <;> omega)
               have hcB : c.toNat - 48 < BW := by rw [BW_eq]; omega
               refine add_s h q1 (b := [c.toNat - 48]) (by rw [hm4]; rfl) q2 (Ok.of hcB Ok.nil) (by omega) (by simp) fun o2 z2 q5 q6 q7 q8 => ?_
               rw [val_one, q4] at q8
               have q7' : o2.length ≤ (dg BW (num (l.take k))).length + 3 := by rw [q7]; simp; omega
               cbv
               refine trim_s h q5 q6 (by omega) fun z3 q9 => ?_
               have hst := num_step hgc
               rw [q8, Nat.mul_comm, ← hst] at q9
               cbv
               (refine Good.chk' ‹_› rfl ?_; cbv; refine Good.add' ‹_› ?_ ?_; (· (simp only [inR, cmpP, loOk, hiOk, Int.ofNat_eq_natCast, Int.negSucc_eq, IntKind.bits, Int.toNat_natCast, ge_iff_le, gt_iff_lt, ne_eq, wl_len, hl_len, natCast_fold, not_true_eq_false, not_false_eq_true] at * <;> omega)); intro _ _; cbv)
               rename_i k1 hk1
               have hd1 : isDig c = true := by simp only [isDig]; simp [h48, h57]
               refine hR _ (k1, z3, 1, k + 1) ⟨by simp only; (simp only [inR, cmpP, loOk, hiOk, Int.ofNat_eq_natCast, Int.negSucc_eq, IntKind.bits, Int.toNat_natCast, ge_iff_le, gt_iff_lt, ne_eq, wl_len, hl_len, natCast_fold, not_true_eq_false, not_false_eq_true] at * <;> omega), q9, by simp only; (simp only [inR, cmpP, loOk, hiOk, Int.ofNat_eq_natCast, Int.negSucc_eq, IntKind.bits, Int.toNat_natCast, ge_iff_le, gt_iff_lt, ne_eq, wl_len, hl_len, natCast_fold, not_true_eq_false, not_false_eq_true] at * <;> omega), ?_, fun _ => rfl⟩ (by simp only; (simp only [inR, cmpP, loOk, hiOk, Int.ofNat_eq_natCast, Int.negSucc_eq, IntKind.bits, Int.toNat_natCast, ge_iff_le, gt_iff_lt, ne_eq, wl_len, hl_len, natCast_fold, not_true_eq_false, not_false_eq_true] at * <;> omega)) (by (refine Wk.of [(2, some 2)] rfl ?_ ?_; (· (repeat (first | exact trivial | (refine And.intro ?_ ?_; (· first | exact trivial | exact Or.inl ⟨_, rfl, rfl⟩ | exact ⟨_, rfl, rfl⟩ | exact Or.inr ⟨rfl, rfl, by decide⟩))))); (· (repeat (first | exact trivial | (refine And.intro ?_ ?_; (· first | exact trivial | exact Or.inl rfl | rfl | exact Or.inr ⟨_, _, _, _, rfl, rfl, rfl, renNo rfl⟩ | exact ⟨ne_no rfl, Or.inl ⟨_, rfl, rfl⟩⟩ | exact ⟨ne_no rfl, Or.inr ⟨rfl, _, rfl⟩⟩ | exact ⟨_, rfl, rfl, ne_no rfl⟩)))))))
               show (l.take (k + 1)).all isDig = true
               rw [all_step hgc, hall, hd1]; rfl
         · have hkl : k = l.length := by (simp only [inR, cmpP, loOk, hiOk, Int.ofNat_eq_natCast, Int.negSucc_eq, IntKind.bits, Int.toNat_natCast, ge_iff_le, gt_iff_lt, ne_eq, wl_len, hl_len, natCast_fold, not_true_eq_false, not_false_eq_true] at * <;> omega)
           rw [hkl, List.take_length] at hws hall hwl
           have e : prD false l = (sg false (num l), 0) := by
             unfold prD
             rw [if_neg (by omega), if_neg hform, if_pos hall]
           rw [e] at hy he
           cbv
           refine made_s h hws (dg_ok BW2 _) (by omega) fun b1 y1 hz1 => ?_
           have e1 : DV.ag [.sc (.bool b1), .sl 1 1 y1] = DV.ag [.sc (.bool b), .sl 1 1 ys] := hz1.eqs hy (by rw [dg_val BW2])
           have htw1 : tw = 1 := htw (by rw [hkl]; exact List.length_pos_iff.2 hl0)
           subst htw1
           rw [e1]
           rw [he] at hQ
           cbv
           skip
           exact hQ
        )
  · have hl0 : l0 = [] := List.eq_nil_of_length_eq_zero (by (simp only [inR, cmpP, loOk, hiOk, Int.ofNat_eq_natCast, Int.negSucc_eq, IntKind.bits, Int.toNat_natCast, ge_iff_le, gt_iff_lt, ne_eq, wl_len, hl_len, natCast_fold, not_true_eq_false, not_false_eq_true] at * <;> omega))
    have hpr : prs l0 = (0, 3) := by rw [hl0]; rfl
    rw [hpr] at hy he
    have e1 : DV.ag [.sc (.bool b), .sl 1 1 ys] = DV.ag [.sc (.bool false), .sl 1 1 []] := hy.eqs (s' := false) (xs' := []) (i' := 0) ⟨rfl, rfl⟩ rfl
    rw [e1, he] at hQ
    cbv
    refine h.slen' fun n1 hn1 => ?_
    have hn1 : n1 = (l0.length : Int) := by rw [hn1, hsl]
    cbv
    (refine Good.no ‹_› rfl ?_ ?_; (· (simp only [inR, cmpP, loOk, hiOk, Int.ofNat_eq_natCast, Int.negSucc_eq, IntKind.bits, Int.toNat_natCast, ge_iff_le, gt_iff_lt, ne_eq, wl_len, hl_len, natCast_fold, not_true_eq_false, not_false_eq_true] at * <;> omega)); cbv)
    refine scmp_s h hs (l' := []) rfl fun c hc => ?_
    have : c = true := by rw [hc]; simp [hl0]
    subst this
    cbv
    skip
    exact hQ
theorem parse_s {π : Pi} (h : Good TT π) {K : List DV → Prop} {s : ByteArray} {l0 : List UInt8} (hs : s = bs l0) (hl0 : l0.length ≤ 1000000) (hk : ∀ b ys e, Zc b ys (prs l0).1 → e = (prs l0).2 → K [za b 1 ys, .one (.sc (.int .i64 e))]) : π.call 30 [.one (.sc (.string s))] K :=
  h.call' _ (parse_c hs hl0 ⟨rfl, rfl⟩ rfl) (hk _ _ _ ⟨rfl, rfl⟩ rfl)
end Go.Proofs.Ytpmlocilhhjifaa.Eng
