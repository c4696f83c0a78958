/- Packages step, pylonref23: curves. -/
import Derived.Test.YtpmlocilhhjifaaGreatTac
section
set_option maxRecDepth 100000
set_option linter.unusedSimpArgs false
set_option linter.unusedVariables false
set_option pp.maxSteps 200
namespace Go.Proofs.YtpmlocilhhjifaaGreat.Eng
open Go.RowKit Go.Proofs
/-- Steps: quantity, price. -/
def stl (l : List (Int × Int)) : List (List D) := l.map fun p => [.sc (.int .i64 p.1), .sc (.int .i64 p.2)]
theorem stl_len (l : List (Int × Int)) : (stl l).length = l.length := by simp [stl]
theorem stl_get {l : List (Int × Int)} {i : Nat} {p : Int × Int} (h : l[i]? = some p) : (stl l)[i]? = some [.sc (.int .i64 p.1), .sc (.int .i64 p.2)] := by simp [stl, h]
def StOk (l : List (Int × Int)) : Prop := ∀ p ∈ l, inR .i64 p.1 ∧ inR .i64 p.2
def okS (p : Int × Int) : Prop := 1 ≤ p.1 ∧ p.1 ≤ 1000000 ∧ -1000000 ≤ p.2 ∧ p.2 ≤ 1000000
instance (p : Int × Int) : Decidable (okS p) := by unfold okS; infer_instance
/-- May price b follow price a? -/
def fol (rise : Bool) (a b : Int) : Bool := match rise with
  | true => decide (a < b)
  | false => decide (b < a)
def chk (rise : Bool) : Option Int → List (Int × Int) → Int
  | _, [] => 0
  | q, p :: r => if okS p then (match q with
      | some a => if fol rise a p.2 = true then chk rise (some p.2) r else 3
      | none => chk rise (some p.2) r) else 1
def crvE (rise : Bool) (l : List (Int × Int)) : Int := if l.length = 0 then 4 else if 3 < l.length then 5 else chk rise none l
/-- The price ahead of place i. -/
def prv (l : List (Int × Int)) : Nat → Option Int
  | 0 => none
  | i + 1 => (l[i]?).map (·.2)
theorem chk_at {rise : Bool} {l : List (Int × Int)} {i : Nat} {p : Int × Int} (hp : l[i]? = some p) : chk rise (prv l i) (l.drop i) = if okS p then (match prv l i with
      | some a => if fol rise a p.2 = true then chk rise (prv l (i + 1)) (l.drop (i + 1)) else 3
      | none => chk rise (prv l (i + 1)) (l.drop (i + 1))) else 1 := by
  have e : l.drop i = p :: l.drop (i + 1) := by
    obtain ⟨h, rfl⟩ := List.getElem?_eq_some_iff.1 hp
    exact List.drop_eq_getElem_cons h
  have e2 : prv l (i + 1) = some p.2 := by simp [prv, hp]
  rw [e, e2]
  rfl
theorem stl_ok {l : List (Int × Int)} (h : StOk l) {i : Nat} {p : Int × Int} (hp : l[i]? = some p) : inR .i64 p.1 ∧ inR .i64 p.2 := h p (List.mem_of_getElem? hp)
theorem gt_c {a b : Int} {c : Bool} (hc : c = fol true a b) : TT 117 [.one (.sc (.int .i64 a)), .one (.sc (.int .i64 b))] [.one (.sc (.bool c))] := by
  refine con Tryz.func117 rfl (by kernel_rfl) (by kernel_rfl) fun π Q h hQ => ?_
  cbv
  refine h.dec rfl (fun hp => ?_) (fun hp => ?_)
  · have : c = true := by rw [hc]; exact decide_eq_true (by (simp only [inR, cmpP, loOk, hiOk, Int.ofNat_eq_natCast, Int.negSucc_eq, IntKind.bits, Int.toNat_natCast, ge_iff_le, gt_iff_lt, ne_eq, wl_len, hl_len, natCast_fold, not_true_eq_false, not_false_eq_true] at * <;> omega))
    subst this
    cbv
    skip
    exact hQ
  · have : c = false := by rw [hc]; exact decide_eq_false (by (simp only [inR, cmpP, loOk, hiOk, Int.ofNat_eq_natCast, Int.negSucc_eq, IntKind.bits, Int.toNat_natCast, ge_iff_le, gt_iff_lt, ne_eq, wl_len, hl_len, natCast_fold, not_true_eq_false, not_false_eq_true] at * <;> omega))
    subst this
    cbv
    skip
    exact hQ
theorem lt_c {a b : Int} {c : Bool} (hc : c = fol false a b) : TT 139 [.one (.sc (.int .i64 a)), .one (.sc (.int .i64 b))] [.one (.sc (.bool c))] := by
  refine con Tryz.func139 rfl (by kernel_rfl) (by kernel_rfl) fun π Q h hQ => ?_
  cbv
  refine h.dec rfl (fun hp => ?_) (fun hp => ?_)
  · have : c = true := by rw [hc]; exact decide_eq_true (by (simp only [inR, cmpP, loOk, hiOk, Int.ofNat_eq_natCast, Int.negSucc_eq, IntKind.bits, Int.toNat_natCast, ge_iff_le, gt_iff_lt, ne_eq, wl_len, hl_len, natCast_fold, not_true_eq_false, not_false_eq_true] at * <;> omega))
    subst this
    cbv
    skip
    exact hQ
  · have : c = false := by rw [hc]; exact decide_eq_false (by (simp only [inR, cmpP, loOk, hiOk, Int.ofNat_eq_natCast, Int.negSucc_eq, IntKind.bits, Int.toNat_natCast, ge_iff_le, gt_iff_lt, ne_eq, wl_len, hl_len, natCast_fold, not_true_eq_false, not_false_eq_true] at * <;> omega))
    subst this
    cbv
    skip
    exact hQ
set_option maxHeartbeats 2000000 in
theorem wrongR_c {t : Nat} {l : List (Int × Int)} {xs : List (List D)} {c : Int} (hx : xs = stl l) (ho : StOk l) (hll : l.length ≤ 1000000) (hc : c = crvE true l) :
    TT 93 [.ag [.sc (.func (.func 117) ⟨[]⟩ ⟨[]⟩)], .one (.sl t 2 xs)] [.one (.sc (.int .i64 c))] := by
  refine con Tryz.func93 rfl (by kernel_rfl) (by kernel_rfl) fun π Q h hQ => ?_
  (have hle : xs.length = l.length := by rw [hx, stl_len]
   cbv
   (refine Good.len' ‹_› ?_; intro _ _; cbv)
   refine h.dec rfl (fun hp => ?_) (fun hp => ?_)
   · have : c = 4 := by rw [hc]; unfold crvE; rw [if_pos (by (simp only [inR, cmpP, loOk, hiOk, Int.ofNat_eq_natCast, Int.negSucc_eq, IntKind.bits, Int.toNat_natCast, ge_iff_le, gt_iff_lt, ne_eq, wl_len, hl_len, natCast_fold, not_true_eq_false, not_false_eq_true] at * <;> omega))]
     subst this
     cbv
     skip
     exact hQ
   · cbv
     (refine Good.len' ‹_› ?_; intro _ _; cbv)
     refine h.dec rfl (fun hp2 => ?_) (fun hp2 => ?_)
     · have : c = 5 := by rw [hc]; unfold crvE; rw [if_neg (by (simp only [inR, cmpP, loOk, hiOk, Int.ofNat_eq_natCast, Int.negSucc_eq, IntKind.bits, Int.toNat_natCast, ge_iff_le, gt_iff_lt, ne_eq, wl_len, hl_len, natCast_fold, not_true_eq_false, not_false_eq_true] at * <;> omega)), if_pos (by (simp only [inR, cmpP, loOk, hiOk, Int.ofNat_eq_natCast, Int.negSucc_eq, IntKind.bits, Int.toNat_natCast, ge_iff_le, gt_iff_lt, ne_eq, wl_len, hl_len, natCast_fold, not_true_eq_false, not_false_eq_true] at * <;> omega))]
       subst this
       cbv
       skip
       exact hQ
     · have hc : c = chk true none l := by rw [hc]; unfold crvE; rw [if_neg (by (simp only [inR, cmpP, loOk, hiOk, Int.ofNat_eq_natCast, Int.negSucc_eq, IntKind.bits, Int.toNat_natCast, ge_iff_le, gt_iff_lt, ne_eq, wl_len, hl_len, natCast_fold, not_true_eq_false, not_false_eq_true] at * <;> omega)), if_neg (by (simp only [inR, cmpP, loOk, hiOk, Int.ofNat_eq_natCast, Int.negSucc_eq, IntKind.bits, Int.toNat_natCast, ge_iff_le, gt_iff_lt, ne_eq, wl_len, hl_len, natCast_fold, not_true_eq_false, not_false_eq_true] at * <;> omega))]
       cbv
       (refine Good.len' ‹_› ?_; intro _ _; cbv)
       rename_i nl hnl
       refine h.loop' (Int × Nat) (fun p => p.1 = (p.2 : Int) ∧ p.2 ≤ l.length ∧ c = chk true (prv l p.2) (l.drop p.2)) (fun p => ⟨[(1, .v (.one (.sl t 2 xs))), (2, .p 2 0 0 0), (15, .v (.one (.sl t 2 xs))), (16, vi .i64 nl), (17, vi .i64 p.1)], [(2, .bx [.sc (.func (.func (117)) ⟨[]⟩ ⟨[]⟩)])]⟩) (fun p => l.length - p.2) (0, 0) ⟨rfl, Nat.zero_le _, hc⟩ (by (refine Wk.of [(2, some 2)] rfl ?_ ?_; (· (repeat (first | exact trivial | (refine And.intro ?_ ?_; (· first | exact trivial | exact Or.inl ⟨_, rfl, rfl⟩ | exact ⟨_, rfl, rfl⟩ | exact Or.inr ⟨rfl, rfl, by decide⟩))))); (· (repeat (first | exact trivial | (refine And.intro ?_ ?_; (· first | exact trivial | exact Or.inl rfl | rfl | exact Or.inr ⟨_, _, _, _, rfl, rfl, rfl, renNo rfl⟩ | exact ⟨ne_no rfl, Or.inl ⟨_, rfl, rfl⟩⟩ | exact ⟨ne_no rfl, Or.inr ⟨rfl, _, rfl⟩⟩ | exact ⟨_, rfl, rfl, ne_no rfl⟩))))))) ?_
       rintro ⟨iz, i⟩ R ⟨hiz, hi, hv⟩ hR
       simp only at hiz hi hv
       cbv
       refine h.dec rfl (fun hp3 => ?_) (fun hp3 => ?_)
       · obtain ⟨p, hgp⟩ : ∃ p, l[i]? = some p := ⟨l[i]'(by (simp only [inR, cmpP, loOk, hiOk, Int.ofNat_eq_natCast, Int.negSucc_eq, IntKind.bits, Int.toNat_natCast, ge_iff_le, gt_iff_lt, ne_eq, wl_len, hl_len, natCast_fold, not_true_eq_false, not_false_eq_true] at * <;> omega)), List.getElem?_eq_getElem _⟩
         obtain ⟨o1, o2⟩ := stl_ok ho hgp
         have hck := chk_at (rise := true) hgp
         rw [← hv] at hck
         have hge := stl_get hgp
         rw [← hx] at hge
         obtain ⟨pq, pp⟩ := p
         simp only at hge o1 o2
         have bad : ¬ okS (pq, pp) → c = 1 := fun hh => by rw [hck, if_neg hh]
         cbv
         refine h.get' i _ hiz hge ?_
         cbv
         skip
         refine h.dec rfl (fun hp4 => ?_) (fun hp4 => ?_)
         · have := bad (fun hh => by have := hh.1; (simp only [inR, cmpP, loOk, hiOk, Int.ofNat_eq_natCast, Int.negSucc_eq, IntKind.bits, Int.toNat_natCast, ge_iff_le, gt_iff_lt, ne_eq, wl_len, hl_len, natCast_fold, not_true_eq_false, not_false_eq_true] at * <;> omega))
           subst this
           cbv
           skip
           exact hQ
         · cbv
           skip
           refine h.dec rfl (fun hp5 => ?_) (fun hp5 => ?_)
           · have := bad (fun hh => by have := hh.2.1; (simp only [inR, cmpP, loOk, hiOk, Int.ofNat_eq_natCast, Int.negSucc_eq, IntKind.bits, Int.toNat_natCast, ge_iff_le, gt_iff_lt, ne_eq, wl_len, hl_len, natCast_fold, not_true_eq_false, not_false_eq_true] at * <;> omega))
             subst this
             cbv
             skip
             exact hQ
           · cbv
             skip
             refine h.dec rfl (fun hp6 => ?_) (fun hp6 => ?_)
             · have := bad (fun hh => by have := hh.2.2.1; (simp only [inR, cmpP, loOk, hiOk, Int.ofNat_eq_natCast, Int.negSucc_eq, IntKind.bits, Int.toNat_natCast, ge_iff_le, gt_iff_lt, ne_eq, wl_len, hl_len, natCast_fold, not_true_eq_false, not_false_eq_true] at * <;> omega))
               subst this
               cbv
               skip
               exact hQ
             · cbv
               skip
               refine h.dec rfl (fun hp7 => ?_) (fun hp7 => ?_)
               · have := bad (fun hh => by have := hh.2.2.2; (simp only [inR, cmpP, loOk, hiOk, Int.ofNat_eq_natCast, Int.negSucc_eq, IntKind.bits, Int.toNat_natCast, ge_iff_le, gt_iff_lt, ne_eq, wl_len, hl_len, natCast_fold, not_true_eq_false, not_false_eq_true] at * <;> omega))
                 subst this
                 cbv
                 skip
                 exact hQ
               · have good : okS (pq, pp) := ⟨by (simp only [inR, cmpP, loOk, hiOk, Int.ofNat_eq_natCast, Int.negSucc_eq, IntKind.bits, Int.toNat_natCast, ge_iff_le, gt_iff_lt, ne_eq, wl_len, hl_len, natCast_fold, not_true_eq_false, not_false_eq_true] at * <;> omega), by (simp only [inR, cmpP, loOk, hiOk, Int.ofNat_eq_natCast, Int.negSucc_eq, IntKind.bits, Int.toNat_natCast, ge_iff_le, gt_iff_lt, ne_eq, wl_len, hl_len, natCast_fold, not_true_eq_false, not_false_eq_true] at * <;> omega), by (simp only [inR, cmpP, loOk, hiOk, Int.ofNat_eq_natCast, Int.negSucc_eq, IntKind.bits, Int.toNat_natCast, ge_iff_le, gt_iff_lt, ne_eq, wl_len, hl_len, natCast_fold, not_true_eq_false, not_false_eq_true] at * <;> omega), by (simp only [inR, cmpP, loOk, hiOk, Int.ofNat_eq_natCast, Int.negSucc_eq, IntKind.bits, Int.toNat_natCast, ge_iff_le, gt_iff_lt, ne_eq, wl_len, hl_len, natCast_fold, not_true_eq_false, not_false_eq_true] at * <;> omega)⟩
                 rw [if_pos good] at hck
                 cbv
                 skip
                 refine h.dec rfl (fun hp8 => ?_) (fun hp8 => ?_)
                 · obtain ⟨k, rfl⟩ : ∃ k, i = k + 1 := ⟨i - 1, by (simp only [inR, cmpP, loOk, hiOk, Int.ofNat_eq_natCast, Int.negSucc_eq, IntKind.bits, Int.toNat_natCast, ge_iff_le, gt_iff_lt, ne_eq, wl_len, hl_len, natCast_fold, not_true_eq_false, not_false_eq_true] at * <;> omega)⟩
                   obtain ⟨q, hgq⟩ : ∃ q, l[k]? = some q := ⟨l[k]'(by omega), List.getElem?_eq_getElem _⟩
                   have hgq2 := stl_get hgq
                   rw [← hx] at hgq2
                   obtain ⟨o3, o4⟩ := stl_ok ho hgq
                   obtain ⟨qq, qp⟩ := q
                   simp only at hgq2 o3 o4
                   have hpv : prv l (k + 1) = some qp := by simp [prv, hgq]
                   rw [hpv] at hck
                   simp only at hck
                   cbv
                   (refine Good.sub' ‹_› ?_ ?_; (· (simp only [inR, cmpP, loOk, hiOk, Int.ofNat_eq_natCast, Int.negSucc_eq, IntKind.bits, Int.toNat_natCast, ge_iff_le, gt_iff_lt, ne_eq, wl_len, hl_len, natCast_fold, not_true_eq_false, not_false_eq_true] at * <;> omega)); intro _ _; cbv)
                   refine h.get' k _ (by (simp only [inR, cmpP, loOk, hiOk, Int.ofNat_eq_natCast, Int.negSucc_eq, IntKind.bits, Int.toNat_natCast, ge_iff_le, gt_iff_lt, ne_eq, wl_len, hl_len, natCast_fold, not_true_eq_false, not_false_eq_true] at * <;> omega)) hgq2 ?_
                   cbv
                   refine h.call' [.one (.sc (.bool (fol true qp pp)))] (gt_c rfl) ?_
                   obtain ⟨cb, hcb⟩ : ∃ cb, cb = fol true qp pp := ⟨_, rfl⟩
                   rw [← hcb] at hck ⊢
                   cases cb
                   · have hck : c = 3 := hck
                     subst hck
                     cbv
                     (refine Good.chk' ‹_› rfl ?_; cbv)
                     exact hQ
                   · have hck : c = chk true (prv l (k + 1 + 1)) (l.drop (k + 1 + 1)) := hck
                     cbv
                     (refine Good.chk' ‹_› rfl ?_; cbv; refine Good.add' ‹_› ?_ ?_; (· (simp only [inR, cmpP, loOk, hiOk, Int.ofNat_eq_natCast, Int.negSucc_eq, IntKind.bits, Int.toNat_natCast, ge_iff_le, gt_iff_lt, ne_eq, wl_len, hl_len, natCast_fold, not_true_eq_false, not_false_eq_true] at * <;> omega)); intro _ _; cbv)
                     rename_i i1 hi1
                     refine hR _ (i1, k + 1 + 1) ⟨by simp only; (simp only [inR, cmpP, loOk, hiOk, Int.ofNat_eq_natCast, Int.negSucc_eq, IntKind.bits, Int.toNat_natCast, ge_iff_le, gt_iff_lt, ne_eq, wl_len, hl_len, natCast_fold, not_true_eq_false, not_false_eq_true] at * <;> omega), by simp only; (simp only [inR, cmpP, loOk, hiOk, Int.ofNat_eq_natCast, Int.negSucc_eq, IntKind.bits, Int.toNat_natCast, ge_iff_le, gt_iff_lt, ne_eq, wl_len, hl_len, natCast_fold, not_true_eq_false, not_false_eq_true] at * <;> omega), hck⟩ (by simp only; (simp only [inR, cmpP, loOk, hiOk, Int.ofNat_eq_natCast, Int.negSucc_eq, IntKind.bits, Int.toNat_natCast, ge_iff_le, gt_iff_lt, ne_eq, wl_len, hl_len, natCast_fold, not_true_eq_false, not_false_eq_true] at * <;> omega)) (by (refine Wk.of [(2, some 2)] rfl ?_ ?_; (· (repeat (first | exact trivial | (refine And.intro ?_ ?_; (· first | exact trivial | exact Or.inl ⟨_, rfl, rfl⟩ | exact ⟨_, rfl, rfl⟩ | exact Or.inr ⟨rfl, rfl, by decide⟩))))); (· (repeat (first | exact trivial | (refine And.intro ?_ ?_; (· first | exact trivial | exact Or.inl rfl | rfl | exact Or.inr ⟨_, _, _, _, rfl, rfl, rfl, renNo rfl⟩ | exact ⟨ne_no rfl, Or.inl ⟨_, rfl, rfl⟩⟩ | exact ⟨ne_no rfl, Or.inr ⟨rfl, _, rfl⟩⟩ | exact ⟨_, rfl, rfl, ne_no rfl⟩)))))))
                 · have hi0 : i = 0 := by (simp only [inR, cmpP, loOk, hiOk, Int.ofNat_eq_natCast, Int.negSucc_eq, IntKind.bits, Int.toNat_natCast, ge_iff_le, gt_iff_lt, ne_eq, wl_len, hl_len, natCast_fold, not_true_eq_false, not_false_eq_true] at * <;> omega)
                   subst hi0
                   have hck : c = chk true (prv l (0 + 1)) (l.drop (0 + 1)) := hck
                   cbv
                   (refine Good.chk' ‹_› rfl ?_; cbv; refine Good.add' ‹_› ?_ ?_; (· (simp only [inR, cmpP, loOk, hiOk, Int.ofNat_eq_natCast, Int.negSucc_eq, IntKind.bits, Int.toNat_natCast, ge_iff_le, gt_iff_lt, ne_eq, wl_len, hl_len, natCast_fold, not_true_eq_false, not_false_eq_true] at * <;> omega)); intro _ _; cbv)
                   rename_i i1 hi1
                   refine hR _ (i1, 0 + 1) ⟨by simp only; (simp only [inR, cmpP, loOk, hiOk, Int.ofNat_eq_natCast, Int.negSucc_eq, IntKind.bits, Int.toNat_natCast, ge_iff_le, gt_iff_lt, ne_eq, wl_len, hl_len, natCast_fold, not_true_eq_false, not_false_eq_true] at * <;> omega), by simp only; (simp only [inR, cmpP, loOk, hiOk, Int.ofNat_eq_natCast, Int.negSucc_eq, IntKind.bits, Int.toNat_natCast, ge_iff_le, gt_iff_lt, ne_eq, wl_len, hl_len, natCast_fold, not_true_eq_false, not_false_eq_true] at * <;> omega), hck⟩ (by simp only; (simp only [inR, cmpP, loOk, hiOk, Int.ofNat_eq_natCast, Int.negSucc_eq, IntKind.bits, Int.toNat_natCast, ge_iff_le, gt_iff_lt, ne_eq, wl_len, hl_len, natCast_fold, not_true_eq_false, not_false_eq_true] at * <;> omega)) (by (refine Wk.of [(2, some 2)] rfl ?_ ?_; (· (repeat (first | exact trivial | (refine And.intro ?_ ?_; (· first | exact trivial | exact Or.inl ⟨_, rfl, rfl⟩ | exact ⟨_, rfl, rfl⟩ | exact Or.inr ⟨rfl, rfl, by decide⟩))))); (· (repeat (first | exact trivial | (refine And.intro ?_ ?_; (· first | exact trivial | exact Or.inl rfl | rfl | exact Or.inr ⟨_, _, _, _, rfl, rfl, rfl, renNo rfl⟩ | exact ⟨ne_no rfl, Or.inl ⟨_, rfl, rfl⟩⟩ | exact ⟨ne_no rfl, Or.inr ⟨rfl, _, rfl⟩⟩ | exact ⟨_, rfl, rfl, ne_no rfl⟩)))))))
       · have hi2 : i = l.length := by (simp only [inR, cmpP, loOk, hiOk, Int.ofNat_eq_natCast, Int.negSucc_eq, IntKind.bits, Int.toNat_natCast, ge_iff_le, gt_iff_lt, ne_eq, wl_len, hl_len, natCast_fold, not_true_eq_false, not_false_eq_true] at * <;> omega)
         have : c = 0 := by rw [hv, hi2, List.drop_length]; cases prv l l.length <;> rfl
         subst this
         cbv
         skip
         exact hQ
  )
set_option maxHeartbeats 2000000 in
theorem wrongF_c {t : Nat} {l : List (Int × Int)} {xs : List (List D)} {c : Int} (hx : xs = stl l) (ho : StOk l) (hll : l.length ≤ 1000000) (hc : c = crvE false l) :
    TT 93 [.ag [.sc (.func (.func 139) ⟨[]⟩ ⟨[]⟩)], .one (.sl t 2 xs)] [.one (.sc (.int .i64 c))] := by
  refine con Tryz.func93 rfl (by kernel_rfl) (by kernel_rfl) fun π Q h hQ => ?_
  (have hle : xs.length = l.length := by rw [hx, stl_len]
   cbv
   (refine Good.len' ‹_› ?_; intro _ _; cbv)
   refine h.dec rfl (fun hp => ?_) (fun hp => ?_)
   · have : c = 4 := by rw [hc]; unfold crvE; rw [if_pos (by (simp only [inR, cmpP, loOk, hiOk, Int.ofNat_eq_natCast, Int.negSucc_eq, IntKind.bits, Int.toNat_natCast, ge_iff_le, gt_iff_lt, ne_eq, wl_len, hl_len, natCast_fold, not_true_eq_false, not_false_eq_true] at * <;> omega))]
     subst this
     cbv
     skip
     exact hQ
   · cbv
     (refine Good.len' ‹_› ?_; intro _ _; cbv)
     refine h.dec rfl (fun hp2 => ?_) (fun hp2 => ?_)
     · have : c = 5 := by rw [hc]; unfold crvE; rw [if_neg (by (simp only [inR, cmpP, loOk, hiOk, Int.ofNat_eq_natCast, Int.negSucc_eq, IntKind.bits, Int.toNat_natCast, ge_iff_le, gt_iff_lt, ne_eq, wl_len, hl_len, natCast_fold, not_true_eq_false, not_false_eq_true] at * <;> omega)), if_pos (by (simp only [inR, cmpP, loOk, hiOk, Int.ofNat_eq_natCast, Int.negSucc_eq, IntKind.bits, Int.toNat_natCast, ge_iff_le, gt_iff_lt, ne_eq, wl_len, hl_len, natCast_fold, not_true_eq_false, not_false_eq_true] at * <;> omega))]
       subst this
       cbv
       skip
       exact hQ
     · have hc : c = chk false none l := by rw [hc]; unfold crvE; rw [if_neg (by (simp only [inR, cmpP, loOk, hiOk, Int.ofNat_eq_natCast, Int.negSucc_eq, IntKind.bits, Int.toNat_natCast, ge_iff_le, gt_iff_lt, ne_eq, wl_len, hl_len, natCast_fold, not_true_eq_false, not_false_eq_true] at * <;> omega)), if_neg (by (simp only [inR, cmpP, loOk, hiOk, Int.ofNat_eq_natCast, Int.negSucc_eq, IntKind.bits, Int.toNat_natCast, ge_iff_le, gt_iff_lt, ne_eq, wl_len, hl_len, natCast_fold, not_true_eq_false, not_false_eq_true] at * <;> omega))]
       cbv
       (refine Good.len' ‹_› ?_; intro _ _; cbv)
       rename_i nl hnl
       refine h.loop' (Int × Nat) (fun p => p.1 = (p.2 : Int) ∧ p.2 ≤ l.length ∧ c = chk false (prv l p.2) (l.drop p.2)) (fun p => ⟨[(1, .v (.one (.sl t 2 xs))), (2, .p 2 0 0 0), (15, .v (.one (.sl t 2 xs))), (16, vi .i64 nl), (17, vi .i64 p.1)], [(2, .bx [.sc (.func (.func (139)) ⟨[]⟩ ⟨[]⟩)])]⟩) (fun p => l.length - p.2) (0, 0) ⟨rfl, Nat.zero_le _, hc⟩ (by (refine Wk.of [(2, some 2)] rfl ?_ ?_; (· (repeat (first | exact trivial | (refine And.intro ?_ ?_; (· first | exact trivial | exact Or.inl ⟨_, rfl, rfl⟩ | exact ⟨_, rfl, rfl⟩ | exact Or.inr ⟨rfl, rfl, by decide⟩))))); (· (repeat (first | exact trivial | (refine And.intro ?_ ?_; (· first | exact trivial | exact Or.inl rfl | rfl | exact Or.inr ⟨_, _, _, _, rfl, rfl, rfl, renNo rfl⟩ | exact ⟨ne_no rfl, Or.inl ⟨_, rfl, rfl⟩⟩ | exact ⟨ne_no rfl, Or.inr ⟨rfl, _, rfl⟩⟩ | exact ⟨_, rfl, rfl, ne_no rfl⟩))))))) ?_
       rintro ⟨iz, i⟩ R ⟨hiz, hi, hv⟩ hR
       simp only at hiz hi hv
       cbv
       refine h.dec rfl (fun hp3 => ?_) (fun hp3 => ?_)
       · obtain ⟨p, hgp⟩ : ∃ p, l[i]? = some p := ⟨l[i]'(by (simp only [inR, cmpP, loOk, hiOk, Int.ofNat_eq_natCast, Int.negSucc_eq, IntKind.bits, Int.toNat_natCast, ge_iff_le, gt_iff_lt, ne_eq, wl_len, hl_len, natCast_fold, not_true_eq_false, not_false_eq_true] at * <;> omega)), List.getElem?_eq_getElem _⟩
         obtain ⟨o1, o2⟩ := stl_ok ho hgp
         have hck := chk_at (rise := false) hgp
         rw [← hv] at hck
         have hge := stl_get hgp
         rw [← hx] at hge
         obtain ⟨pq, pp⟩ := p
         simp only at hge o1 o2
         have bad : ¬ okS (pq, pp) → c = 1 := fun hh => by rw [hck, if_neg hh]
         cbv
         refine h.get' i _ hiz hge ?_
         cbv
         skip
         refine h.dec rfl (fun hp4 => ?_) (fun hp4 => ?_)
         · have := bad (fun hh => by have := hh.1; (simp only [inR, cmpP, loOk, hiOk, Int.ofNat_eq_natCast, Int.negSucc_eq, IntKind.bits, Int.toNat_natCast, ge_iff_le, gt_iff_lt, ne_eq, wl_len, hl_len, natCast_fold, not_true_eq_false, not_false_eq_true] at * <;> omega))
           subst this
           cbv
           skip
           exact hQ
         · cbv
           skip
           refine h.dec rfl (fun hp5 => ?_) (fun hp5 => ?_)
           · have := bad (fun hh => by have := hh.2.1; (simp only [inR, cmpP, loOk, hiOk, Int.ofNat_eq_natCast, Int.negSucc_eq, IntKind.bits, Int.toNat_natCast, ge_iff_le, gt_iff_lt, ne_eq, wl_len, hl_len, natCast_fold, not_true_eq_false, not_false_eq_true] at * <;> omega))
             subst this
             cbv
             skip
             exact hQ
           · cbv
             skip
             refine h.dec rfl (fun hp6 => ?_) (fun hp6 => ?_)
             · have := bad (fun hh => by have := hh.2.2.1; (simp only [inR, cmpP, loOk, hiOk, Int.ofNat_eq_natCast, Int.negSucc_eq, IntKind.bits, Int.toNat_natCast, ge_iff_le, gt_iff_lt, ne_eq, wl_len, hl_len, natCast_fold, not_true_eq_false, not_false_eq_true] at * <;> omega))
               subst this
               cbv
               skip
               exact hQ
             · cbv
               skip
               refine h.dec rfl (fun hp7 => ?_) (fun hp7 => ?_)
               · have := bad (fun hh => by have := hh.2.2.2; (simp only [inR, cmpP, loOk, hiOk, Int.ofNat_eq_natCast, Int.negSucc_eq, IntKind.bits, Int.toNat_natCast, ge_iff_le, gt_iff_lt, ne_eq, wl_len, hl_len, natCast_fold, not_true_eq_false, not_false_eq_true] at * <;> omega))
                 subst this
                 cbv
                 skip
                 exact hQ
               · have good : okS (pq, pp) := ⟨by (simp only [inR, cmpP, loOk, hiOk, Int.ofNat_eq_natCast, Int.negSucc_eq, IntKind.bits, Int.toNat_natCast, ge_iff_le, gt_iff_lt, ne_eq, wl_len, hl_len, natCast_fold, not_true_eq_false, not_false_eq_true] at * <;> omega), by (simp only [inR, cmpP, loOk, hiOk, Int.ofNat_eq_natCast, Int.negSucc_eq, IntKind.bits, Int.toNat_natCast, ge_iff_le, gt_iff_lt, ne_eq, wl_len, hl_len, natCast_fold, not_true_eq_false, not_false_eq_true] at * <;> omega), by (simp only [inR, cmpP, loOk, hiOk, Int.ofNat_eq_natCast, Int.negSucc_eq, IntKind.bits, Int.toNat_natCast, ge_iff_le, gt_iff_lt, ne_eq, wl_len, hl_len, natCast_fold, not_true_eq_false, not_false_eq_true] at * <;> omega), by (simp only [inR, cmpP, loOk, hiOk, Int.ofNat_eq_natCast, Int.negSucc_eq, IntKind.bits, Int.toNat_natCast, ge_iff_le, gt_iff_lt, ne_eq, wl_len, hl_len, natCast_fold, not_true_eq_false, not_false_eq_true] at * <;> omega)⟩
                 rw [if_pos good] at hck
                 cbv
                 skip
                 refine h.dec rfl (fun hp8 => ?_) (fun hp8 => ?_)
                 · obtain ⟨k, rfl⟩ : ∃ k, i = k + 1 := ⟨i - 1, by (simp only [inR, cmpP, loOk, hiOk, Int.ofNat_eq_natCast, Int.negSucc_eq, IntKind.bits, Int.toNat_natCast, ge_iff_le, gt_iff_lt, ne_eq, wl_len, hl_len, natCast_fold, not_true_eq_false, not_false_eq_true] at * <;> omega)⟩
                   obtain ⟨q, hgq⟩ : ∃ q, l[k]? = some q := ⟨l[k]'(by omega), List.getElem?_eq_getElem _⟩
                   have hgq2 := stl_get hgq
                   rw [← hx] at hgq2
                   obtain ⟨o3, o4⟩ := stl_ok ho hgq
                   obtain ⟨qq, qp⟩ := q
                   simp only at hgq2 o3 o4
                   have hpv : prv l (k + 1) = some qp := by simp [prv, hgq]
                   rw [hpv] at hck
                   simp only at hck
                   cbv
                   (refine Good.sub' ‹_› ?_ ?_; (· (simp only [inR, cmpP, loOk, hiOk, Int.ofNat_eq_natCast, Int.negSucc_eq, IntKind.bits, Int.toNat_natCast, ge_iff_le, gt_iff_lt, ne_eq, wl_len, hl_len, natCast_fold, not_true_eq_false, not_false_eq_true] at * <;> omega)); intro _ _; cbv)
                   refine h.get' k _ (by (simp only [inR, cmpP, loOk, hiOk, Int.ofNat_eq_natCast, Int.negSucc_eq, IntKind.bits, Int.toNat_natCast, ge_iff_le, gt_iff_lt, ne_eq, wl_len, hl_len, natCast_fold, not_true_eq_false, not_false_eq_true] at * <;> omega)) hgq2 ?_
                   cbv
                   refine h.call' [.one (.sc (.bool (fol false qp pp)))] (lt_c rfl) ?_
                   obtain ⟨cb, hcb⟩ : ∃ cb, cb = fol false qp pp := ⟨_, rfl⟩
                   rw [← hcb] at hck ⊢
                   cases cb
                   · have hck : c = 3 := hck
                     subst hck
                     cbv
                     (refine Good.chk' ‹_› rfl ?_; cbv)
                     exact hQ
                   · have hck : c = chk false (prv l (k + 1 + 1)) (l.drop (k + 1 + 1)) := hck
                     cbv
                     (refine Good.chk' ‹_› rfl ?_; cbv; refine Good.add' ‹_› ?_ ?_; (· (simp only [inR, cmpP, loOk, hiOk, Int.ofNat_eq_natCast, Int.negSucc_eq, IntKind.bits, Int.toNat_natCast, ge_iff_le, gt_iff_lt, ne_eq, wl_len, hl_len, natCast_fold, not_true_eq_false, not_false_eq_true] at * <;> omega)); intro _ _; cbv)
                     rename_i i1 hi1
                     refine hR _ (i1, k + 1 + 1) ⟨by simp only; (simp only [inR, cmpP, loOk, hiOk, Int.ofNat_eq_natCast, Int.negSucc_eq, IntKind.bits, Int.toNat_natCast, ge_iff_le, gt_iff_lt, ne_eq, wl_len, hl_len, natCast_fold, not_true_eq_false, not_false_eq_true] at * <;> omega), by simp only; (simp only [inR, cmpP, loOk, hiOk, Int.ofNat_eq_natCast, Int.negSucc_eq, IntKind.bits, Int.toNat_natCast, ge_iff_le, gt_iff_lt, ne_eq, wl_len, hl_len, natCast_fold, not_true_eq_false, not_false_eq_true] at * <;> omega), hck⟩ (by simp only; (simp only [inR, cmpP, loOk, hiOk, Int.ofNat_eq_natCast, Int.negSucc_eq, IntKind.bits, Int.toNat_natCast, ge_iff_le, gt_iff_lt, ne_eq, wl_len, hl_len, natCast_fold, not_true_eq_false, not_false_eq_true] at * <;> omega)) (by (refine Wk.of [(2, some 2)] rfl ?_ ?_; (· (repeat (first | exact trivial | (refine And.intro ?_ ?_; (· first | exact trivial | exact Or.inl ⟨_, rfl, rfl⟩ | exact ⟨_, rfl, rfl⟩ | exact Or.inr ⟨rfl, rfl, by decide⟩))))); (· (repeat (first | exact trivial | (refine And.intro ?_ ?_; (· first | exact trivial | exact Or.inl rfl | rfl | exact Or.inr ⟨_, _, _, _, rfl, rfl, rfl, renNo rfl⟩ | exact ⟨ne_no rfl, Or.inl ⟨_, rfl, rfl⟩⟩ | exact ⟨ne_no rfl, Or.inr ⟨rfl, _, rfl⟩⟩ | exact ⟨_, rfl, rfl, ne_no rfl⟩)))))))
                 · have hi0 : i = 0 := by (simp only [inR, cmpP, loOk, hiOk, Int.ofNat_eq_natCast, Int.negSucc_eq, IntKind.bits, Int.toNat_natCast, ge_iff_le, gt_iff_lt, ne_eq, wl_len, hl_len, natCast_fold, not_true_eq_false, not_false_eq_true] at * <;> omega)
                   subst hi0
                   have hck : c = chk false (prv l (0 + 1)) (l.drop (0 + 1)) := hck
                   cbv
                   (refine Good.chk' ‹_› rfl ?_; cbv; refine Good.add' ‹_› ?_ ?_; (· (simp only [inR, cmpP, loOk, hiOk, Int.ofNat_eq_natCast, Int.negSucc_eq, IntKind.bits, Int.toNat_natCast, ge_iff_le, gt_iff_lt, ne_eq, wl_len, hl_len, natCast_fold, not_true_eq_false, not_false_eq_true] at * <;> omega)); intro _ _; cbv)
                   rename_i i1 hi1
                   refine hR _ (i1, 0 + 1) ⟨by simp only; (simp only [inR, cmpP, loOk, hiOk, Int.ofNat_eq_natCast, Int.negSucc_eq, IntKind.bits, Int.toNat_natCast, ge_iff_le, gt_iff_lt, ne_eq, wl_len, hl_len, natCast_fold, not_true_eq_false, not_false_eq_true] at * <;> omega), by simp only; (simp only [inR, cmpP, loOk, hiOk, Int.ofNat_eq_natCast, Int.negSucc_eq, IntKind.bits, Int.toNat_natCast, ge_iff_le, gt_iff_lt, ne_eq, wl_len, hl_len, natCast_fold, not_true_eq_false, not_false_eq_true] at * <;> omega), hck⟩ (by simp only; (simp only [inR, cmpP, loOk, hiOk, Int.ofNat_eq_natCast, Int.negSucc_eq, IntKind.bits, Int.toNat_natCast, ge_iff_le, gt_iff_lt, ne_eq, wl_len, hl_len, natCast_fold, not_true_eq_false, not_false_eq_true] at * <;> omega)) (by (refine Wk.of [(2, some 2)] rfl ?_ ?_; (· (repeat (first | exact trivial | (refine And.intro ?_ ?_; (· first | exact trivial | exact Or.inl ⟨_, rfl, rfl⟩ | exact ⟨_, rfl, rfl⟩ | exact Or.inr ⟨rfl, rfl, by decide⟩))))); (· (repeat (first | exact trivial | (refine And.intro ?_ ?_; (· first | exact trivial | exact Or.inl rfl | rfl | exact Or.inr ⟨_, _, _, _, rfl, rfl, rfl, renNo rfl⟩ | exact ⟨ne_no rfl, Or.inl ⟨_, rfl, rfl⟩⟩ | exact ⟨ne_no rfl, Or.inr ⟨rfl, _, rfl⟩⟩ | exact ⟨_, rfl, rfl, ne_no rfl⟩)))))))
       · have hi2 : i = l.length := by (simp only [inR, cmpP, loOk, hiOk, Int.ofNat_eq_natCast, Int.negSucc_eq, IntKind.bits, Int.toNat_natCast, ge_iff_le, gt_iff_lt, ne_eq, wl_len, hl_len, natCast_fold, not_true_eq_false, not_false_eq_true] at * <;> omega)
         have : c = 0 := by rw [hv, hi2, List.drop_length]; cases prv l l.length <;> rfl
         subst this
         cbv
         skip
         exact hQ
  )
theorem rising_c : TT 92 [] [.ag [.sc (.func (.func 117) ⟨[]⟩ ⟨[]⟩)]] := by
  refine con Tryz.func92 rfl (by kernel_rfl) (by kernel_rfl) fun π Q h hQ => ?_
  cbv
  skip
  exact hQ
theorem falling_c : TT 132 [] [.ag [.sc (.func (.func 139) ⟨[]⟩ ⟨[]⟩)]] := by
  refine con Tryz.func132 rfl (by kernel_rfl) (by kernel_rfl) fun π Q h hQ => ?_
  cbv
  skip
  exact hQ
variable {t : Nat} {l : List (Int × Int)} {xs : List (List D)} {c : Int}
theorem offer_c (hx : xs = stl l) (ho : StOk l) (hll : l.length ≤ 1000000) (hc : c = crvE true l) : TT 66 [.one (.sl t 2 xs)] [.one (.sc (.int .i64 c))] := by
  refine con Tryz.func66 rfl (by kernel_rfl) (by kernel_rfl) fun π Q h hQ => ?_
  cbv
  refine h.call' _ rising_c ?_
  cbv
  refine h.call' _ (wrongR_c hx ho hll hc) ?_
  cbv
  skip
  exact hQ
theorem bid_c (hx : xs = stl l) (ho : StOk l) (hll : l.length ≤ 1000000) (hc : c = crvE false l) : TT 118 [.one (.sl t 2 xs)] [.one (.sc (.int .i64 c))] := by
  refine con Tryz.func118 rfl (by kernel_rfl) (by kernel_rfl) fun π Q h hQ => ?_
  cbv
  refine h.call' _ falling_c ?_
  cbv
  refine h.call' _ (wrongF_c hx ho hll hc) ?_
  cbv
  skip
  exact hQ
def curE (l : List (Int × Int)) : Int := if crvE false l = 0 then 0 else crvE true l
theorem cur_c (hx : xs = stl l) (ho : StOk l) (hll : l.length ≤ 1000000) (hc : c = curE l) : TT 94 [.one (.sl t 2 xs)] [.one (.sc (.int .i64 c))] := by
  refine con Tryz.func94 rfl (by kernel_rfl) (by kernel_rfl) fun π Q h hQ => ?_
  (cbv
   skip
   refine h.call' _ (bid_c hx ho hll rfl) ?_
   obtain ⟨e, he⟩ : ∃ e, e = crvE false l := ⟨_, rfl⟩
   rw [← he]
   cbv
   skip
   refine h.dec rfl (fun hp => ?_) (fun hp => ?_)
   · have : c = 0 := by rw [hc]; unfold curE; rw [if_pos (by rw [← he]; (simp only [inR, cmpP, loOk, hiOk, Int.ofNat_eq_natCast, Int.negSucc_eq, IntKind.bits, Int.toNat_natCast, ge_iff_le, gt_iff_lt, ne_eq, wl_len, hl_len, natCast_fold, not_true_eq_false, not_false_eq_true] at * <;> omega))]
     subst this
     cbv
     skip
     exact hQ
   · have hc2 : c = crvE true l := by rw [hc]; unfold curE; rw [if_neg (by rw [← he]; (simp only [inR, cmpP, loOk, hiOk, Int.ofNat_eq_natCast, Int.negSucc_eq, IntKind.bits, Int.toNat_natCast, ge_iff_le, gt_iff_lt, ne_eq, wl_len, hl_len, natCast_fold, not_true_eq_false, not_false_eq_true] at * <;> omega))]
     cbv
     skip
     refine h.call' _ (offer_c hx ho hll hc2) ?_
     cbv
     skip
     exact hQ
  )
theorem chk_ok {rise : Bool} : ∀ {q : Option Int} {l : List (Int × Int)}, chk rise q l = 0 → ∀ p ∈ l, okS p
  | _, [], _, p, hp => by cases hp
  | q, a :: r, h, p, hp => by
    simp only [chk] at h
    split at h
    · rename_i ha
      rcases List.mem_cons.1 hp with rfl | hp
      · exact ha
      · split at h
        · split at h
          · exact chk_ok h p hp
          · omega
        · exact chk_ok h p hp
    · omega
theorem crv_ok {rise : Bool} {l : List (Int × Int)} (h : crvE rise l = 0) : l.length ≤ 3 ∧ ∀ p ∈ l, okS p := by
  unfold crvE at h
  split at h
  · omega
  · split at h
    · omega
    · exact ⟨by omega, chk_ok h⟩
theorem cur_ok {l : List (Int × Int)} (h : curE l = 0) : l.length ≤ 3 ∧ ∀ p ∈ l, okS p := by
  unfold curE at h
  split at h
  · rename_i hh; exact crv_ok hh
  · exact crv_ok h
theorem cur_of {l : List (Int × Int)} (h : crvE true l = 0) : curE l = 0 := by
  unfold curE
  split
  · rfl
  · exact h
def sumQ (l : List (Int × Int)) : Int := (l.map (·.1)).sum
def sumE (l : List (Int × Int)) : Int := if curE l = 0 then sumQ l else 0
theorem sumQ_take {l : List (Int × Int)} {i : Nat} {p : Int × Int} (h : l[i]? = some p) : sumQ (l.take (i + 1)) = sumQ (l.take i) + p.1 := by
  unfold sumQ
  rw [List.take_add_one, h]
  simp
theorem sumQ_le {l : List (Int × Int)} (h : ∀ p ∈ l, okS p) : 0 ≤ sumQ l ∧ sumQ l ≤ 1000000 * (l.length : Int) := by
  induction l with
  | nil => simp [sumQ]
  | cons a r ih =>
    have h1 := h a (by simp)
    have h2 := ih fun p hp => h p (by simp [hp])
    unfold sumQ at h2 ⊢
    unfold okS at h1
    simp only [List.map_cons, List.sum_cons, List.length_cons]
    omega
theorem sumE_le (l : List (Int × Int)) : 0 ≤ sumE l ∧ sumE l ≤ 3000000 := by
  unfold sumE
  split
  · rename_i h
    obtain ⟨h1, h2⟩ := cur_ok h
    have := sumQ_le h2
    omega
  · omega
theorem sum_c (hx : xs = stl l) (ho : StOk l) (hll : l.length ≤ 1000000) (hc : c = sumE l) : TT 67 [.one (.sl t 2 xs)] [.one (.sc (.int .i64 c))] := by
  refine con Tryz.func67 rfl (by kernel_rfl) (by kernel_rfl) fun π Q h hQ => ?_
  have hle : xs.length = l.length := by rw [hx, stl_len]
  cbv
  skip
  refine h.call' _ (cur_c hx ho hll rfl) ?_
  obtain ⟨e, he⟩ : ∃ e, e = curE l := ⟨_, rfl⟩
  rw [← he]
  cbv
  refine h.dec rfl (fun hp => ?_) (fun hp => ?_)
  · have : c = 0 := by rw [hc]; unfold sumE; rw [if_neg (by rw [← he]; (simp only [inR, cmpP, loOk, hiOk, Int.ofNat_eq_natCast, Int.negSucc_eq, IntKind.bits, Int.toNat_natCast, ge_iff_le, gt_iff_lt, ne_eq, wl_len, hl_len, natCast_fold, not_true_eq_false, not_false_eq_true] at * <;> omega))]
    subst this
    cbv
    skip
    exact hQ
  · have he0 : curE l = 0 := by rw [← he]; (simp only [inR, cmpP, loOk, hiOk, Int.ofNat_eq_natCast, Int.negSucc_eq, IntKind.bits, Int.toNat_natCast, ge_iff_le, gt_iff_lt, ne_eq, wl_len, hl_len, natCast_fold, not_true_eq_false, not_false_eq_true] at * <;> omega)
    have hc2 : c = sumQ l := by rw [hc]; unfold sumE; rw [if_pos he0]
    obtain ⟨k1, k2⟩ := cur_ok he0
    cbv
    (refine Good.len' ‹_› ?_; intro _ _; cbv)
    rename_i nl hnl
    refine h.loop' (Int × Int × Nat) (fun p => p.1 = (p.2.2 : Int) ∧ p.2.2 ≤ l.length ∧ p.2.1 = sumQ (l.take p.2.2)) (fun p => ⟨[(3, vi .i64 p.2.1), (9, .v (.one (.sl t 2 xs))), (10, vi .i64 nl), (11, vi .i64 p.1)], []⟩) (fun p => l.length - p.2.2) (0, 0, 0) ⟨rfl, Nat.zero_le _, rfl⟩ (by (refine Wk.of [] rfl ?_ ?_; (· (repeat (first | exact trivial | (refine And.intro ?_ ?_; (· first | exact trivial | exact Or.inl ⟨_, rfl, rfl⟩ | exact ⟨_, rfl, rfl⟩ | exact Or.inr ⟨rfl, rfl, by decide⟩))))); (· (repeat (first | exact trivial | (refine And.intro ?_ ?_; (· first | exact trivial | exact Or.inl rfl | rfl | exact Or.inr ⟨_, _, _, _, rfl, rfl, rfl, renNo rfl⟩ | exact ⟨ne_no rfl, Or.inl ⟨_, rfl, rfl⟩⟩ | exact ⟨ne_no rfl, Or.inr ⟨rfl, _, rfl⟩⟩ | exact ⟨_, rfl, rfl, ne_no rfl⟩))))))) ?_
    rintro ⟨iz, sz, i⟩ R ⟨hiz, hi, hv⟩ hR
    simp only at hiz hi hv
    cbv
    refine h.dec rfl (fun hp3 => ?_) (fun hp3 => ?_)
    · obtain ⟨p, hgp⟩ : ∃ p, l[i]? = some p := ⟨l[i]'(by (simp only [inR, cmpP, loOk, hiOk, Int.ofNat_eq_natCast, Int.negSucc_eq, IntKind.bits, Int.toNat_natCast, ge_iff_le, gt_iff_lt, ne_eq, wl_len, hl_len, natCast_fold, not_true_eq_false, not_false_eq_true] at * <;> omega)), List.getElem?_eq_getElem _⟩
      have hge := stl_get hgp
      rw [← hx] at hge
      have hs := sumQ_take hgp
      have hb1 := sumQ_le (l := l.take i) fun p hp => k2 p (List.mem_of_mem_take hp)
      have hb2 := k2 p (List.mem_of_getElem? hgp)
      unfold okS at hb2
      have hlt : (l.take i).length ≤ 3 := by simp; omega
      obtain ⟨pq, pp⟩ := p
      simp only at hge hs hb2
      cbv
      refine h.get' i _ hiz hge ?_
      cbv
      (refine Good.add' ‹_› ?_ ?_; (· (simp only [inR, cmpP, loOk, hiOk, Int.ofNat_eq_natCast, Int.negSucc_eq, IntKind.bits, Int.toNat_natCast, ge_iff_le, gt_iff_lt, ne_eq, wl_len, hl_len, natCast_fold, not_true_eq_false, not_false_eq_true] at * <;> omega)); intro _ _; cbv; refine Good.add' ‹_› ?_ ?_; (· (simp only [inR, cmpP, loOk, hiOk, Int.ofNat_eq_natCast, Int.negSucc_eq, IntKind.bits, Int.toNat_natCast, ge_iff_le, gt_iff_lt, ne_eq, wl_len, hl_len, natCast_fold, not_true_eq_false, not_false_eq_true] at * <;> omega)); intro _ _; cbv)
      rename_i s1 hs1 i1 hi1
      refine hR _ (i1, s1, i + 1) ⟨by simp only; (simp only [inR, cmpP, loOk, hiOk, Int.ofNat_eq_natCast, Int.negSucc_eq, IntKind.bits, Int.toNat_natCast, ge_iff_le, gt_iff_lt, ne_eq, wl_len, hl_len, natCast_fold, not_true_eq_false, not_false_eq_true] at * <;> omega), by simp only; (simp only [inR, cmpP, loOk, hiOk, Int.ofNat_eq_natCast, Int.negSucc_eq, IntKind.bits, Int.toNat_natCast, ge_iff_le, gt_iff_lt, ne_eq, wl_len, hl_len, natCast_fold, not_true_eq_false, not_false_eq_true] at * <;> omega), by simp only; omega⟩ (by simp only; (simp only [inR, cmpP, loOk, hiOk, Int.ofNat_eq_natCast, Int.negSucc_eq, IntKind.bits, Int.toNat_natCast, ge_iff_le, gt_iff_lt, ne_eq, wl_len, hl_len, natCast_fold, not_true_eq_false, not_false_eq_true] at * <;> omega)) (by (refine Wk.of [] rfl ?_ ?_; (· (repeat (first | exact trivial | (refine And.intro ?_ ?_; (· first | exact trivial | exact Or.inl ⟨_, rfl, rfl⟩ | exact ⟨_, rfl, rfl⟩ | exact Or.inr ⟨rfl, rfl, by decide⟩))))); (· (repeat (first | exact trivial | (refine And.intro ?_ ?_; (· first | exact trivial | exact Or.inl rfl | rfl | exact Or.inr ⟨_, _, _, _, rfl, rfl, rfl, renNo rfl⟩ | exact ⟨ne_no rfl, Or.inl ⟨_, rfl, rfl⟩⟩ | exact ⟨ne_no rfl, Or.inr ⟨rfl, _, rfl⟩⟩ | exact ⟨_, rfl, rfl, ne_no rfl⟩)))))))
    · have hi2 : i = l.length := by (simp only [inR, cmpP, loOk, hiOk, Int.ofNat_eq_natCast, Int.negSucc_eq, IntKind.bits, Int.toNat_natCast, ge_iff_le, gt_iff_lt, ne_eq, wl_len, hl_len, natCast_fold, not_true_eq_false, not_false_eq_true] at * <;> omega)
      rw [hi2, List.take_length, ← hc2] at hv
      subst hv
      cbv
      skip
      exact hQ
def maxE (l : List (Int × Int)) : Int := if crvE true l = 0 then sumQ l else 0
theorem maxE_le (l : List (Int × Int)) : 0 ≤ maxE l ∧ maxE l ≤ 3000000 := by
  unfold maxE
  split
  · rename_i h
    obtain ⟨h1, h2⟩ := crv_ok h
    have := sumQ_le h2
    omega
  · omega
end Go.Proofs.YtpmlocilhhjifaaGreat.Eng
end
section
set_option maxRecDepth 100000
set_option linter.unusedSimpArgs false
set_option linter.unusedVariables false
set_option pp.maxSteps 200
namespace Go.Proofs.YtpmlocilhhjifaaGreat.Eng
open Go.RowKit Go.Proofs
variable {t : Nat} {l : List (Int × Int)} {xs : List (List D)} {c : Int}
theorem rmany_c (hx : xs = stl l) (hc : c = if l.length = 0 then 4 else if 3 < l.length then 5 else 0) : TT 122 [.one (.sl t 2 xs)] [.one (.sc (.int .i64 c))] := by
  refine con Tryz.func122 rfl (by kernel_rfl) (by kernel_rfl) fun π Q h hQ => ?_
  have hle : xs.length = l.length := by rw [hx, stl_len]
  cbv
  (refine Good.len' ‹_› ?_; intro _ _; cbv)
  refine h.dec rfl (fun hp => ?_) (fun hp => ?_)
  · have : c = 4 := by rw [hc, if_pos (by (simp only [inR, cmpP, loOk, hiOk, Int.ofNat_eq_natCast, Int.negSucc_eq, IntKind.bits, Int.toNat_natCast, ge_iff_le, gt_iff_lt, ne_eq, wl_len, hl_len, natCast_fold, not_true_eq_false, not_false_eq_true] at * <;> omega))]
    subst this
    cbv
    skip
    exact hQ
  · cbv
    (refine Good.len' ‹_› ?_; intro _ _; cbv)
    refine h.dec rfl (fun hp2 => ?_) (fun hp2 => ?_)
    · have : c = 5 := by rw [hc, if_neg (by (simp only [inR, cmpP, loOk, hiOk, Int.ofNat_eq_natCast, Int.negSucc_eq, IntKind.bits, Int.toNat_natCast, ge_iff_le, gt_iff_lt, ne_eq, wl_len, hl_len, natCast_fold, not_true_eq_false, not_false_eq_true] at * <;> omega)), if_pos (by (simp only [inR, cmpP, loOk, hiOk, Int.ofNat_eq_natCast, Int.negSucc_eq, IntKind.bits, Int.toNat_natCast, ge_iff_le, gt_iff_lt, ne_eq, wl_len, hl_len, natCast_fold, not_true_eq_false, not_false_eq_true] at * <;> omega))]
      subst this
      cbv
      skip
      exact hQ
    · have : c = 0 := by rw [hc, if_neg (by (simp only [inR, cmpP, loOk, hiOk, Int.ofNat_eq_natCast, Int.negSucc_eq, IntKind.bits, Int.toNat_natCast, ge_iff_le, gt_iff_lt, ne_eq, wl_len, hl_len, natCast_fold, not_true_eq_false, not_false_eq_true] at * <;> omega)), if_neg (by (simp only [inR, cmpP, loOk, hiOk, Int.ofNat_eq_natCast, Int.negSucc_eq, IntKind.bits, Int.toNat_natCast, ge_iff_le, gt_iff_lt, ne_eq, wl_len, hl_len, natCast_fold, not_true_eq_false, not_false_eq_true] at * <;> omega))]
      subst this
      cbv
      skip
      exact hQ
theorem rown_c {p : Int × Int} (hc : c = if okS p then 0 else 1) : TT 123 [.ag [.sc (.int .i64 p.1), .sc (.int .i64 p.2)]] [.one (.sc (.int .i64 c))] := by
  obtain ⟨pq, pp⟩ := p
  simp only
  refine con Tryz.func123 rfl (by kernel_rfl) (by kernel_rfl) fun π Q h hQ => ?_
  have bad : ¬ okS (pq, pp) → c = 1 := fun hh => by rw [hc, if_neg hh]
  cbv
  refine h.dec rfl (fun hp4 => ?_) (fun hp4 => ?_)
  · have := bad (fun hh => by have := hh.1; (simp only [inR, cmpP, loOk, hiOk, Int.ofNat_eq_natCast, Int.negSucc_eq, IntKind.bits, Int.toNat_natCast, ge_iff_le, gt_iff_lt, ne_eq, wl_len, hl_len, natCast_fold, not_true_eq_false, not_false_eq_true] at * <;> omega))
    subst this
    cbv
    skip
    exact hQ
  · cbv
    refine h.dec rfl (fun hp5 => ?_) (fun hp5 => ?_)
    · have := bad (fun hh => by have := hh.2.1; (simp only [inR, cmpP, loOk, hiOk, Int.ofNat_eq_natCast, Int.negSucc_eq, IntKind.bits, Int.toNat_natCast, ge_iff_le, gt_iff_lt, ne_eq, wl_len, hl_len, natCast_fold, not_true_eq_false, not_false_eq_true] at * <;> omega))
      subst this
      cbv
      skip
      exact hQ
    · cbv
      refine h.dec rfl (fun hp6 => ?_) (fun hp6 => ?_)
      · have := bad (fun hh => by have := hh.2.2.1; (simp only [inR, cmpP, loOk, hiOk, Int.ofNat_eq_natCast, Int.negSucc_eq, IntKind.bits, Int.toNat_natCast, ge_iff_le, gt_iff_lt, ne_eq, wl_len, hl_len, natCast_fold, not_true_eq_false, not_false_eq_true] at * <;> omega))
        subst this
        cbv
        skip
        exact hQ
      · cbv
        refine h.dec rfl (fun hp7 => ?_) (fun hp7 => ?_)
        · have := bad (fun hh => by have := hh.2.2.2; (simp only [inR, cmpP, loOk, hiOk, Int.ofNat_eq_natCast, Int.negSucc_eq, IntKind.bits, Int.toNat_natCast, ge_iff_le, gt_iff_lt, ne_eq, wl_len, hl_len, natCast_fold, not_true_eq_false, not_false_eq_true] at * <;> omega))
          subst this
          cbv
          skip
          exact hQ
        · have good : okS (pq, pp) := ⟨by (simp only [inR, cmpP, loOk, hiOk, Int.ofNat_eq_natCast, Int.negSucc_eq, IntKind.bits, Int.toNat_natCast, ge_iff_le, gt_iff_lt, ne_eq, wl_len, hl_len, natCast_fold, not_true_eq_false, not_false_eq_true] at * <;> omega), by (simp only [inR, cmpP, loOk, hiOk, Int.ofNat_eq_natCast, Int.negSucc_eq, IntKind.bits, Int.toNat_natCast, ge_iff_le, gt_iff_lt, ne_eq, wl_len, hl_len, natCast_fold, not_true_eq_false, not_false_eq_true] at * <;> omega), by (simp only [inR, cmpP, loOk, hiOk, Int.ofNat_eq_natCast, Int.negSucc_eq, IntKind.bits, Int.toNat_natCast, ge_iff_le, gt_iff_lt, ne_eq, wl_len, hl_len, natCast_fold, not_true_eq_false, not_false_eq_true] at * <;> omega), by (simp only [inR, cmpP, loOk, hiOk, Int.ofNat_eq_natCast, Int.negSucc_eq, IntKind.bits, Int.toNat_natCast, ge_iff_le, gt_iff_lt, ne_eq, wl_len, hl_len, natCast_fold, not_true_eq_false, not_false_eq_true] at * <;> omega)⟩
          rw [if_pos good] at hc
          subst hc
          cbv
          skip
          exact hQ
set_option maxHeartbeats 2000000 in
theorem roffer_c (hx : xs = stl l) (ho : StOk l) (hll : l.length ≤ 1000000) (hc : c = crvE true l) : TT 101 [.one (.sl t 2 xs)] [.one (.sc (.int .i64 c))] := by
  refine con Tryz.func101 rfl (by kernel_rfl) (by kernel_rfl) fun π Q h hQ => ?_
  (have hle : xs.length = l.length := by rw [hx, stl_len]
   cbv
   refine h.call' _ (rmany_c hx rfl) ?_
   obtain ⟨e0, he0⟩ : ∃ e0 : Int, e0 = if l.length = 0 then 4 else if 3 < l.length then 5 else 0 := ⟨_, rfl⟩
   rw [← he0]
   have hc2 : c = if e0 = 0 then chk true (prv l 0) (l.drop 0) else e0 := by
     rw [hc, he0]
     unfold crvE
     by_cases h1 : l.length = 0
     · simp [h1]
     · by_cases h2 : 3 < l.length
       · simp [h1, h2]
       · simp [h1, h2, prv]
   cbv
   refine h.loop' (Int × Int × Nat) (fun p => p.1 = (p.2.2 : Int) ∧ p.2.2 ≤ l.length ∧ c = if p.2.1 = 0 then chk true (prv l p.2.2) (l.drop p.2.2) else p.2.1) (fun p => ⟨[(0, .v (.one (.sl t 2 xs))), (3, vi .i64 p.2.1), (4, vi .i64 p.1)], []⟩) (fun p => l.length - p.2.2) (0, e0, 0) ⟨rfl, Nat.zero_le _, hc2⟩ (by (refine Wk.of [] rfl ?_ ?_; (· (repeat (first | exact trivial | (refine And.intro ?_ ?_; (· first | exact trivial | exact Or.inl ⟨_, rfl, rfl⟩ | exact ⟨_, rfl, rfl⟩ | exact Or.inr ⟨rfl, rfl, by decide⟩))))); (· (repeat (first | exact trivial | (refine And.intro ?_ ?_; (· first | exact trivial | exact Or.inl rfl | rfl | exact Or.inr ⟨_, _, _, _, rfl, rfl, rfl, renNo rfl⟩ | exact ⟨ne_no rfl, Or.inl ⟨_, rfl, rfl⟩⟩ | exact ⟨ne_no rfl, Or.inr ⟨rfl, _, rfl⟩⟩ | exact ⟨_, rfl, rfl, ne_no rfl⟩))))))) ?_
   clear hc2 he0
   rintro ⟨iz, e, i⟩ R ⟨hiz, hi, hv⟩ hR
   simp only at hiz hi hv
   cbv
   (refine Good.len' ‹_› ?_; intro _ _; cbv)
   refine h.dec rfl (fun hp3 => ?_) (fun hp3 => ?_)
   · obtain ⟨p, hgp⟩ : ∃ p, l[i]? = some p := ⟨l[i]'(by (simp only [inR, cmpP, loOk, hiOk, Int.ofNat_eq_natCast, Int.negSucc_eq, IntKind.bits, Int.toNat_natCast, ge_iff_le, gt_iff_lt, ne_eq, wl_len, hl_len, natCast_fold, not_true_eq_false, not_false_eq_true] at * <;> omega)), List.getElem?_eq_getElem _⟩
     have hck := chk_at (rise := true) hgp
     have hge := stl_get hgp
     rw [← hx] at hge
     obtain ⟨pq, pp⟩ := p
     obtain ⟨o1, o2⟩ := stl_ok ho hgp
     simp only at hge o1 o2
     cbv
     skip
     refine h.dec rfl (fun hp4 => ?_) (fun hp4 => ?_)
     · have he : e = 0 := by (simp only [inR, cmpP, loOk, hiOk, Int.ofNat_eq_natCast, Int.negSucc_eq, IntKind.bits, Int.toNat_natCast, ge_iff_le, gt_iff_lt, ne_eq, wl_len, hl_len, natCast_fold, not_true_eq_false, not_false_eq_true] at * <;> omega)
       rw [if_pos he, hck] at hv
       cbv
       refine h.get' i _ hiz hge ?_
       cbv
       refine h.call' _ (rown_c (p := (pq, pp)) rfl) ?_
       by_cases good : okS (pq, pp)
       · rw [if_pos good] at hv ⊢
         cbv
         (refine Good.yes ‹_› ?_ ?_; (· (simp only [inR, cmpP, loOk, hiOk, Int.ofNat_eq_natCast, Int.negSucc_eq, IntKind.bits, Int.toNat_natCast, ge_iff_le, gt_iff_lt, ne_eq, wl_len, hl_len, natCast_fold, not_true_eq_false, not_false_eq_true] at * <;> omega)); cbv)
         refine h.dec rfl (fun hp8 => ?_) (fun hp8 => ?_)
         · obtain ⟨k, rfl⟩ : ∃ k, i = k + 1 := ⟨i - 1, by (simp only [inR, cmpP, loOk, hiOk, Int.ofNat_eq_natCast, Int.negSucc_eq, IntKind.bits, Int.toNat_natCast, ge_iff_le, gt_iff_lt, ne_eq, wl_len, hl_len, natCast_fold, not_true_eq_false, not_false_eq_true] at * <;> omega)⟩
           obtain ⟨q, hgq⟩ : ∃ q, l[k]? = some q := ⟨l[k]'(by omega), List.getElem?_eq_getElem _⟩
           have hgq2 := stl_get hgq
           rw [← hx] at hgq2
           obtain ⟨o3, o4⟩ := stl_ok ho hgq
           obtain ⟨qq, qp⟩ := q
           simp only at hgq2 o3 o4
           have hpv : prv l (k + 1) = some qp := by simp [prv, hgq]
           rw [hpv] at hv
           simp only at hv
           cbv
           refine h.get' (k + 1) _ hiz hge ?_
           cbv
           (refine Good.sub' ‹_› ?_ ?_; (· (simp only [inR, cmpP, loOk, hiOk, Int.ofNat_eq_natCast, Int.negSucc_eq, IntKind.bits, Int.toNat_natCast, ge_iff_le, gt_iff_lt, ne_eq, wl_len, hl_len, natCast_fold, not_true_eq_false, not_false_eq_true] at * <;> omega)); intro _ _; cbv)
           refine h.get' k _ (by (simp only [inR, cmpP, loOk, hiOk, Int.ofNat_eq_natCast, Int.negSucc_eq, IntKind.bits, Int.toNat_natCast, ge_iff_le, gt_iff_lt, ne_eq, wl_len, hl_len, natCast_fold, not_true_eq_false, not_false_eq_true] at * <;> omega)) hgq2 ?_
           cbv
           skip
           refine h.dec rfl (fun hp9 => ?_) (fun hp9 => ?_)
           · have hf : fol true qp pp = false := decide_eq_false (by (simp only [inR, cmpP, loOk, hiOk, Int.ofNat_eq_natCast, Int.negSucc_eq, IntKind.bits, Int.toNat_natCast, ge_iff_le, gt_iff_lt, ne_eq, wl_len, hl_len, natCast_fold, not_true_eq_false, not_false_eq_true] at * <;> omega))
             rw [hf] at hv
             have hv : c = 3 := hv
             cbv
             (refine Good.chk' ‹_› rfl ?_; cbv; refine Good.add' ‹_› ?_ ?_; (· (simp only [inR, cmpP, loOk, hiOk, Int.ofNat_eq_natCast, Int.negSucc_eq, IntKind.bits, Int.toNat_natCast, ge_iff_le, gt_iff_lt, ne_eq, wl_len, hl_len, natCast_fold, not_true_eq_false, not_false_eq_true] at * <;> omega)); intro _ _; cbv)
             rename_i i1 hi1
             refine hR _ (i1, 3, k + 1 + 1) ⟨by simp only; (simp only [inR, cmpP, loOk, hiOk, Int.ofNat_eq_natCast, Int.negSucc_eq, IntKind.bits, Int.toNat_natCast, ge_iff_le, gt_iff_lt, ne_eq, wl_len, hl_len, natCast_fold, not_true_eq_false, not_false_eq_true] at * <;> omega), by simp only; (simp only [inR, cmpP, loOk, hiOk, Int.ofNat_eq_natCast, Int.negSucc_eq, IntKind.bits, Int.toNat_natCast, ge_iff_le, gt_iff_lt, ne_eq, wl_len, hl_len, natCast_fold, not_true_eq_false, not_false_eq_true] at * <;> omega), hv.trans (if_neg (by simp only; decide)).symm⟩ (by simp only; (simp only [inR, cmpP, loOk, hiOk, Int.ofNat_eq_natCast, Int.negSucc_eq, IntKind.bits, Int.toNat_natCast, ge_iff_le, gt_iff_lt, ne_eq, wl_len, hl_len, natCast_fold, not_true_eq_false, not_false_eq_true] at * <;> omega)) (by (refine Wk.of [] rfl ?_ ?_; (· (repeat (first | exact trivial | (refine And.intro ?_ ?_; (· first | exact trivial | exact Or.inl ⟨_, rfl, rfl⟩ | exact ⟨_, rfl, rfl⟩ | exact Or.inr ⟨rfl, rfl, by decide⟩))))); (· (repeat (first | exact trivial | (refine And.intro ?_ ?_; (· first | exact trivial | exact Or.inl rfl | rfl | exact Or.inr ⟨_, _, _, _, rfl, rfl, rfl, renNo rfl⟩ | exact ⟨ne_no rfl, Or.inl ⟨_, rfl, rfl⟩⟩ | exact ⟨ne_no rfl, Or.inr ⟨rfl, _, rfl⟩⟩ | exact ⟨_, rfl, rfl, ne_no rfl⟩)))))))
           · have hf : fol true qp pp = true := decide_eq_true (by (simp only [inR, cmpP, loOk, hiOk, Int.ofNat_eq_natCast, Int.negSucc_eq, IntKind.bits, Int.toNat_natCast, ge_iff_le, gt_iff_lt, ne_eq, wl_len, hl_len, natCast_fold, not_true_eq_false, not_false_eq_true] at * <;> omega))
             rw [hf, if_pos rfl] at hv
             cbv
             (refine Good.chk' ‹_› rfl ?_; cbv; refine Good.add' ‹_› ?_ ?_; (· (simp only [inR, cmpP, loOk, hiOk, Int.ofNat_eq_natCast, Int.negSucc_eq, IntKind.bits, Int.toNat_natCast, ge_iff_le, gt_iff_lt, ne_eq, wl_len, hl_len, natCast_fold, not_true_eq_false, not_false_eq_true] at * <;> omega)); intro _ _; cbv)
             rename_i i1 hi1
             refine hR _ (i1, 0, k + 1 + 1) ⟨by simp only; (simp only [inR, cmpP, loOk, hiOk, Int.ofNat_eq_natCast, Int.negSucc_eq, IntKind.bits, Int.toNat_natCast, ge_iff_le, gt_iff_lt, ne_eq, wl_len, hl_len, natCast_fold, not_true_eq_false, not_false_eq_true] at * <;> omega), by simp only; (simp only [inR, cmpP, loOk, hiOk, Int.ofNat_eq_natCast, Int.negSucc_eq, IntKind.bits, Int.toNat_natCast, ge_iff_le, gt_iff_lt, ne_eq, wl_len, hl_len, natCast_fold, not_true_eq_false, not_false_eq_true] at * <;> omega), hv.trans (if_pos rfl).symm⟩ (by simp only; (simp only [inR, cmpP, loOk, hiOk, Int.ofNat_eq_natCast, Int.negSucc_eq, IntKind.bits, Int.toNat_natCast, ge_iff_le, gt_iff_lt, ne_eq, wl_len, hl_len, natCast_fold, not_true_eq_false, not_false_eq_true] at * <;> omega)) (by (refine Wk.of [] rfl ?_ ?_; (· (repeat (first | exact trivial | (refine And.intro ?_ ?_; (· first | exact trivial | exact Or.inl ⟨_, rfl, rfl⟩ | exact ⟨_, rfl, rfl⟩ | exact Or.inr ⟨rfl, rfl, by decide⟩))))); (· (repeat (first | exact trivial | (refine And.intro ?_ ?_; (· first | exact trivial | exact Or.inl rfl | rfl | exact Or.inr ⟨_, _, _, _, rfl, rfl, rfl, renNo rfl⟩ | exact ⟨ne_no rfl, Or.inl ⟨_, rfl, rfl⟩⟩ | exact ⟨ne_no rfl, Or.inr ⟨rfl, _, rfl⟩⟩ | exact ⟨_, rfl, rfl, ne_no rfl⟩)))))))
         · have hi0 : i = 0 := by (simp only [inR, cmpP, loOk, hiOk, Int.ofNat_eq_natCast, Int.negSucc_eq, IntKind.bits, Int.toNat_natCast, ge_iff_le, gt_iff_lt, ne_eq, wl_len, hl_len, natCast_fold, not_true_eq_false, not_false_eq_true] at * <;> omega)
           subst hi0
           have hv : c = chk true (prv l (0 + 1)) (l.drop (0 + 1)) := hv
           cbv
           (refine Good.chk' ‹_› rfl ?_; cbv; refine Good.add' ‹_› ?_ ?_; (· (simp only [inR, cmpP, loOk, hiOk, Int.ofNat_eq_natCast, Int.negSucc_eq, IntKind.bits, Int.toNat_natCast, ge_iff_le, gt_iff_lt, ne_eq, wl_len, hl_len, natCast_fold, not_true_eq_false, not_false_eq_true] at * <;> omega)); intro _ _; cbv)
           rename_i i1 hi1
           refine hR _ (i1, 0, 0 + 1) ⟨by simp only; (simp only [inR, cmpP, loOk, hiOk, Int.ofNat_eq_natCast, Int.negSucc_eq, IntKind.bits, Int.toNat_natCast, ge_iff_le, gt_iff_lt, ne_eq, wl_len, hl_len, natCast_fold, not_true_eq_false, not_false_eq_true] at * <;> omega), by simp only; (simp only [inR, cmpP, loOk, hiOk, Int.ofNat_eq_natCast, Int.negSucc_eq, IntKind.bits, Int.toNat_natCast, ge_iff_le, gt_iff_lt, ne_eq, wl_len, hl_len, natCast_fold, not_true_eq_false, not_false_eq_true] at * <;> omega), hv.trans (if_pos rfl).symm⟩ (by simp only; (simp only [inR, cmpP, loOk, hiOk, Int.ofNat_eq_natCast, Int.negSucc_eq, IntKind.bits, Int.toNat_natCast, ge_iff_le, gt_iff_lt, ne_eq, wl_len, hl_len, natCast_fold, not_true_eq_false, not_false_eq_true] at * <;> omega)) (by (refine Wk.of [] rfl ?_ ?_; (· (repeat (first | exact trivial | (refine And.intro ?_ ?_; (· first | exact trivial | exact Or.inl ⟨_, rfl, rfl⟩ | exact ⟨_, rfl, rfl⟩ | exact Or.inr ⟨rfl, rfl, by decide⟩))))); (· (repeat (first | exact trivial | (refine And.intro ?_ ?_; (· first | exact trivial | exact Or.inl rfl | rfl | exact Or.inr ⟨_, _, _, _, rfl, rfl, rfl, renNo rfl⟩ | exact ⟨ne_no rfl, Or.inl ⟨_, rfl, rfl⟩⟩ | exact ⟨ne_no rfl, Or.inr ⟨rfl, _, rfl⟩⟩ | exact ⟨_, rfl, rfl, ne_no rfl⟩)))))))
       · rw [if_neg good] at hv ⊢
         cbv
         (refine Good.no ‹_› rfl ?_ ?_; (· (simp only [inR, cmpP, loOk, hiOk, Int.ofNat_eq_natCast, Int.negSucc_eq, IntKind.bits, Int.toNat_natCast, ge_iff_le, gt_iff_lt, ne_eq, wl_len, hl_len, natCast_fold, not_true_eq_false, not_false_eq_true] at * <;> omega)); cbv; refine Good.chk' ‹_› rfl ?_; cbv; refine Good.add' ‹_› ?_ ?_; (· (simp only [inR, cmpP, loOk, hiOk, Int.ofNat_eq_natCast, Int.negSucc_eq, IntKind.bits, Int.toNat_natCast, ge_iff_le, gt_iff_lt, ne_eq, wl_len, hl_len, natCast_fold, not_true_eq_false, not_false_eq_true] at * <;> omega)); intro _ _; cbv)
         rename_i i1 hi1
         refine hR _ (i1, 1, i + 1) ⟨by simp only; (simp only [inR, cmpP, loOk, hiOk, Int.ofNat_eq_natCast, Int.negSucc_eq, IntKind.bits, Int.toNat_natCast, ge_iff_le, gt_iff_lt, ne_eq, wl_len, hl_len, natCast_fold, not_true_eq_false, not_false_eq_true] at * <;> omega), by simp only; (simp only [inR, cmpP, loOk, hiOk, Int.ofNat_eq_natCast, Int.negSucc_eq, IntKind.bits, Int.toNat_natCast, ge_iff_le, gt_iff_lt, ne_eq, wl_len, hl_len, natCast_fold, not_true_eq_false, not_false_eq_true] at * <;> omega), hv.trans (if_neg (by simp only; decide)).symm⟩ (by simp only; (simp only [inR, cmpP, loOk, hiOk, Int.ofNat_eq_natCast, Int.negSucc_eq, IntKind.bits, Int.toNat_natCast, ge_iff_le, gt_iff_lt, ne_eq, wl_len, hl_len, natCast_fold, not_true_eq_false, not_false_eq_true] at * <;> omega)) (by (refine Wk.of [] rfl ?_ ?_; (· (repeat (first | exact trivial | (refine And.intro ?_ ?_; (· first | exact trivial | exact Or.inl ⟨_, rfl, rfl⟩ | exact ⟨_, rfl, rfl⟩ | exact Or.inr ⟨rfl, rfl, by decide⟩))))); (· (repeat (first | exact trivial | (refine And.intro ?_ ?_; (· first | exact trivial | exact Or.inl rfl | rfl | exact Or.inr ⟨_, _, _, _, rfl, rfl, rfl, renNo rfl⟩ | exact ⟨ne_no rfl, Or.inl ⟨_, rfl, rfl⟩⟩ | exact ⟨ne_no rfl, Or.inr ⟨rfl, _, rfl⟩⟩ | exact ⟨_, rfl, rfl, ne_no rfl⟩)))))))
     · have he : e = c := by rw [hv, if_neg (by (simp only [inR, cmpP, loOk, hiOk, Int.ofNat_eq_natCast, Int.negSucc_eq, IntKind.bits, Int.toNat_natCast, ge_iff_le, gt_iff_lt, ne_eq, wl_len, hl_len, natCast_fold, not_true_eq_false, not_false_eq_true] at * <;> omega))]
       subst he
       cbv
       skip
       exact hQ
   · have he : e = c := by
       have hi2 : i = l.length := by (simp only [inR, cmpP, loOk, hiOk, Int.ofNat_eq_natCast, Int.negSucc_eq, IntKind.bits, Int.toNat_natCast, ge_iff_le, gt_iff_lt, ne_eq, wl_len, hl_len, natCast_fold, not_true_eq_false, not_false_eq_true] at * <;> omega)
       rw [hv, hi2, List.drop_length]
       by_cases h0 : e = 0
       · rw [if_pos h0, h0]; cases prv l l.length <;> rfl
       · rw [if_neg h0]
     subst he
     cbv
     skip
     exact hQ
  )
set_option maxHeartbeats 2000000 in
theorem rbid_c (hx : xs = stl l) (ho : StOk l) (hll : l.length ≤ 1000000) (hc : c = crvE false l) : TT 137 [.one (.sl t 2 xs)] [.one (.sc (.int .i64 c))] := by
  refine con Tryz.func137 rfl (by kernel_rfl) (by kernel_rfl) fun π Q h hQ => ?_
  (have hle : xs.length = l.length := by rw [hx, stl_len]
   cbv
   refine h.call' _ (rmany_c hx rfl) ?_
   obtain ⟨e0, he0⟩ : ∃ e0 : Int, e0 = if l.length = 0 then 4 else if 3 < l.length then 5 else 0 := ⟨_, rfl⟩
   rw [← he0]
   have hc2 : c = if e0 = 0 then chk false (prv l 0) (l.drop 0) else e0 := by
     rw [hc, he0]
     unfold crvE
     by_cases h1 : l.length = 0
     · simp [h1]
     · by_cases h2 : 3 < l.length
       · simp [h1, h2]
       · simp [h1, h2, prv]
   cbv
   refine h.loop' (Int × Int × Nat) (fun p => p.1 = (p.2.2 : Int) ∧ p.2.2 ≤ l.length ∧ c = if p.2.1 = 0 then chk false (prv l p.2.2) (l.drop p.2.2) else p.2.1) (fun p => ⟨[(0, .v (.one (.sl t 2 xs))), (3, vi .i64 p.2.1), (4, vi .i64 p.1)], []⟩) (fun p => l.length - p.2.2) (0, e0, 0) ⟨rfl, Nat.zero_le _, hc2⟩ (by (refine Wk.of [] rfl ?_ ?_; (· (repeat (first | exact trivial | (refine And.intro ?_ ?_; (· first | exact trivial | exact Or.inl ⟨_, rfl, rfl⟩ | exact ⟨_, rfl, rfl⟩ | exact Or.inr ⟨rfl, rfl, by decide⟩))))); (· (repeat (first | exact trivial | (refine And.intro ?_ ?_; (· first | exact trivial | exact Or.inl rfl | rfl | exact Or.inr ⟨_, _, _, _, rfl, rfl, rfl, renNo rfl⟩ | exact ⟨ne_no rfl, Or.inl ⟨_, rfl, rfl⟩⟩ | exact ⟨ne_no rfl, Or.inr ⟨rfl, _, rfl⟩⟩ | exact ⟨_, rfl, rfl, ne_no rfl⟩))))))) ?_
   clear hc2 he0
   rintro ⟨iz, e, i⟩ R ⟨hiz, hi, hv⟩ hR
   simp only at hiz hi hv
   cbv
   (refine Good.len' ‹_› ?_; intro _ _; cbv)
   refine h.dec rfl (fun hp3 => ?_) (fun hp3 => ?_)
   · obtain ⟨p, hgp⟩ : ∃ p, l[i]? = some p := ⟨l[i]'(by (simp only [inR, cmpP, loOk, hiOk, Int.ofNat_eq_natCast, Int.negSucc_eq, IntKind.bits, Int.toNat_natCast, ge_iff_le, gt_iff_lt, ne_eq, wl_len, hl_len, natCast_fold, not_true_eq_false, not_false_eq_true] at * <;> omega)), List.getElem?_eq_getElem _⟩
     have hck := chk_at (rise := false) hgp
     have hge := stl_get hgp
     rw [← hx] at hge
     obtain ⟨pq, pp⟩ := p
     obtain ⟨o1, o2⟩ := stl_ok ho hgp
     simp only at hge o1 o2
     cbv
     skip
     refine h.dec rfl (fun hp4 => ?_) (fun hp4 => ?_)
     · have he : e = 0 := by (simp only [inR, cmpP, loOk, hiOk, Int.ofNat_eq_natCast, Int.negSucc_eq, IntKind.bits, Int.toNat_natCast, ge_iff_le, gt_iff_lt, ne_eq, wl_len, hl_len, natCast_fold, not_true_eq_false, not_false_eq_true] at * <;> omega)
       rw [if_pos he, hck] at hv
       cbv
       refine h.get' i _ hiz hge ?_
       cbv
       refine h.call' _ (rown_c (p := (pq, pp)) rfl) ?_
       by_cases good : okS (pq, pp)
       · rw [if_pos good] at hv ⊢
         cbv
         (refine Good.yes ‹_› ?_ ?_; (· (simp only [inR, cmpP, loOk, hiOk, Int.ofNat_eq_natCast, Int.negSucc_eq, IntKind.bits, Int.toNat_natCast, ge_iff_le, gt_iff_lt, ne_eq, wl_len, hl_len, natCast_fold, not_true_eq_false, not_false_eq_true] at * <;> omega)); cbv)
         refine h.dec rfl (fun hp8 => ?_) (fun hp8 => ?_)
         · obtain ⟨k, rfl⟩ : ∃ k, i = k + 1 := ⟨i - 1, by (simp only [inR, cmpP, loOk, hiOk, Int.ofNat_eq_natCast, Int.negSucc_eq, IntKind.bits, Int.toNat_natCast, ge_iff_le, gt_iff_lt, ne_eq, wl_len, hl_len, natCast_fold, not_true_eq_false, not_false_eq_true] at * <;> omega)⟩
           obtain ⟨q, hgq⟩ : ∃ q, l[k]? = some q := ⟨l[k]'(by omega), List.getElem?_eq_getElem _⟩
           have hgq2 := stl_get hgq
           rw [← hx] at hgq2
           obtain ⟨o3, o4⟩ := stl_ok ho hgq
           obtain ⟨qq, qp⟩ := q
           simp only at hgq2 o3 o4
           have hpv : prv l (k + 1) = some qp := by simp [prv, hgq]
           rw [hpv] at hv
           simp only at hv
           cbv
           refine h.get' (k + 1) _ hiz hge ?_
           cbv
           (refine Good.sub' ‹_› ?_ ?_; (· (simp only [inR, cmpP, loOk, hiOk, Int.ofNat_eq_natCast, Int.negSucc_eq, IntKind.bits, Int.toNat_natCast, ge_iff_le, gt_iff_lt, ne_eq, wl_len, hl_len, natCast_fold, not_true_eq_false, not_false_eq_true] at * <;> omega)); intro _ _; cbv)
           refine h.get' k _ (by (simp only [inR, cmpP, loOk, hiOk, Int.ofNat_eq_natCast, Int.negSucc_eq, IntKind.bits, Int.toNat_natCast, ge_iff_le, gt_iff_lt, ne_eq, wl_len, hl_len, natCast_fold, not_true_eq_false, not_false_eq_true] at * <;> omega)) hgq2 ?_
           cbv
           skip
           refine h.dec rfl (fun hp9 => ?_) (fun hp9 => ?_)
           · have hf : fol false qp pp = false := decide_eq_false (by (simp only [inR, cmpP, loOk, hiOk, Int.ofNat_eq_natCast, Int.negSucc_eq, IntKind.bits, Int.toNat_natCast, ge_iff_le, gt_iff_lt, ne_eq, wl_len, hl_len, natCast_fold, not_true_eq_false, not_false_eq_true] at * <;> omega))
             rw [hf] at hv
             have hv : c = 3 := hv
             cbv
             (refine Good.chk' ‹_› rfl ?_; cbv; refine Good.add' ‹_› ?_ ?_; (· (simp only [inR, cmpP, loOk, hiOk, Int.ofNat_eq_natCast, Int.negSucc_eq, IntKind.bits, Int.toNat_natCast, ge_iff_le, gt_iff_lt, ne_eq, wl_len, hl_len, natCast_fold, not_true_eq_false, not_false_eq_true] at * <;> omega)); intro _ _; cbv)
             rename_i i1 hi1
             refine hR _ (i1, 3, k + 1 + 1) ⟨by simp only; (simp only [inR, cmpP, loOk, hiOk, Int.ofNat_eq_natCast, Int.negSucc_eq, IntKind.bits, Int.toNat_natCast, ge_iff_le, gt_iff_lt, ne_eq, wl_len, hl_len, natCast_fold, not_true_eq_false, not_false_eq_true] at * <;> omega), by simp only; (simp only [inR, cmpP, loOk, hiOk, Int.ofNat_eq_natCast, Int.negSucc_eq, IntKind.bits, Int.toNat_natCast, ge_iff_le, gt_iff_lt, ne_eq, wl_len, hl_len, natCast_fold, not_true_eq_false, not_false_eq_true] at * <;> omega), hv.trans (if_neg (by simp only; decide)).symm⟩ (by simp only; (simp only [inR, cmpP, loOk, hiOk, Int.ofNat_eq_natCast, Int.negSucc_eq, IntKind.bits, Int.toNat_natCast, ge_iff_le, gt_iff_lt, ne_eq, wl_len, hl_len, natCast_fold, not_true_eq_false, not_false_eq_true] at * <;> omega)) (by (refine Wk.of [] rfl ?_ ?_; (· (repeat (first | exact trivial | (refine And.intro ?_ ?_; (· first | exact trivial | exact Or.inl ⟨_, rfl, rfl⟩ | exact ⟨_, rfl, rfl⟩ | exact Or.inr ⟨rfl, rfl, by decide⟩))))); (· (repeat (first | exact trivial | (refine And.intro ?_ ?_; (· first | exact trivial | exact Or.inl rfl | rfl | exact Or.inr ⟨_, _, _, _, rfl, rfl, rfl, renNo rfl⟩ | exact ⟨ne_no rfl, Or.inl ⟨_, rfl, rfl⟩⟩ | exact ⟨ne_no rfl, Or.inr ⟨rfl, _, rfl⟩⟩ | exact ⟨_, rfl, rfl, ne_no rfl⟩)))))))
           · have hf : fol false qp pp = true := decide_eq_true (by (simp only [inR, cmpP, loOk, hiOk, Int.ofNat_eq_natCast, Int.negSucc_eq, IntKind.bits, Int.toNat_natCast, ge_iff_le, gt_iff_lt, ne_eq, wl_len, hl_len, natCast_fold, not_true_eq_false, not_false_eq_true] at * <;> omega))
             rw [hf, if_pos rfl] at hv
             cbv
             (refine Good.chk' ‹_› rfl ?_; cbv; refine Good.add' ‹_› ?_ ?_; (· (simp only [inR, cmpP, loOk, hiOk, Int.ofNat_eq_natCast, Int.negSucc_eq, IntKind.bits, Int.toNat_natCast, ge_iff_le, gt_iff_lt, ne_eq, wl_len, hl_len, natCast_fold, not_true_eq_false, not_false_eq_true] at * <;> omega)); intro _ _; cbv)
             rename_i i1 hi1
             refine hR _ (i1, 0, k + 1 + 1) ⟨by simp only; (simp only [inR, cmpP, loOk, hiOk, Int.ofNat_eq_natCast, Int.negSucc_eq, IntKind.bits, Int.toNat_natCast, ge_iff_le, gt_iff_lt, ne_eq, wl_len, hl_len, natCast_fold, not_true_eq_false, not_false_eq_true] at * <;> omega), by simp only; (simp only [inR, cmpP, loOk, hiOk, Int.ofNat_eq_natCast, Int.negSucc_eq, IntKind.bits, Int.toNat_natCast, ge_iff_le, gt_iff_lt, ne_eq, wl_len, hl_len, natCast_fold, not_true_eq_false, not_false_eq_true] at * <;> omega), hv.trans (if_pos rfl).symm⟩ (by simp only; (simp only [inR, cmpP, loOk, hiOk, Int.ofNat_eq_natCast, Int.negSucc_eq, IntKind.bits, Int.toNat_natCast, ge_iff_le, gt_iff_lt, ne_eq, wl_len, hl_len, natCast_fold, not_true_eq_false, not_false_eq_true] at * <;> omega)) (by (refine Wk.of [] rfl ?_ ?_; (· (repeat (first | exact trivial | (refine And.intro ?_ ?_; (· first | exact trivial | exact Or.inl ⟨_, rfl, rfl⟩ | exact ⟨_, rfl, rfl⟩ | exact Or.inr ⟨rfl, rfl, by decide⟩))))); (· (repeat (first | exact trivial | (refine And.intro ?_ ?_; (· first | exact trivial | exact Or.inl rfl | rfl | exact Or.inr ⟨_, _, _, _, rfl, rfl, rfl, renNo rfl⟩ | exact ⟨ne_no rfl, Or.inl ⟨_, rfl, rfl⟩⟩ | exact ⟨ne_no rfl, Or.inr ⟨rfl, _, rfl⟩⟩ | exact ⟨_, rfl, rfl, ne_no rfl⟩)))))))
         · have hi0 : i = 0 := by (simp only [inR, cmpP, loOk, hiOk, Int.ofNat_eq_natCast, Int.negSucc_eq, IntKind.bits, Int.toNat_natCast, ge_iff_le, gt_iff_lt, ne_eq, wl_len, hl_len, natCast_fold, not_true_eq_false, not_false_eq_true] at * <;> omega)
           subst hi0
           have hv : c = chk false (prv l (0 + 1)) (l.drop (0 + 1)) := hv
           cbv
           (refine Good.chk' ‹_› rfl ?_; cbv; refine Good.add' ‹_› ?_ ?_; (· (simp only [inR, cmpP, loOk, hiOk, Int.ofNat_eq_natCast, Int.negSucc_eq, IntKind.bits, Int.toNat_natCast, ge_iff_le, gt_iff_lt, ne_eq, wl_len, hl_len, natCast_fold, not_true_eq_false, not_false_eq_true] at * <;> omega)); intro _ _; cbv)
           rename_i i1 hi1
           refine hR _ (i1, 0, 0 + 1) ⟨by simp only; (simp only [inR, cmpP, loOk, hiOk, Int.ofNat_eq_natCast, Int.negSucc_eq, IntKind.bits, Int.toNat_natCast, ge_iff_le, gt_iff_lt, ne_eq, wl_len, hl_len, natCast_fold, not_true_eq_false, not_false_eq_true] at * <;> omega), by simp only; (simp only [inR, cmpP, loOk, hiOk, Int.ofNat_eq_natCast, Int.negSucc_eq, IntKind.bits, Int.toNat_natCast, ge_iff_le, gt_iff_lt, ne_eq, wl_len, hl_len, natCast_fold, not_true_eq_false, not_false_eq_true] at * <;> omega), hv.trans (if_pos rfl).symm⟩ (by simp only; (simp only [inR, cmpP, loOk, hiOk, Int.ofNat_eq_natCast, Int.negSucc_eq, IntKind.bits, Int.toNat_natCast, ge_iff_le, gt_iff_lt, ne_eq, wl_len, hl_len, natCast_fold, not_true_eq_false, not_false_eq_true] at * <;> omega)) (by (refine Wk.of [] rfl ?_ ?_; (· (repeat (first | exact trivial | (refine And.intro ?_ ?_; (· first | exact trivial | exact Or.inl ⟨_, rfl, rfl⟩ | exact ⟨_, rfl, rfl⟩ | exact Or.inr ⟨rfl, rfl, by decide⟩))))); (· (repeat (first | exact trivial | (refine And.intro ?_ ?_; (· first | exact trivial | exact Or.inl rfl | rfl | exact Or.inr ⟨_, _, _, _, rfl, rfl, rfl, renNo rfl⟩ | exact ⟨ne_no rfl, Or.inl ⟨_, rfl, rfl⟩⟩ | exact ⟨ne_no rfl, Or.inr ⟨rfl, _, rfl⟩⟩ | exact ⟨_, rfl, rfl, ne_no rfl⟩)))))))
       · rw [if_neg good] at hv ⊢
         cbv
         (refine Good.no ‹_› rfl ?_ ?_; (· (simp only [inR, cmpP, loOk, hiOk, Int.ofNat_eq_natCast, Int.negSucc_eq, IntKind.bits, Int.toNat_natCast, ge_iff_le, gt_iff_lt, ne_eq, wl_len, hl_len, natCast_fold, not_true_eq_false, not_false_eq_true] at * <;> omega)); cbv; refine Good.chk' ‹_› rfl ?_; cbv; refine Good.add' ‹_› ?_ ?_; (· (simp only [inR, cmpP, loOk, hiOk, Int.ofNat_eq_natCast, Int.negSucc_eq, IntKind.bits, Int.toNat_natCast, ge_iff_le, gt_iff_lt, ne_eq, wl_len, hl_len, natCast_fold, not_true_eq_false, not_false_eq_true] at * <;> omega)); intro _ _; cbv)
         rename_i i1 hi1
         refine hR _ (i1, 1, i + 1) ⟨by simp only; (simp only [inR, cmpP, loOk, hiOk, Int.ofNat_eq_natCast, Int.negSucc_eq, IntKind.bits, Int.toNat_natCast, ge_iff_le, gt_iff_lt, ne_eq, wl_len, hl_len, natCast_fold, not_true_eq_false, not_false_eq_true] at * <;> omega), by simp only; (simp only [inR, cmpP, loOk, hiOk, Int.ofNat_eq_natCast, Int.negSucc_eq, IntKind.bits, Int.toNat_natCast, ge_iff_le, gt_iff_lt, ne_eq, wl_len, hl_len, natCast_fold, not_true_eq_false, not_false_eq_true] at * <;> omega), hv.trans (if_neg (by simp only; decide)).symm⟩ (by simp only; (simp only [inR, cmpP, loOk, hiOk, Int.ofNat_eq_natCast, Int.negSucc_eq, IntKind.bits, Int.toNat_natCast, ge_iff_le, gt_iff_lt, ne_eq, wl_len, hl_len, natCast_fold, not_true_eq_false, not_false_eq_true] at * <;> omega)) (by (refine Wk.of [] rfl ?_ ?_; (· (repeat (first | exact trivial | (refine And.intro ?_ ?_; (· first | exact trivial | exact Or.inl ⟨_, rfl, rfl⟩ | exact ⟨_, rfl, rfl⟩ | exact Or.inr ⟨rfl, rfl, by decide⟩))))); (· (repeat (first | exact trivial | (refine And.intro ?_ ?_; (· first | exact trivial | exact Or.inl rfl | rfl | exact Or.inr ⟨_, _, _, _, rfl, rfl, rfl, renNo rfl⟩ | exact ⟨ne_no rfl, Or.inl ⟨_, rfl, rfl⟩⟩ | exact ⟨ne_no rfl, Or.inr ⟨rfl, _, rfl⟩⟩ | exact ⟨_, rfl, rfl, ne_no rfl⟩)))))))
     · have he : e = c := by rw [hv, if_neg (by (simp only [inR, cmpP, loOk, hiOk, Int.ofNat_eq_natCast, Int.negSucc_eq, IntKind.bits, Int.toNat_natCast, ge_iff_le, gt_iff_lt, ne_eq, wl_len, hl_len, natCast_fold, not_true_eq_false, not_false_eq_true] at * <;> omega))]
       subst he
       cbv
       skip
       exact hQ
   · have he : e = c := by
       have hi2 : i = l.length := by (simp only [inR, cmpP, loOk, hiOk, Int.ofNat_eq_natCast, Int.negSucc_eq, IntKind.bits, Int.toNat_natCast, ge_iff_le, gt_iff_lt, ne_eq, wl_len, hl_len, natCast_fold, not_true_eq_false, not_false_eq_true] at * <;> omega)
       rw [hv, hi2, List.drop_length]
       by_cases h0 : e = 0
       · rw [if_pos h0, h0]; cases prv l l.length <;> rfl
       · rw [if_neg h0]
     subst he
     cbv
     skip
     exact hQ
  )
theorem rcur_c (hx : xs = stl l) (ho : StOk l) (hll : l.length ≤ 1000000) (hc : c = curE l) : TT 124 [.one (.sl t 2 xs)] [.one (.sc (.int .i64 c))] := by
  refine con Tryz.func124 rfl (by kernel_rfl) (by kernel_rfl) fun π Q h hQ => ?_
  cbv
  skip
  refine h.call' _ (rbid_c hx ho hll rfl) ?_
  obtain ⟨e, he⟩ : ∃ e, e = crvE false l := ⟨_, rfl⟩
  rw [← he]
  cbv
  skip
  refine h.dec rfl (fun hp => ?_) (fun hp => ?_)
  · have : c = 0 := by rw [hc]; unfold curE; rw [if_pos (by rw [← he]; (simp only [inR, cmpP, loOk, hiOk, Int.ofNat_eq_natCast, Int.negSucc_eq, IntKind.bits, Int.toNat_natCast, ge_iff_le, gt_iff_lt, ne_eq, wl_len, hl_len, natCast_fold, not_true_eq_false, not_false_eq_true] at * <;> omega))]
    subst this
    cbv
    skip
    exact hQ
  · have hc2 : c = crvE true l := by rw [hc]; unfold curE; rw [if_neg (by rw [← he]; (simp only [inR, cmpP, loOk, hiOk, Int.ofNat_eq_natCast, Int.negSucc_eq, IntKind.bits, Int.toNat_natCast, ge_iff_le, gt_iff_lt, ne_eq, wl_len, hl_len, natCast_fold, not_true_eq_false, not_false_eq_true] at * <;> omega))]
    cbv
    skip
    refine h.call' _ (roffer_c hx ho hll hc2) ?_
    cbv
    skip
    exact hQ
theorem rsum_c (hx : xs = stl l) (ho : StOk l) (hll : l.length ≤ 1000000) (hc : c = sumE l) : TT 102 [.one (.sl t 2 xs)] [.one (.sc (.int .i64 c))] := by
  refine con Tryz.func102 rfl (by kernel_rfl) (by kernel_rfl) fun π Q h hQ => ?_
  have hle : xs.length = l.length := by rw [hx, stl_len]
  cbv
  refine h.loop' (Int × Int × Nat) (fun p => p.1 = (p.2.2 : Int) ∧ p.2.2 ≤ l.length ∧ p.2.1 = sumQ (l.take p.2.2) ∧ (p.2.2 = 0 ∨ curE l = 0)) (fun p => ⟨[(0, .v (.one (.sl t 2 xs))), (3, vi .i64 p.2.1), (4, vi .i64 p.1)], []⟩) (fun p => l.length - p.2.2) (0, 0, 0) ⟨rfl, Nat.zero_le _, rfl, .inl rfl⟩ (by (refine Wk.of [] rfl ?_ ?_; (· (repeat (first | exact trivial | (refine And.intro ?_ ?_; (· first | exact trivial | exact Or.inl ⟨_, rfl, rfl⟩ | exact ⟨_, rfl, rfl⟩ | exact Or.inr ⟨rfl, rfl, by decide⟩))))); (· (repeat (first | exact trivial | (refine And.intro ?_ ?_; (· first | exact trivial | exact Or.inl rfl | rfl | exact Or.inr ⟨_, _, _, _, rfl, rfl, rfl, renNo rfl⟩ | exact ⟨ne_no rfl, Or.inl ⟨_, rfl, rfl⟩⟩ | exact ⟨ne_no rfl, Or.inr ⟨rfl, _, rfl⟩⟩ | exact ⟨_, rfl, rfl, ne_no rfl⟩))))))) ?_
  rintro ⟨iz, sz, i⟩ R ⟨hiz, hi, hv, hcr⟩ hR
  simp only at hiz hi hv hcr
  cbv
  (refine Good.len' ‹_› ?_; intro _ _; cbv)
  refine h.dec rfl (fun hp3 => ?_) (fun hp3 => ?_)
  · obtain ⟨p, hgp⟩ : ∃ p, l[i]? = some p := ⟨l[i]'(by (simp only [inR, cmpP, loOk, hiOk, Int.ofNat_eq_natCast, Int.negSucc_eq, IntKind.bits, Int.toNat_natCast, ge_iff_le, gt_iff_lt, ne_eq, wl_len, hl_len, natCast_fold, not_true_eq_false, not_false_eq_true] at * <;> omega)), List.getElem?_eq_getElem _⟩
    have hge := stl_get hgp
    rw [← hx] at hge
    have hs := sumQ_take hgp
    cbv
    refine h.call' _ (rcur_c hx ho hll rfl) ?_
    obtain ⟨e, he⟩ : ∃ e, e = curE l := ⟨_, rfl⟩
    rw [← he] at hcr ⊢
    cbv
    refine h.dec rfl (fun hp4 => ?_) (fun hp4 => ?_)
    · have he0 : curE l = 0 := by rw [← he]; (simp only [inR, cmpP, loOk, hiOk, Int.ofNat_eq_natCast, Int.negSucc_eq, IntKind.bits, Int.toNat_natCast, ge_iff_le, gt_iff_lt, ne_eq, wl_len, hl_len, natCast_fold, not_true_eq_false, not_false_eq_true] at * <;> omega)
      obtain ⟨k1, k2⟩ := cur_ok he0
      have hb1 := sumQ_le (l := l.take i) fun p hp => k2 p (List.mem_of_mem_take hp)
      have hb2 := k2 p (List.mem_of_getElem? hgp)
      unfold okS at hb2
      have hlt : (l.take i).length ≤ 3 := by simp; omega
      obtain ⟨pq, pp⟩ := p
      simp only at hge hs hb2
      cbv
      skip
      refine h.get' i _ hiz hge ?_
      cbv
      (refine Good.add' ‹_› ?_ ?_; (· (simp only [inR, cmpP, loOk, hiOk, Int.ofNat_eq_natCast, Int.negSucc_eq, IntKind.bits, Int.toNat_natCast, ge_iff_le, gt_iff_lt, ne_eq, wl_len, hl_len, natCast_fold, not_true_eq_false, not_false_eq_true] at * <;> omega)); intro _ _; cbv; refine Good.add' ‹_› ?_ ?_; (· (simp only [inR, cmpP, loOk, hiOk, Int.ofNat_eq_natCast, Int.negSucc_eq, IntKind.bits, Int.toNat_natCast, ge_iff_le, gt_iff_lt, ne_eq, wl_len, hl_len, natCast_fold, not_true_eq_false, not_false_eq_true] at * <;> omega)); intro _ _; cbv)
      rename_i s1 hs1 i1 hi1
      refine hR _ (i1, s1, i + 1) ⟨by simp only; (simp only [inR, cmpP, loOk, hiOk, Int.ofNat_eq_natCast, Int.negSucc_eq, IntKind.bits, Int.toNat_natCast, ge_iff_le, gt_iff_lt, ne_eq, wl_len, hl_len, natCast_fold, not_true_eq_false, not_false_eq_true] at * <;> omega), by simp only; (simp only [inR, cmpP, loOk, hiOk, Int.ofNat_eq_natCast, Int.negSucc_eq, IntKind.bits, Int.toNat_natCast, ge_iff_le, gt_iff_lt, ne_eq, wl_len, hl_len, natCast_fold, not_true_eq_false, not_false_eq_true] at * <;> omega), by simp only; omega, .inr he0⟩ (by simp only; (simp only [inR, cmpP, loOk, hiOk, Int.ofNat_eq_natCast, Int.negSucc_eq, IntKind.bits, Int.toNat_natCast, ge_iff_le, gt_iff_lt, ne_eq, wl_len, hl_len, natCast_fold, not_true_eq_false, not_false_eq_true] at * <;> omega)) (by (refine Wk.of [] rfl ?_ ?_; (· (repeat (first | exact trivial | (refine And.intro ?_ ?_; (· first | exact trivial | exact Or.inl ⟨_, rfl, rfl⟩ | exact ⟨_, rfl, rfl⟩ | exact Or.inr ⟨rfl, rfl, by decide⟩))))); (· (repeat (first | exact trivial | (refine And.intro ?_ ?_; (· first | exact trivial | exact Or.inl rfl | rfl | exact Or.inr ⟨_, _, _, _, rfl, rfl, rfl, renNo rfl⟩ | exact ⟨ne_no rfl, Or.inl ⟨_, rfl, rfl⟩⟩ | exact ⟨ne_no rfl, Or.inr ⟨rfl, _, rfl⟩⟩ | exact ⟨_, rfl, rfl, ne_no rfl⟩)))))))
    · have hne : ¬ curE l = 0 := by rw [← he]; (simp only [inR, cmpP, loOk, hiOk, Int.ofNat_eq_natCast, Int.negSucc_eq, IntKind.bits, Int.toNat_natCast, ge_iff_le, gt_iff_lt, ne_eq, wl_len, hl_len, natCast_fold, not_true_eq_false, not_false_eq_true] at * <;> omega)
      have hi0 : i = 0 := by
        rcases hcr with h1 | h1
        · exact h1
        · exact absurd (by rw [← he]; exact h1) hne
      subst hi0
      have : sz = c := by rw [hv, hc]; unfold sumE; rw [if_neg hne]; rfl
      subst this
      cbv
      skip
      exact hQ
  · have hi2 : i = l.length := by (simp only [inR, cmpP, loOk, hiOk, Int.ofNat_eq_natCast, Int.negSucc_eq, IntKind.bits, Int.toNat_natCast, ge_iff_le, gt_iff_lt, ne_eq, wl_len, hl_len, natCast_fold, not_true_eq_false, not_false_eq_true] at * <;> omega)
    have : sz = c := by
      rw [hv, hc, hi2, List.take_length]
      unfold sumE
      rcases hcr with h1 | h1
      · have : l = [] := List.eq_nil_of_length_eq_zero (by omega)
        subst this
        split <;> rfl
      · rw [if_pos h1]
    subst this
    cbv
    skip
    exact hQ
end Go.Proofs.YtpmlocilhhjifaaGreat.Eng
end
