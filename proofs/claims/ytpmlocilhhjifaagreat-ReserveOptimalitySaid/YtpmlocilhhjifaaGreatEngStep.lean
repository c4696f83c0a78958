/- How the abstract state follows the world: one lemma for each way in which an operation turns memory. -/
import Derived.Test.YtpmlocilhhjifaaGreatEngSem
import Derived.Maps.AppendAt
namespace Go.Proofs.YtpmlocilhhjifaaGreat.Eng
open Go.RowKit

theorem upd_same {α : Type} (f : Nat → α) (k : Nat) (v : α) : upd f k v k = v := by simp [upd]
theorem upd_ne {α : Type} (f : Nat → α) {k j : Nat} (v : α) (h : j ≠ k) : upd f k v j = f j := by
  have : Nat.beq j k = false := by
    cases hb : Nat.beq j k with
    | false => rfl
    | true => exact absurd (Nat.eq_of_beq_eq_true hb) h
  simp [upd, this]

theorem BR.mono {C : Ctx} {w w' : World} {ok ok' : Nat → Nat → Prop} {be : BE} {v : Value} (h : BR C w ok be v) (hz : w.heap.size ≤ w'.heap.size)
    (hd : ∀ t b, ok t b → b < w.heap.size → w'.heap[b]? = w.heap[b]? ∧ ok' t b) (hk : be.live → ∀ k, blkOf v = some k → w'.heap[k]? = w.heap[k]?) : BR C w' ok' be v := by
  cases be with
  | no => trivial
  | dead => trivial
  | bx cs =>
    obtain ⟨b, arr, T, rfl, h1, h2, h3⟩ := h
    exact ⟨b, arr, T, rfl, h1, (hk trivial b rfl).trans h2, h3.mono hz hd⟩
  | ar e es xs =>
    obtain ⟨h0, h1, cs, ⟨h2, h3⟩, h4⟩ := h
    refine ⟨h0, h1, cs, ⟨h2, ?_⟩, h4.mono hz hd⟩
    rcases h3 with h3 | ⟨g, cap, cur, rfl, g1, g2, g3⟩
    · exact .inl h3
    · exact .inr ⟨g, cap, cur, rfl, g1, (hk trivial g rfl).trans g2, g3⟩
theorem AR.mono {w w' : World} {ok ok' : Nat → Nat → Prop} {b b' : Nat → BE} {ρ ρ' : Nat → Value} {x : AT} {v : Value} (h : AR w ok b ρ x v) (hz : w.heap.size ≤ w'.heap.size)
    (hd : ∀ t k, ok t k → k < w.heap.size → w'.heap[k]? = w.heap[k]? ∧ ok' t k) (hn : ∀ s, b s ≠ .no → b' s ≠ .no ∧ ρ' s = ρ s) : AR w' ok' b' ρ' x v := by
  cases x with
  | u => trivial
  | v d => exact RV.mono hz hd h
  | tp ds => obtain ⟨vs, e, h⟩ := h; exact ⟨vs, e, h.mono hz hd⟩
  | pd cs =>
    obtain ⟨a, rfl, hs, h1, h2⟩ := h
    refine ⟨a, rfl, hs, fun hc => ?_, fun j d hj => ?_⟩
    · obtain ⟨⟨t, g1⟩, g2⟩ := h1 hc
      exact ⟨⟨t, (hd _ _ g1 g2).2⟩, Nat.lt_of_lt_of_le g2 hz⟩
    · have hc : cs ≠ [] := by rintro rfl; simp at hj
      obtain ⟨⟨t, g1⟩, g2⟩ := h1 hc
      obtain ⟨c, h3, h4⟩ := h2 j d hj
      exact ⟨c, (World.cell?_of_block (w := w) (a := ⟨a.block, a.off + j, none⟩) (hd _ _ g1 g2).1).trans h3, h4.mono hz hd⟩
  | p s es i off => obtain ⟨h1, k, h2, h3⟩ := h; exact ⟨(hn s h1).1, k, by rw [(hn s h1).2]; exact h2, h3⟩
  | ow s => obtain ⟨h1, h2⟩ := h; exact ⟨(hn s h1).1, by rw [(hn s h1).2]; exact h2⟩

/-- What the step keeps of the data. -/
theorem ok_step {C : Ctx} {b b' : Nat → BE} {ρ ρ' : Nat → Value} {w w' : World} (hocc : ∀ k, Occ b' ρ' k → Occ b ρ k ∨ w.heap.size ≤ k)
    (hfr : ∀ k, k < w.heap.size → ¬ Occ b ρ k → w'.heap[k]? = w.heap[k]?) : ∀ t k, C.ok b ρ t k → k < w.heap.size → w'.heap[k]? = w.heap[k]? ∧ C.ok b' ρ' t k := by
  intro t k ⟨h1, h3⟩ hk
  refine ⟨hfr k hk h3, h1, fun hq => ?_⟩
  rcases hocc k hq with h | h
  · exact h3 h
  · omega

theorem Gam.step {C : Ctx} {S S' : AS} {ρ ρ' : Nat → Value} {a : Act} {w w' : World} (g : Gam C S ρ a w) (hb : Below C.n0 w w')
    (hocc : ∀ k, Occ S'.b ρ' k → Occ S.b ρ k ∨ w.heap.size ≤ k) (hfr : ∀ k, k < w.heap.size → ¬ Occ S.b ρ k → w'.heap[k]? = w.heap[k]?)
    (hn : ∀ s, S.b s ≠ .no → S'.b s ≠ .no ∧ ρ' s = ρ s) (hblk : ∀ s, BR C w' (C.ok S'.b ρ') (S'.b s) (ρ' s))
    (hap : ∀ s s' k, (S'.b s).live → (S'.b s').live → blkOf (ρ' s) = some k → blkOf (ρ' s') = some k → s = s') (ht : S'.t = S.t) : Gam C S' ρ' a w' where
  size := g.size
  defers := g.defers
  below := g.below.trans hb
  blocks := hblk
  apart := hap
  slots k := by rw [ht]; exact (g.slots k).mono hb.size (ok_step hocc hfr) hn

theorem getD_put {a : Act} {d : Nat} {v : Value} (k : Nat) (hd : d < a.tmps.size) : (a.put (some d) v).tmps.getD k undef = if k = d then v else a.tmps.getD k undef := by
  simp only [Act.put, Array.getD_eq_getD_getElem?, Array.getElem?_setIfInBounds]
  by_cases h : k = d
  · subst h; simp [hd]
  · simp [h, Ne.symm h]
theorem Gam.put {C : Ctx} {S : AS} {ρ : Nat → Value} {a : Act} {w : World} (g : Gam C S ρ a w) {dst : Option Nat} (hd : ∀ d, dst = some d → d < C.N) {r : AT} {v : Value}
    (hr : AR w (C.ok S.b ρ) S.b ρ r v) : Gam C { t := putT S.t dst r, b := S.b } ρ (a.put dst v) w := by
  cases dst with
  | none => exact g
  | some d =>
    have hd' : d < a.tmps.size := by rw [g.size]; exact hd d rfl
    refine ⟨by simp [Act.put, g.size], g.defers, g.below, g.blocks, g.apart, fun k => ?_⟩
    rw [getD_put k hd']
    by_cases h : k = d
    · subst h; rw [if_pos rfl]; simp only [putT, upd_same]; exact hr
    · rw [if_neg h]; simp only [putT, upd_ne _ _ h]; exact g.slots k

theorem Gam.size_le {C : Ctx} {S : AS} {ρ : Nat → Value} {a : Act} {w : World} (g : Gam C S ρ a w) : C.n0 ≤ w.heap.size := g.below.size
/-- Nothing but a draw. -/
theorem Gam.drew {C : Ctx} {S : AS} {ρ : Nat → Value} {a : Act} {w : World} (g : Gam C S ρ a w) : Gam C S ρ a w.drew :=
  g.step (Below.refl _ w).drew (fun _ h => .inl h) (fun _ _ _ => rfl) (fun _ h => ⟨h, rfl⟩) (fun s => (g.blocks s).mono (Nat.le_refl _) (fun _ _ h _ => ⟨rfl, h⟩) (fun _ _ _ => rfl)) g.apart rfl
/-- A world in which nothing of old has turned. -/
theorem Gam.later {C : Ctx} {S : AS} {ρ : Nat → Value} {a : Act} {w w' : World} (g : Gam C S ρ a w) (hb : Below w.heap.size w w') : Gam C S ρ a w' := by
  have hlt : ∀ s k, (S.b s).live → blkOf (ρ s) = some k → k < w.heap.size := fun s k hl hk => by
    have h := g.blocks s
    cases hs : S.b s with
    | no => rw [hs] at hl; exact hl.elim
    | dead => rw [hs] at hl; exact hl.elim
    | bx cs =>
      rw [hs] at h
      obtain ⟨b, arr, T, e, _, h2, _⟩ := h
      rw [e] at hk
      cases hk
      exact (Array.getElem?_eq_some_iff.1 h2).1
    | ar e es xs =>
      rw [hs] at h
      obtain ⟨_, _, cs, ⟨_, h3⟩, _⟩ := h
      rcases h3 with ⟨h3, _⟩ | ⟨b, cap, cur, e, _, h2, _⟩
      · rw [h3] at hk; cases hk
      · rw [e] at hk; cases hk; exact (Array.getElem?_eq_some_iff.1 h2).1
  refine g.step (hb.mono g.size_le) (fun _ h => .inl h) (fun k hk _ => hb.block k hk) (fun _ h => ⟨h, rfl⟩) (fun s => (g.blocks s).mono hb.size (fun t k h hk => ⟨hb.block k hk, h⟩) (fun hl k hk => hb.block k (hlt s k hl hk))) g.apart rfl
theorem Gam.lt {C : Ctx} {S : AS} {ρ : Nat → Value} {a : Act} {w : World} (g : Gam C S ρ a w) {s k : Nat} (hl : (S.b s).live) (hk : blkOf (ρ s) = some k) : k < w.heap.size ∧ C.n0 ≤ k := by
  have h := g.blocks s
  cases hs : S.b s with
  | no => rw [hs] at hl; exact hl.elim
  | dead => rw [hs] at hl; exact hl.elim
  | bx cs =>
    rw [hs] at h
    obtain ⟨b, arr, T, e, h1, h2, _⟩ := h
    rw [e] at hk
    cases hk
    exact ⟨(Array.getElem?_eq_some_iff.1 h2).1, h1⟩
  | ar e es xs =>
    rw [hs] at h
    obtain ⟨_, _, cs, ⟨_, h3⟩, _⟩ := h
    rcases h3 with ⟨h3, _⟩ | ⟨b, cap, cur, e, h1, h2, _⟩
    · rw [h3] at hk; cases hk
    · rw [e] at hk; cases hk; exact ⟨(Array.getElem?_eq_some_iff.1 h2).1, h1⟩

theorem Occ_upd {b : Nat → BE} {ρ : Nat → Value} {d : Nat} {be : BE} {v : Value} {k : Nat} (h : Occ (upd b d be) (upd ρ d v) k) : (be.live ∧ blkOf v = some k) ∨ ∃ s, s ≠ d ∧ (b s).live ∧ blkOf (ρ s) = some k := by
  obtain ⟨s, h1, h2⟩ := h
  by_cases hs : s = d
  · subst hs; rw [upd_same] at h1 h2; exact .inl ⟨h1, h2⟩
  · rw [upd_ne _ _ hs] at h1 h2; exact .inr ⟨s, hs, h1, h2⟩

/-- A name of its own for something new. -/
theorem Gam.new {C : Ctx} {S : AS} {ρ : Nat → Value} {a : Act} {w w' : World} (g : Gam C S ρ a w) {d : Nat} (hd : S.b d = .no) (hb : Below w.heap.size w w') {be : BE} {v : Value}
    (hv : ∀ k, blkOf v = some k → w.heap.size ≤ k) (hbr : BR C w' (C.ok (upd S.b d be) (upd ρ d v)) be v) : Gam C { t := S.t, b := upd S.b d be } (upd ρ d v) a w' := by
  have hocc : ∀ k, Occ (upd S.b d be) (upd ρ d v) k → Occ S.b ρ k ∨ w.heap.size ≤ k := fun k h => by
    rcases Occ_upd h with ⟨_, h⟩ | ⟨s, _, h1, h2⟩
    · exact .inr (hv k h)
    · exact .inl ⟨s, h1, h2⟩
  have hfr : ∀ k, k < w.heap.size → ¬ Occ S.b ρ k → w'.heap[k]? = w.heap[k]? := fun k hk _ => hb.block k hk
  refine g.step (S' := { t := S.t, b := upd S.b d be }) (hb.mono g.size_le) hocc hfr (fun s hs => ?_) (fun s => ?_) (fun s s' k h1 h2 h3 h4 => ?_) rfl
  · have : s ≠ d := by rintro rfl; exact hs hd
    exact ⟨by simp only [upd_ne _ _ this]; exact hs, upd_ne _ _ this⟩
  · by_cases hs : s = d
    · subst hs; simp only [upd_same]; exact hbr
    · simp only [upd_ne _ _ hs]
      exact (g.blocks s).mono hb.size (ok_step hocc hfr) (fun hl k hk => hb.block k (g.lt hl hk).1)
  · simp only at h1 h2
    by_cases hs : s = d <;> by_cases hs' : s' = d
    · rw [hs, hs']
    · subst hs
      rw [upd_same] at h3
      rw [upd_ne _ _ hs'] at h2 h4
      have := (g.lt h2 h4).1
      have := hv k h3
      omega
    · subst hs'
      rw [upd_same] at h4
      rw [upd_ne _ _ hs] at h1 h3
      have := (g.lt h1 h3).1
      have := hv k h4
      omega
    · rw [upd_ne _ _ hs] at h1 h3
      rw [upd_ne _ _ hs'] at h2 h4
      exact g.apart s s' k h1 h2 h3 h4

/-- One block of the call's own turned. -/
theorem Gam.write {C : Ctx} {S : AS} {ρ : Nat → Value} {a : Act} {w w' : World} (g : Gam C S ρ a w) {s : Nat} (hl : (S.b s).live) (hg : w.grownBy w' (blkOf (ρ s))) {be : BE} (hbe : be.live)
    (hbr : BR C w' (C.ok (upd S.b s be) ρ) be (ρ s)) : Gam C { t := S.t, b := upd S.b s be } ρ a w' := by
  have hocc : ∀ k, Occ (upd S.b s be) ρ k → Occ S.b ρ k := fun k ⟨r, h1, h2⟩ => by
    by_cases hr : r = s
    · subst hr; exact ⟨r, hl, h2⟩
    · rw [upd_ne _ _ hr] at h1; exact ⟨r, h1, h2⟩
  have hfr : ∀ k, k < w.heap.size → ¬ Occ S.b ρ k → w'.heap[k]? = w.heap[k]? := fun k hk ho => hg.block k hk (fun e => ho ⟨s, hl, e.symm⟩)
  have hbel : Below C.n0 w w' := ⟨hg.os, hg.tape, hg.output, hg.size, fun k hk => hg.block k (by have := g.size_le; omega) (fun e => by have := (g.lt hl e.symm).2; omega)⟩
  refine g.step (S' := { t := S.t, b := upd S.b s be }) hbel (fun k h => .inl (hocc k h)) hfr (fun r hr => ⟨?_, rfl⟩) (fun r => ?_) (fun r r' k h1 h2 h3 h4 => ?_) rfl
  · by_cases h : r = s
    · subst h; simp only [upd_same]; intro e; rw [e] at hbe; exact hbe
    · simp only [upd_ne _ _ h]; exact hr
  · by_cases hr : r = s
    · subst hr; simp only [upd_same]; exact hbr
    · simp only [upd_ne _ _ hr]
      refine (g.blocks r).mono hg.size (ok_step (fun k h => .inl (hocc k h)) hfr) (fun hl' k hk => hg.block k (g.lt hl' hk).1 (fun e => hr (g.apart r s k hl' hl hk e.symm)))
  · have lv : ∀ q, ((upd S.b s be) q).live → (S.b q).live := fun q h => by
      by_cases hq : q = s
      · subst hq; exact hl
      · rw [upd_ne _ _ hq] at h; exact h
    exact g.apart r r' k (lv r h1) (lv r' h2) h3 h4

/-- An array of the call's own becomes data. -/
theorem Gam.kill {C : Ctx} {S : AS} {ρ : Nat → Value} {a : Act} {w : World} (g : Gam C S ρ a w) {s : Nat} (hs : S.b s ≠ .no) : Gam C { t := S.t, b := upd S.b s .dead } ρ a w := by
  have hocc : ∀ k, Occ (upd S.b s .dead) ρ k → Occ S.b ρ k := fun k ⟨r, h1, h2⟩ => by
    by_cases hr : r = s
    · subst hr; rw [upd_same] at h1; exact h1.elim
    · rw [upd_ne _ _ hr] at h1; exact ⟨r, h1, h2⟩
  refine g.step (S' := { t := S.t, b := upd S.b s .dead }) (Below.refl _ _) (fun k h => .inl (hocc k h)) (fun _ _ _ => rfl) (fun r hr => ⟨?_, rfl⟩) (fun r => ?_) (fun r r' k h1 h2 h3 h4 => ?_) rfl
  · by_cases h : r = s
    · subst h; simp [upd_same]
    · simp only [upd_ne _ _ h]; exact hr
  · by_cases hr : r = s
    · subst hr; simp only [upd_same]; trivial
    · simp only [upd_ne _ _ hr]
      exact (g.blocks r).mono (Nat.le_refl _) (ok_step (fun k h => .inl (hocc k h)) (fun _ _ _ => rfl)) (fun _ _ _ => rfl)
  · simp only at h1 h2
    have lv : ∀ q, ((upd S.b s BE.dead) q).live → (S.b q).live := fun q h => by
      by_cases hq : q = s
      · subst hq; rw [upd_same] at h; exact h.elim
      · rw [upd_ne _ _ hq] at h; exact h
    exact g.apart r r' k (lv r h1) (lv r' h2) h3 h4
theorem flat_get {es : Nat} : ∀ (ys : List (List D)) (i j : Nat) (x : List D) (d : D), (∀ y ∈ ys, y.length = es) → ys[i]? = some x → x[j]? = some d → ys.flatten[i * es + j]? = some d := by
  intro ys
  induction ys with
  | nil => intro i j x d _ hi; simp at hi
  | cons y ys ih =>
    intro i j x d hy hi hj
    have hyl : y.length = es := hy y (by simp)
    cases i with
    | zero =>
      simp at hi; subst hi
      rw [List.flatten_cons, Nat.zero_mul, Nat.zero_add, List.getElem?_append_left (by have := (List.getElem?_eq_some_iff.1 hj).1; omega)]
      exact hj
    | succ i =>
      rw [List.flatten_cons, List.getElem?_append_right (by rw [hyl, Nat.succ_mul]; omega), hyl]
      have e1 : (i + 1) * es + j - es = i * es + j := by rw [Nat.succ_mul]; omega
      rw [e1]
      exact ih i j x d (fun z hz => hy z (by simp [hz])) (by simpa using hi) hj
/-- The array's rows, read as data. -/
theorem BR.data {C : Ctx} {w : World} {ok ok' : Nat → Nat → Prop} {e es : Nat} {xs : List (List D)} {v : Value} (h : BR C w ok (.ar e es xs) v) (hd : ∀ t b, ok t b → b < w.heap.size → ok' t b)
    (hk : ∀ k, blkOf v = some k → ok' 1 k ∧ k < w.heap.size) : RD w ok' (.sl 1 es xs) v := by
  obtain ⟨h0, h1, cs, ⟨h2, h3⟩, h4⟩ := h
  rcases h3 with ⟨rfl, h3⟩ | ⟨g, cap, cur, rfl, g1, g2, g3, g4, g5, g6⟩
  · have : xs = [] := List.eq_nil_of_length_eq_zero h3
    subst this
    exact .nil 1 es
  · have hx : ∀ (i : Nat) x, xs[i]? = some x → x.length = es := fun i x hi => h1 x (List.mem_of_getElem? hi)
    have hget : ∀ (i j : Nat) x d, xs[i]? = some x → x[j]? = some d → ∃ c, cs[i * es + j]? = some c ∧ RD w ok d c := fun i j x d hi hj => h4.get _ d (flat_get xs i j x d h1 hi hj)
    have hcell : ∀ (q : Nat) c, cs[q]? = some c → w.cell? ⟨g, q, none⟩ = some c := fun q c hq => by
      rw [← g6, List.getElem?_take] at hq
      split at hq
      · simp only [World.cell?, g2]
        simpa using hq
      · cases hq
    refine .sl 1 es xs ⟨g, 0, none⟩ cap (fun i j => (cs[i * es + j]?).getD (.bool false)) (by omega) (fun _ => ⟨rfl, (hk g rfl).1, (hk g rfl).2⟩) g3 g4 hx (fun i j x d hi hj => ?_) (fun i j x d hi hj => ?_)
    · obtain ⟨c, e1, _⟩ := hget i j x d hi hj
      simp only [Nat.zero_add, e1, Option.getD_some]
      exact hcell _ _ e1
    · obtain ⟨c, e1, e2⟩ := hget i j x d hi hj
      simp only [e1, Option.getD_some]
      exact e2.mono (Nat.le_refl _) (fun t b h hb => ⟨rfl, hd t b h hb⟩)
theorem ok_kill {C : Ctx} {b : Nat → BE} {ρ : Nat → Value} {s : Nat} {t k : Nat} (h : C.ok b ρ t k) : C.ok (upd b s .dead) ρ t k := by
  refine ⟨h.1, fun ⟨r, h1, h2⟩ => h.2 ?_⟩
  by_cases hr : r = s
  · subst hr; rw [upd_same] at h1; exact h1.elim
  · rw [upd_ne _ _ hr] at h1; exact ⟨r, h1, h2⟩
/-- An operand as data. -/
theorem gdv_ok {C : Ctx} {S : AS} {ρ : Nat → Value} {a : Act} {w : World} (g : Gam C S ρ a w) {x : AT} {v : Value} (hx : AR w (C.ok S.b ρ) S.b ρ x v) {K : DV → List (Nat × BE) → List Nat → Prop} (h : gdv S x K) :
    ∃ d k r, K d k r ∧ Gam C { t := S.t, b := setB S.b k } ρ a w ∧ RV w (C.ok (setB S.b k) ρ) d v ∧ (k = [] ∨ ∃ s e es xs, k = [(s, .dead)] ∧ S.b s = .ar e es xs ∧ x = .ow s) := by
  cases x with
  | v d => exact ⟨d, [], [], h, g, hx, .inl rfl⟩
  | ow s =>
    simp only [gdv] at h
    cases hs : S.b s with
    | ar e es xs =>
      rw [hs] at h
      obtain ⟨_, rfl⟩ := hx
      have hl : (S.b s).live := by rw [hs]; trivial
      refine ⟨_, _, _, h, g.kill (s := s) (by rw [hs]; simp), ?_, .inr ⟨s, e, es, xs, rfl, hs, rfl⟩⟩
      have hb := g.blocks s
      rw [hs] at hb
      refine hb.data (fun t b hb _ => ok_kill hb) (fun k hk => ⟨⟨.inr (g.lt hl hk).2, fun ⟨r, h1, h2⟩ => ?_⟩, (g.lt hl hk).1⟩)
      by_cases hr : r = s
      · subst hr; simp only [setB, upd_same] at h1; exact h1
      · simp only [setB, upd_ne _ _ hr] at h1
        exact hr (g.apart r s k h1 hl h2 hk)
    | _ => rw [hs] at h; exact h.elim
  | _ => exact h.elim
end Go.Proofs.YtpmlocilhhjifaaGreat.Eng
