/- What the abstract machine's data mean in the model's memory, and that this is kept. -/
import Derived.Test.YtpmlocilhhjifaaGreatEngDef
set_option linter.unusedVariables false
set_option linter.unusedSimpArgs false
namespace Go.Proofs.YtpmlocilhhjifaaGreat.Eng
open Go.RowKit

/-- A cell reads as a datum; a slice's memory is where 'ok' lets it be. -/
inductive RD (w : World) (ok : Nat → Nat → Prop) : D → Value → Prop
  | sc (v : Value) (h : v.oneCell' = true) : RD w ok (.sc v) v
  | nil (t sz : Nat) : RD w ok (.sl t sz []) (.slice none 0 0)
  | sl (t sz : Nat) (xs : List (List D)) (a : Addr) (cap : Nat) (cs : Nat → Nat → Value) (ht : t ≠ 3)
      (h1 : xs ≠ [] → a.spot = none ∧ ok t a.block ∧ a.block < w.heap.size) (h2 : xs.length ≤ cap) (h3 : cap ≤ maxLen) (h4 : ∀ (i : Nat) x, xs[i]? = some x → x.length = sz)
      (h5 : ∀ (i j : Nat) x d, xs[i]? = some x → x[j]? = some d → w.cell? ⟨a.block, a.off + i * sz + j, none⟩ = some (cs i j))
      (h6 : ∀ (i j : Nat) x d, xs[i]? = some x → x[j]? = some d → RD w ok d (cs i j)) : RD w ok (.sl t sz xs) (.slice (some a) xs.length cap)

theorem RD.mono {w w' : World} {ok ok' : Nat → Nat → Prop} (hz : w.heap.size ≤ w'.heap.size)
    (h : ∀ t b, ok t b → b < w.heap.size → w'.heap[b]? = w.heap[b]? ∧ ok' t b) : ∀ {d : D} {v : Value}, RD w ok d v → RD w' ok' d v := by
  intro d v hd
  induction hd with
  | sc v h => exact .sc v h
  | nil t sz => exact .nil t sz
  | sl t sz xs a cap cs ht h1 h2 h3 h4 h5 h6 ih =>
    refine .sl t sz xs a cap cs ht (fun hx => ?_) h2 h3 h4 (fun i j x d hi hj => ?_) (fun i j x d hi hj => ih i j x d hi hj)
    · obtain ⟨g1, g2, g3⟩ := h1 hx
      exact ⟨g1, (h _ _ g2 g3).2, Nat.lt_of_lt_of_le g3 hz⟩
    · have hx : xs ≠ [] := by rintro rfl; simp at hi
      obtain ⟨g1, g2, g3⟩ := h1 hx
      rw [← h5 i j x d hi hj]
      exact World.cell?_of_block (w := w) (h _ _ g2 g3).1

theorem RD.one {w : World} {ok : Nat → Nat → Prop} {d : D} {v : Value} (h : RD w ok d v) : v.oneCell' = true := by
  cases h <;> first | assumption | rfl

theorem RD.sc_inv {w : World} {ok : Nat → Nat → Prop} {v u : Value} (h : RD w ok (.sc v) u) : u = v := by cases h; rfl
/-- Cells, one by one. -/
def RDs (w : World) (ok : Nat → Nat → Prop) : List D → List Value → Prop
  | [], [] => True
  | d :: ds, v :: vs => RD w ok d v ∧ RDs w ok ds vs
  | _, _ => False
theorem RDs.length {w : World} {ok : Nat → Nat → Prop} : ∀ {ds : List D} {vs : List Value}, RDs w ok ds vs → vs.length = ds.length
  | [], [], _ => rfl
  | _ :: _, _ :: _, h => by simp [RDs.length h.2]
theorem RDs.get {w : World} {ok : Nat → Nat → Prop} : ∀ {ds : List D} {vs : List Value}, RDs w ok ds vs → ∀ (i : Nat) d, ds[i]? = some d → ∃ v, vs[i]? = some v ∧ RD w ok d v
  | [], [], _, i, d, h => by simp at h
  | d :: ds, v :: vs, h, 0, e, he => by simp at he; subst he; exact ⟨v, rfl, h.1⟩
  | d :: ds, v :: vs, h, i + 1, e, he => by simp at he; simpa using RDs.get h.2 i e he
theorem RDs.of {w : World} {ok : Nat → Nat → Prop} : ∀ {ds : List D} {vs : List Value}, vs.length = ds.length → (∀ (i : Nat) d v, ds[i]? = some d → vs[i]? = some v → RD w ok d v) → RDs w ok ds vs
  | [], [], _, _ => trivial
  | [], _ :: _, h, _ => by simp at h
  | _ :: _, [], h, _ => by simp at h
  | d :: ds, v :: vs, h, g => ⟨g 0 d v rfl rfl, RDs.of (by simpa using h) fun i e u he hu => g (i + 1) e u (by simpa using he) (by simpa using hu)⟩
theorem RDs.mono {w w' : World} {ok ok' : Nat → Nat → Prop} (hz : w.heap.size ≤ w'.heap.size)
    (h : ∀ t b, ok t b → b < w.heap.size → w'.heap[b]? = w.heap[b]? ∧ ok' t b) : ∀ {ds : List D} {vs : List Value}, RDs w ok ds vs → RDs w' ok' ds vs
  | [], [], _ => trivial
  | _ :: _, _ :: _, hd => ⟨hd.1.mono hz h, RDs.mono hz h hd.2⟩
theorem RDs.app {w : World} {ok : Nat → Nat → Prop} : ∀ {ds ds' : List D} {vs vs' : List Value}, RDs w ok ds vs → RDs w ok ds' vs' → RDs w ok (ds ++ ds') (vs ++ vs')
  | [], _, [], _, _, h' => h'
  | _ :: _, _, _ :: _, _, h, h' => ⟨h.1, RDs.app h.2 h'⟩
theorem RDs.take {w : World} {ok : Nat → Nat → Prop} : ∀ (n : Nat) {ds : List D} {vs : List Value}, RDs w ok ds vs → RDs w ok (ds.take n) (vs.take n)
  | 0, _, _, _ => by simp [RDs]
  | _ + 1, [], [], _ => trivial
  | n + 1, _ :: _, _ :: _, h => ⟨h.1, RDs.take n h.2⟩
theorem RDs.drop {w : World} {ok : Nat → Nat → Prop} : ∀ (n : Nat) {ds : List D} {vs : List Value}, RDs w ok ds vs → RDs w ok (ds.drop n) (vs.drop n)
  | 0, _, _, h => by simpa using h
  | _ + 1, [], [], _ => trivial
  | n + 1, _ :: _, _ :: _, h => RDs.drop n h.2
theorem RDs.one {w : World} {ok : Nat → Nat → Prop} : ∀ {ds : List D} {vs : List Value}, RDs w ok ds vs → ∀ u ∈ vs, u.oneCell' = true
  | [], [], _, _, h => by cases h
  | _ :: _, _ :: _, h, u, hu => by
    rcases List.mem_cons.1 hu with rfl | hu
    · exact h.1.one
    · exact RDs.one h.2 u hu
/-- A value. -/
def RV (w : World) (ok : Nat → Nat → Prop) : DV → Value → Prop
  | .one d, v => RD w ok d v
  | .ag cs, v => ∃ vs : Array Value, v = .agg vs ∧ RDs w ok cs vs.toList
theorem RV.mono {w w' : World} {ok ok' : Nat → Nat → Prop} (hz : w.heap.size ≤ w'.heap.size)
    (h : ∀ t b, ok t b → b < w.heap.size → w'.heap[b]? = w.heap[b]? ∧ ok' t b) : ∀ {d : DV} {v : Value}, RV w ok d v → RV w' ok' d v
  | .one _, _, hd => RD.mono hz h hd
  | .ag _, _, ⟨vs, e, hd⟩ => ⟨vs, e, RDs.mono hz h hd⟩
theorem cells_one {v : Value} (h : v.oneCell' = true) : v.cells = #[v] := by cases v <;> first | rfl | simp [Value.oneCell'] at h
theorem RV.cells {w : World} {ok : Nat → Nat → Prop} : ∀ {d : DV} {v : Value}, RV w ok d v → RDs w ok d.cells v.cells.toList
  | .one d, v, h => by rw [cells_one (RD.one h)]; exact ⟨h, trivial⟩
  | .ag cs, v, ⟨vs, e, h⟩ => by subst e; exact h
def RVs (w : World) (ok : Nat → Nat → Prop) : List DV → List Value → Prop
  | [], [] => True
  | d :: ds, v :: vs => RV w ok d v ∧ RVs w ok ds vs
  | _, _ => False
theorem RVs.mono {w w' : World} {ok ok' : Nat → Nat → Prop} (hz : w.heap.size ≤ w'.heap.size)
    (h : ∀ t b, ok t b → b < w.heap.size → w'.heap[b]? = w.heap[b]? ∧ ok' t b) : ∀ {ds : List DV} {vs : List Value}, RVs w ok ds vs → RVs w' ok' ds vs
  | [], [], _ => trivial
  | _ :: _, _ :: _, hd => ⟨hd.1.mono hz h, RVs.mono hz h hd.2⟩
theorem RVs.length {w : World} {ok : Nat → Nat → Prop} : ∀ {ds : List DV} {vs : List Value}, RVs w ok ds vs → vs.length = ds.length
  | [], [], _ => rfl
  | _ :: _, _ :: _, h => by simp [RVs.length h.2]

/-- The memory class of an empty slice may be named anew. -/
def SubD (d d' : D) : Prop := d = d' ∨ ∃ t t' sz, d = .sl t sz [] ∧ d' = .sl t' sz [] ∧ t' ≠ 3
def SubDs : List D → List D → Prop
  | [], [] => True
  | d :: ds, d' :: ds' => SubD d d' ∧ SubDs ds ds'
  | _, _ => False
def SubV : DV → DV → Prop
  | .one d, .one d' => SubD d d'
  | .ag ds, .ag ds' => SubDs ds ds'
  | _, _ => False
def SubVs : List DV → List DV → Prop
  | [], [] => True
  | d :: ds, d' :: ds' => SubV d d' ∧ SubVs ds ds'
  | _, _ => False
theorem SubD.rd {w : World} {ok : Nat → Nat → Prop} {d d' : D} {v : Value} (h : SubD d d') (hv : RD w ok d v) : RD w ok d' v := by
  rcases h with rfl | ⟨t, t', sz, rfl, rfl, h3⟩
  · exact hv
  · cases hv with
    | nil => exact .nil _ _
    | sl _ _ _ a cap cs ht h1 h2 h3' h4 h5 h6 =>
      exact .sl t' sz [] a cap cs h3 (fun h => absurd rfl h) h2 h3' (fun i x h => by simp at h) (fun i j x d h => by simp at h) (fun i j x d h => by simp at h)
theorem SubDs.rd {w : World} {ok : Nat → Nat → Prop} : ∀ {d d' : List D} {v : List Value}, SubDs d d' → RDs w ok d v → RDs w ok d' v
  | [], [], _, _, h => h
  | [], _ :: _, _, h, _ => h.elim
  | _ :: _, [], _, h, _ => h.elim
  | _ :: _, _ :: _, [], _, h => h.elim
  | _ :: _, _ :: _, _ :: _, h, h' => ⟨h.1.rd h'.1, SubDs.rd h.2 h'.2⟩
theorem SubV.rv {w : World} {ok : Nat → Nat → Prop} : ∀ {d d' : DV} {v : Value}, SubV d d' → RV w ok d v → RV w ok d' v
  | .one _, .one _, _, h, h' => SubD.rd h h'
  | .ag _, .ag _, _, h, ⟨vs, e, h'⟩ => ⟨vs, e, SubDs.rd h h'⟩
  | .one _, .ag _, _, h, _ => h.elim
  | .ag _, .one _, _, h, _ => h.elim
theorem SubVs.rv {w : World} {ok : Nat → Nat → Prop} : ∀ {d d' : List DV} {v : List Value}, SubVs d d' → RVs w ok d v → RVs w ok d' v
  | [], [], _, _, h => h
  | [], _ :: _, _, h, _ => h.elim
  | _ :: _, [], _, h, _ => h.elim
  | _ :: _, _ :: _, [], _, h => h.elim
  | _ :: _, _ :: _, _ :: _, h, h' => ⟨h.1.rv h'.1, SubVs.rv h.2 h'.2⟩
theorem SubD.refl (d : D) : SubD d d := .inl rfl
theorem SubDs.refl : ∀ d : List D, SubDs d d
  | [] => trivial
  | d :: ds => ⟨.inl rfl, SubDs.refl ds⟩
theorem SubV.refl : ∀ d : DV, SubV d d
  | .one d => .inl rfl
  | .ag ds => SubDs.refl ds
theorem SubVs.refl : ∀ d : List DV, SubVs d d
  | [] => trivial
  | d :: ds => ⟨SubV.refl d, SubVs.refl ds⟩
theorem SubD.one {t sz : Nat} {xs : List (List D)} (h : xs = [] ∨ t = 1) : SubD (.sl t sz xs) (.sl 1 sz xs) := by
  rcases h with rfl | rfl
  · exact .inr ⟨_, _, _, rfl, rfl, by decide⟩
  · exact .inl rfl
def blkOf : Value → Option Nat
  | .pointer (some a) => some a.block
  | .slice (some a) _ _ => some a.block
  | _ => none
def BE.live : BE → Prop
  | .bx _ => True
  | .ar _ _ _ => True
  | _ => False
/-- The blocks that the call itself may still write. -/
def Occ (b : Nat → BE) (ρ : Nat → Value) (k : Nat) : Prop := ∃ s, (b s).live ∧ blkOf (ρ s) = some k
structure Ctx where
  w0 : World
  okx : Nat → Nat → Prop
  N : Nat
def Ctx.n0 (C : Ctx) : Nat := C.w0.heap.size
def Ctx.ok (C : Ctx) (b : Nat → BE) (ρ : Nat → Value) (t k : Nat) : Prop := (C.okx t k ∨ C.n0 ≤ k) ∧ ¬ Occ b ρ k
def BR (C : Ctx) (w : World) (ok : Nat → Nat → Prop) : BE → Value → Prop
  | .bx cs, v => ∃ b arr T, v = .pointer (some ⟨b, 0, none⟩) ∧ C.n0 ≤ b ∧ w.heap[b]? = some (.cells arr T (0, 0)) ∧ RDs w ok cs arr.toList
  | .ar e es xs, v => 0 < es ∧ (∀ x ∈ xs, x.length = es) ∧ ∃ cs, w.ownsRow C.n0 e es v xs.length cs ∧ RDs w ok xs.flatten cs
  | _, _ => True
def AR (w : World) (ok : Nat → Nat → Prop) (b : Nat → BE) (ρ : Nat → Value) : AT → Value → Prop
  | .u, _ => True
  | .v d, v => RV w ok d v
  | .tp ds, v => ∃ vs : List Value, v = .tuple vs.toArray ∧ RVs w ok ds vs
  | .pd cs, v => ∃ a : Addr, v = .pointer (some a) ∧ a.spot = none ∧ (cs ≠ [] → (∃ t, ok t a.block) ∧ a.block < w.heap.size) ∧
      ∀ (j : Nat) d, cs[j]? = some d → ∃ c, w.cell? ⟨a.block, a.off + j, none⟩ = some c ∧ RD w ok d c
  | .p s es i off, v => b s ≠ .no ∧ ∃ k, blkOf (ρ s) = some k ∧ v = .pointer (some ⟨k, i * es + off, none⟩)
  | .ow s, v => b s ≠ .no ∧ v = ρ s
/-- The abstract state tells of the act and the world. -/
structure Gam (C : Ctx) (S : AS) (ρ : Nat → Value) (a : Act) (w : World) : Prop where
  size : a.tmps.size = C.N
  defers : a.defers = []
  below : Below C.n0 C.w0 w
  blocks : ∀ s, BR C w (C.ok S.b ρ) (S.b s) (ρ s)
  apart : ∀ s s' k, (S.b s).live → (S.b s').live → blkOf (ρ s) = some k → blkOf (ρ s') = some k → s = s'
  slots : ∀ k, AR w (C.ok S.b ρ) S.b ρ (S.t k) (a.tmps.getD k undef)
end Go.Proofs.YtpmlocilhhjifaaGreat.Eng
