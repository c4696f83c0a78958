/- Operations that make memory, and addresses. -/
import Derived.Test.YtpmlocilhhjifaaEngMem2
set_option linter.unusedSimpArgs false
set_option linter.unusedVariables false
namespace Go.Proofs.Ytpmlocilhhjifaa.Eng
open Go.RowKit
section
variable {P : Program} {ty : Nat → TI} {T : Nat → List DV → List DV → Prop} {C : Ctx} {S : AS} {ρ : Nat → Value} {a : Act} {w : World}

theorem anew_ok {dst : Option Nat} {f : Nat → Prop} (h : anew S dst f) : ∃ d, dst = some d ∧ S.b d = .no ∧ f d := by
  unfold anew at h
  split at h
  · rename_i s
    split at h
    · exact ⟨s, rfl, by assumption, h⟩
    · exact h.elim
  · exact h.elim
theorem setB_no {f : Nat → BE} {k : List (Nat × BE)} {d : Nat} (hd : f d = .no) (hk : k = [] ∨ ∃ s e es xs, k = [(s, .dead)] ∧ f s = .ar e es xs) : setB f k d = .no := by
  rcases hk with rfl | ⟨s, e, es, xs, rfl, hs⟩
  · exact hd
  · have : d ≠ s := by rintro rfl; rw [hd] at hs; cases hs
    simp only [setB, upd_ne _ _ this]
    exact hd
/-- A new variable. -/
theorem box_done (g : Gam C S ρ a w) {o : Oper} {d : Nat} (hd : S.b d = .no) {cs : List D} {v : Value} (hv : RDs w (C.ok S.b ρ) cs v.cells.toList) {TT : TypeId}
    (hrun : (execOp a.eval o).run P w = .ok (.value (.pointer (some ⟨w.heap.size, 0, none⟩))) (w.alloc (.cells v.cells TT (0, 0)))) (rd : List Nat) : Done P C S a w o ⟨.p d 0 0 0, [(d, .bx cs)], rd⟩ := by
  have hb : Below w.heap.size w (w.alloc (.cells v.cells TT (0, 0))) := (Below.refl _ w).alloc (Nat.le_refl _) _
  have hbk : ∀ k, blkOf (.pointer (some (⟨w.heap.size, 0, none⟩ : Addr))) = some k → w.heap.size ≤ k := fun k hk => by cases hk; exact Nat.le_refl _
  refine ⟨_, _, _, upd ρ d (.pointer (some ⟨w.heap.size, 0, none⟩)), hrun, .inl rfl, g.new hd hb hbk ?_, ?_⟩
  · exact ⟨w.heap.size, v.cells, TT, rfl, g.size_le, heap_alloc_new w _, hv.mono hb.size (new_ok hb hbk)⟩
  · refine ⟨by simp [setB, upd_same], w.heap.size, by rw [upd_same]; rfl, by simp⟩
/-- A new array. -/
theorem arr_done (g : Gam C S ρ a w) {o : Oper} {d : Nat} (hd : S.b d = .no) {e es : Nat} {xs : List (List D)} (hes : 0 < es) (hx : ∀ x ∈ xs, x.length = es) {v : Value} {w' : World} (hb : Below w.heap.size w w')
    (hbk : ∀ k, blkOf v = some k → w.heap.size ≤ k) {cs : List Value} (hown : w'.ownsRow C.n0 e es v xs.length cs) (hcs : RDs w' (C.ok (upd S.b d (.ar e es xs)) (upd ρ d v)) xs.flatten cs)
    (hrun : (execOp a.eval o).run P w = .ok (.value v) w') (rd : List Nat) : Done P C S a w o ⟨.ow d, [(d, .ar e es xs)], rd⟩ := by
  refine ⟨_, v, w', upd ρ d v, hrun, .inl rfl, g.new hd hb hbk ⟨hes, hx, cs, hown, hcs⟩, by simp [setB, upd_same], by rw [upd_same]⟩

theorem alloc_ok (hW : World1 P ty T) (g : Gam C S ρ a w) {o : Oper} {t : Nat} (hop : o.op = .alloc t) {K : Eff → Prop}
    (h : bif Nat.ble 1 (ty t).size then anew S o.dst fun d => K ⟨.p d 0 0 0, [(d, .bx (ty t).zero)], []⟩ else False) : ∃ E, K E ∧ Done P C S a w o E := by
  cases hsz : Nat.ble 1 (ty t).size with
  | false => rw [hsz] at h; exact h.elim
  | true =>
    rw [hsz] at h
    simp only [cond_true] at h
    have ht := hW.types t (Nat.le_of_ble_eq_true hsz)
    obtain ⟨d, hd, hno, h⟩ := anew_ok h
    obtain ⟨i, z, hi, _, _, hz, hzero⟩ := ht.info
    refine ⟨_, h, box_done g hno (v := z) (TT := t) ?_ ?_ []⟩
    · have := (hzero w (C.ok S.b ρ)).cells
      cases hag : (ty t).agg with
      | true => rw [hag] at this; exact this
      | false =>
        rw [hag] at this
        have hl := ht.zero.1
        rw [ht.zero.2 hag] at hl
        cases hq : (ty t).zero with
        | nil => rw [hq] at hl; cases hl
        | cons x r =>
          rw [hq] at hl this
          have : r = [] := List.eq_nil_of_length_eq_zero (by simpa using hl)
          subst this
          assumption
    · unfold execOp
      rw [hop]
      simp [Instr.alloc, zeroValue, typeInfo, hi, hz, newVar, newRow]
theorem box_ok (g : Gam C S ρ a w) {o : Oper} {t : Nat} {x : Operand} (hop : o.op = .box t x) {K : Eff → Prop}
    (h : gdv S (ev ty S t x) fun v k r => anew S o.dst fun d => K ⟨.p d 0 0 0, k ++ [(d, .bx v.cells)], r⟩) : ∃ E, K E ∧ Done P C S a w o E := by
  obtain ⟨d, k, r, h, g1, hd, hkf⟩ := gdv_ok g (ev_ok (ty := ty) g t x) h
  obtain ⟨dd, _, hno, h⟩ := anew_ok h
  have hno1 : setB S.b k dd = .no := setB_no hno (hkf.imp id fun ⟨s, e, es, xs, h1, h2, _⟩ => ⟨s, e, es, xs, h1, h2⟩)
  refine ⟨_, h, ?_⟩
  have hrun : (execOp a.eval o).run P w = .ok (.value (.pointer (some ⟨w.heap.size, 0, none⟩))) (w.alloc (.cells (a.eval x).cells t (0, 0))) := by
    unfold execOp
    rw [hop]
    simp [Instr.box, newVar, newRow]
  have := box_done (S := { t := S.t, b := setB S.b k }) g1 (o := o) hno1 hd.cells hrun r
  obtain ⟨n, v, w', ρ', h1, h2, h3, h4⟩ := this
  exact ⟨n, v, w', ρ', h1, h2, by rw [setB_append]; exact h3, by rw [setB_append]; exact h4⟩

/-- Operands, one by one. -/
theorem gdvs_ok : ∀ (l : List (Nat × Operand)) {S : AS} {K : List DV → List (Nat × BE) → List Nat → Prop}, Gam C S ρ a w → gdvs ty S l K →
    ∃ ds k r, K ds k r ∧ Gam C { t := S.t, b := setB S.b k } ρ a w ∧ RVs w (C.ok (setB S.b k) ρ) ds (l.map fun q => a.eval q.2) ∧ (∀ d, S.b d = .no → setB S.b k d = .no) ∧
      (∀ t k', C.ok S.b ρ t k' → C.ok (setB S.b k) ρ t k')
  | [], S, K, g, h => ⟨[], [], [], h, g, trivial, fun _ h => h, fun _ _ h => h⟩
  | (t, x) :: l, S, K, g, h => by
    simp only [gdvs] at h
    obtain ⟨d, k, r, h, g1, hd, hkf⟩ := gdv_ok g (ev_ok (ty := ty) g t x) h
    obtain ⟨ds, k2, r2, h, g2, hds, hno2, hok2⟩ := gdvs_ok l g1 h
    have hno1 : ∀ d, S.b d = .no → setB S.b k d = .no := fun d hd => setB_no hd (hkf.imp id fun ⟨s, e, es, xs, h1, h2, _⟩ => ⟨s, e, es, xs, h1, h2⟩)
    have hok1 : ∀ t k', C.ok S.b ρ t k' → C.ok (setB S.b k) ρ t k' := fun t k' hok => by
      rcases hkf with rfl | ⟨s, _, _, _, rfl, _, _⟩
      · exact hok
      · exact ok_kill hok
    refine ⟨d :: ds, k ++ k2, r ++ r2, h, by rw [setB_append]; exact g2, ?_, fun q hq => by rw [setB_append]; exact hno2 q (hno1 q hq), fun t k' h => by rw [setB_append]; exact hok2 t k' (hok1 t k' h)⟩
    rw [setB_append]
    exact ⟨hd.mono (Nat.le_refl _) (fun t b h _ => ⟨rfl, hok2 t b h⟩), hds⟩

theorem run_underlying_slc (hW : World1 P ty T) {t e : Nat} (h : elem? ty t = some e) : P.underlying t = some (.slice e) ∧ 0 < (ty e).size ∧ TyOk P ty e := by
  unfold elem? at h
  split at h
  · rename_i e' he
    cases h
    have := (hW.types t (hW.known t (by rw [he]; simp))).kd
    rw [he] at this
    exact ⟨this.1, this.2, hW.types e this.2⟩
  · cases h
/-- A slice that is read: its elements, wherever they lie. -/
theorem sum_ok (g : Gam C S ρ a w) {x : AT} {v : Value} (hx : AR w (C.ok S.b ρ) S.b ρ x v) {K : List (List D) → List Nat → Prop} (h : sumB x S K) :
    ∃ xs r, K xs r ∧ xs.length ≤ maxLen ∧ ∃ A cap, v = .slice A xs.length cap ∧ (A = none → xs = [] ∧ cap = 0) ∧
      ∀ ad, A = some ad → (xs ≠ [] → ad.spot = none) ∧ ∃ sz, (∀ (i : Nat) z, xs[i]? = some z → z.length = sz) ∧
        ∀ (i j : Nat) z d, xs[i]? = some z → z[j]? = some d → ∃ c, w.cell? ⟨ad.block, ad.off + i * sz + j, none⟩ = some c ∧ RD w (C.ok S.b ρ) d c := by
  unfold sumB at h
  split at h
  · rename_i t sz xs
    have hx' : RD w (C.ok S.b ρ) (.sl t sz xs) v := hx
    cases hx' with
    | nil => exact ⟨_, _, h, by simp, none, 0, rfl, fun _ => ⟨rfl, rfl⟩, (fun ad h => by cases h)⟩
    | sl t sz xs ad cap cs ht h1 h2 h3 h4 h5 h6 =>
      exact ⟨xs, _, h, Nat.le_trans h2 h3, some ad, cap, rfl, (fun h => by cases h), fun ad' e => by cases e; exact ⟨fun hx => (h1 hx).1, sz, h4, fun i j z d hi hj => ⟨cs i j, h5 i j z d hi hj, h6 i j z d hi hj⟩⟩⟩
  · rename_i s
    split at h
    · rename_i e es xs hs
      obtain ⟨_, rfl⟩ := hx
      have hb := g.blocks s
      rw [hs] at hb
      obtain ⟨h0, h1, cs, ⟨h2, h3⟩, h4⟩ := hb
      rcases h3 with ⟨h3, h5⟩ | ⟨gg, cap, cur, e2, g1, g2, g3, g4, g5, g6⟩
      · have : xs = [] := List.eq_nil_of_length_eq_zero h5
        subst this
        exact ⟨_, _, h, by simp, none, 0, h3, fun _ => ⟨rfl, rfl⟩, (fun ad h => by cases h)⟩
      · refine ⟨xs, _, h, Nat.le_trans g3 g4, some ⟨gg, 0, none⟩, cap, e2, (fun h => by cases h), fun ad e => ?_⟩
        cases e
        refine ⟨fun _ => rfl, es, fun i z hz => h1 z (List.mem_of_getElem? hz), fun i j z d hi hj => ?_⟩
        obtain ⟨c, h5, h6⟩ := h4.get _ d (flat_get xs i j z d h1 hi hj)
        refine ⟨c, ?_, h6⟩
        rw [cell_of_row w gg _ cur e (0, 0) g2]
        rw [← g6, List.getElem?_take] at h5
        split at h5
        · simpa using h5
        · cases h5
    · exact h.elim
  · exact h.elim
end
end Go.Proofs.Ytpmlocilhhjifaa.Eng
