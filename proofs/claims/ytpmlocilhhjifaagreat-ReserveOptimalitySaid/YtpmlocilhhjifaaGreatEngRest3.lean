/- Operations on memory. -/
import Derived.Test.YtpmlocilhhjifaaGreatEngOp
import Derived.Laws.OwnMore
section
set_option linter.unusedSimpArgs false
set_option linter.unusedVariables false
namespace Go.Proofs.YtpmlocilhhjifaaGreat.Eng
open Go.RowKit
section
variable {P : Program} {ty : Nat → TI} {T : Nat → List DV → List DV → Prop} {C : Ctx} {S : AS} {ρ : Nat → Value} {a : Act} {w : World}

theorem addr_add {ad : Addr} (hs : ad.spot = none) (n : Nat) : ad.add n = ⟨ad.block, ad.off + n, none⟩ := by
  unfold Addr.add
  split
  · rename_i h; subst h; cases ad; simp_all
  · rfl
theorem run_isAgg {t : Nat} (ht : TyOk P ty t) (w : World) : (isAgg t).run P w = .ok (ty t).agg w := by
  have h := ht.agg
  cases hu : P.underlying t with
  | none => rw [hu] at h; simp at h
  | some d =>
    rw [hu] at h
    simp only [Option.map_some, Option.some.injEq] at h
    rw [← h]
    unfold isAgg
    rw [Sem.run_bind, run_underlying hu w]
    cases d <;> rfl
theorem run_size {t : Nat} (ht : TyOk P ty t) (w : World) : (sizeOf t).run P w = .ok (ty t).size w := by
  obtain ⟨i, z, hi, hs, _⟩ := ht.info
  simp [sizeOf, typeInfo, hi, hs]
theorem run_loadVar_ok {ok : Nat → Nat → Prop} {t : Nat} (ht : TyOk P ty t) {ad : Addr} (hs : ad.spot = none) {cs : List D} (hl : cs.length = (ty t).size)
    (hc : ∀ (j : Nat) d, cs[j]? = some d → ∃ c, w.cell? ⟨ad.block, ad.off + j, none⟩ = some c ∧ RD w ok d c) {d : DV} (hd : mkV (ty t).agg cs = some d) : ∃ v, (loadVar t ad).run P w = .ok v w ∧ RV w ok d v := by
  cases hag : (ty t).agg with
  | true =>
    rw [hag] at hd
    simp only [mkV, Option.some.injEq] at hd
    subst hd
    have hv : ∃ vs : List Value, vs.length = cs.length ∧ ∀ (j : Nat) d, cs[j]? = some d → ∃ c, vs[j]? = some c ∧ w.cell? ⟨ad.block, ad.off + j, none⟩ = some c ∧ RD w ok d c := by
      refine ⟨(List.range cs.length).map fun j => (w.cell? ⟨ad.block, ad.off + j, none⟩).getD undef, by simp, fun j d hj => ?_⟩
      obtain ⟨c, h1, h2⟩ := hc j d hj
      have hlt : j < cs.length := (List.getElem?_eq_some_iff.1 hj).1
      exact ⟨c, by simp [hlt, h1], h1, h2⟩
    obtain ⟨vs, hvl, hv⟩ := hv
    have hrun := run_loadCells_list (P := P) w ad vs (fun j v hj => by
      have hlt : j < cs.length := by rw [← hvl]; exact (List.getElem?_eq_some_iff.1 hj).1
      obtain ⟨c, h1, h2, _⟩ := hv j cs[j] (List.getElem?_eq_getElem hlt)
      rw [hj] at h1
      cases h1
      rw [addr_add hs]; exact h2)
    rw [hvl, hl] at hrun
    refine ⟨.agg vs.toArray, ?_, vs.toArray, rfl, RDs.of hvl fun j d v hj hj' => ?_⟩
    · unfold loadVar
      rw [Sem.run_bind, run_isAgg ht w, hag]
      simp [run_size ht, hrun]
    · obtain ⟨c, h1, _, h3⟩ := hv j d hj
      rw [hj'] at h1
      cases h1
      exact h3
  | false =>
    rw [hag] at hd
    have : ∃ x, cs = [x] ∧ d = .one x := by
      cases cs with
      | nil => simp [mkV] at hd
      | cons x r => cases r with
        | nil => simp [mkV] at hd; exact ⟨x, rfl, hd.symm⟩
        | cons _ _ => simp [mkV] at hd
    obtain ⟨x, rfl, rfl⟩ := this
    obtain ⟨c, h1, h2⟩ := hc 0 x rfl
    refine ⟨c, ?_, h2⟩
    have h1' : w.cell? ad = some c := by rw [← h1]; cases ad; simp at hs; subst hs; rfl
    unfold loadVar
    rw [Sem.run_bind, run_isAgg ht w, hag]
    simp [load, Sem.run, h1']
theorem aload_ok (hW : World1 P ty T) (g : Gam C S ρ a w) {o : Oper} {t : Nat} {x : Operand} (hop : o.op = .load t x) {K : Eff → Prop} (h : aload (real T) ty S t (ev ty S 0 x) K) : ∃ E, K E ∧ Done P C S a w o E := by
  have hx := ev_ok (ty := ty) g 0 x
  revert h
  generalize ev ty S 0 x = ex at hx ⊢
  unfold aload
  cases hsz : Nat.ble 1 (ty t).size with
  | false => intro h; exact h.elim
  | true =>
    have ht := hW.types t (Nat.le_of_ble_eq_true hsz)
    have fin : ∀ (ad : Addr) (cs : List D) (d : DV) (rd : List Nat), ad.spot = none → a.eval x = .pointer (some ad) → cs.length = (ty t).size → mkV (ty t).agg cs = some d →
        (∀ (j : Nat) d, cs[j]? = some d → ∃ c, w.cell? ⟨ad.block, ad.off + j, none⟩ = some c ∧ RD w (C.ok S.b ρ) d c) → Done P C S a w o ⟨.v d, [], rd⟩ := by
      intro ad cs d rd h1 h2 h3 h4 h5
      obtain ⟨v, h6, h7⟩ := run_loadVar_ok ht h1 h3 h5 h4
      refine Done.pure (v := v) g ?_ h7
      unfold execOp
      rw [hop]
      simp [h2, Instr.loadAt, Instr.sureAddr, h6]
    simp only [cond_true]
    split
    · rename_i cs
      obtain ⟨ad, e1, hs, h1, h2⟩ := hx
      intro h
      cases hb : Nat.ble (ty t).size cs.length with
      | false => rw [hb] at h; exact h.elim
      | true =>
        rw [hb] at h
        simp only [cond_true] at h
        have hb' := Nat.le_of_ble_eq_true hb
        split at h
        · rename_i d hd
          refine ⟨_, h, fin ad (cs.take (ty t).size) d [] hs e1 (by simp; omega) hd fun j d hj => ?_⟩
          rw [List.getElem?_take] at hj
          split at hj
          · exact h2 j d hj
          · cases hj
        · exact h.elim
    · rename_i s es i off
      obtain ⟨hno, k, hk, e1⟩ := hx
      intro h
      have hbr := g.blocks s
      split at h
      · rename_i cs hcs
        rw [hcs] at hbr
        obtain ⟨b, arr, TT, e2, h1, h2, h3⟩ := hbr
        rw [e2] at hk
        cases hk
        cases hb : (Nat.beq i 0 && Nat.ble (off + (ty t).size) cs.length) with
        | false => rw [hb] at h; exact h.elim
        | true =>
          rw [hb] at h
          simp only [cond_true] at h
          simp only [Bool.and_eq_true] at hb
          have hi : i = 0 := Nat.eq_of_beq_eq_true hb.1
          have hb' := Nat.le_of_ble_eq_true hb.2
          subst hi
          split at h
          · rename_i d hd
            refine ⟨_, h, fin ⟨b, off, none⟩ ((cs.drop off).take (ty t).size) d _ rfl (by rw [e1]; simp) (by simp; omega) hd fun j d hj => ?_⟩
            rw [List.getElem?_take] at hj
            split at hj
            · rw [List.getElem?_drop] at hj
              obtain ⟨c, h4, h5⟩ := h3.get _ d hj
              exact ⟨c, by rw [cell_of_row w b _ arr TT (0, 0) h2]; simpa using h4, h5⟩
            · cases hj
          · exact h.elim
      · rename_i e es' xs hcs
        cases hee : Nat.beq es es' with
        | false => rw [hee] at h; exact h.elim
        | true =>
          rw [hee] at h
          simp only [cond_true] at h
          have he : es = es' := Nat.eq_of_beq_eq_true hee
          subst he
          obtain ⟨y, hy, h⟩ := h
          rw [hcs] at hbr
          obtain ⟨h0, h1, cs, ⟨h2, h3⟩, h4⟩ := hbr
          cases hb : Nat.ble (off + (ty t).size) y.length with
          | false => rw [hb] at h; exact h.elim
          | true =>
            rw [hb] at h
            simp only [cond_true] at h
            have hb' := Nat.le_of_ble_eq_true hb
            split at h
            · rename_i d hd
              rcases h3 with ⟨h3, _⟩ | ⟨gg, cap, cur, e2, g1, g2, g3, g4, g5, g6⟩
              · rw [h3] at hk; cases hk
              · rw [e2] at hk
                cases hk
                refine ⟨_, h, fin ⟨gg, i * es + off, none⟩ ((y.drop off).take (ty t).size) d _ rfl e1 (by simp; omega) hd fun j d hj => ?_⟩
                rw [List.getElem?_take] at hj
                split at hj
                · rw [List.getElem?_drop] at hj
                  obtain ⟨c, h5, h6⟩ := h4.get _ d (flat_get xs i (off + j) y d h1 hy hj)
                  refine ⟨c, ?_, h6⟩
                  rw [cell_of_row w gg _ cur e (0, 0) g2, Nat.add_assoc]
                  rw [← g6, List.getElem?_take] at h5
                  split at h5
                  · simpa using h5
                  · cases h5
                · cases hj
            · exact h.elim
      · exact h.elim
    · intro h; exact h.elim
end
end Go.Proofs.YtpmlocilhhjifaaGreat.Eng
end
section
set_option linter.unusedSimpArgs false
set_option linter.unusedVariables false
namespace Go.Proofs.YtpmlocilhhjifaaGreat.Eng
open Go.RowKit
section
variable {P : Program} {ty : Nat → TI} {T : Nat → List DV → List DV → Prop} {C : Ctx} {S : AS} {ρ : Nat → Value} {a : Act} {w : World}

theorem setB_append (f : Nat → BE) : ∀ (k l : List (Nat × BE)), setB f (k ++ l) = setB (setB f k) l
  | [], _ => rfl
  | (s, e) :: k, l => setB_append (upd f s e) k l
theorem write_ok (g : Gam C S ρ a w) {s : Nat} (hl : (S.b s).live) {w' : World} (hg : w.grownBy w' (blkOf (ρ s))) {be : BE} (hbe : be.live) :
    ∀ t k, C.ok S.b ρ t k → k < w.heap.size → w'.heap[k]? = w.heap[k]? ∧ C.ok (upd S.b s be) ρ t k := by
  refine ok_step (fun k ⟨r, h1, h2⟩ => .inl ?_) (fun k hk ho => hg.block k hk (fun e => ho ⟨s, hl, e.symm⟩))
  by_cases hr : r = s
  · subst hr; exact ⟨r, hl, h2⟩
  · rw [upd_ne _ _ hr] at h1; exact ⟨r, h1, h2⟩
theorem new_ok {b : Nat → BE} {d : Nat} {be : BE} {v : Value} {w w' : World} (hb : Below w.heap.size w w') (hv : ∀ k, blkOf v = some k → w.heap.size ≤ k) :
    ∀ t k, C.ok b ρ t k → k < w.heap.size → w'.heap[k]? = w.heap[k]? ∧ C.ok (upd b d be) (upd ρ d v) t k := by
  refine ok_step (fun k h => ?_) (fun k hk _ => hb.block k hk)
  rcases Occ_upd h with ⟨_, h⟩ | ⟨s, _, h1, h2⟩
  · exact .inr (hv k h)
  · exact .inl ⟨s, h1, h2⟩
theorem grown_setRow (w : World) (g : Nat) (cs : Array Value) : w.grownBy (w.setRow g cs) (some g) := ⟨rfl, rfl, rfl, by simp, fun k _ hk => setRow_other w g k _ (fun e => hk (by simp [e]))⟩
theorem run_storeVar_ok {t : Nat} (ht : TyOk P ty t) {b off : Nat} {arr : Array Value} {TT : TypeId} (hb : w.heap[b]? = some (.cells arr TT (0, 0))) {v : Value} (hv : v.cells.size = (ty t).size)
    (h1 : ∀ u ∈ v.cells.toList, u.oneCell' = true) (hl : off + v.cells.size ≤ arr.size) :
    (storeVar t ⟨b, off, none⟩ v).run P w = .ok () (w.setRow b (arr.toList.take off ++ v.cells.toList ++ arr.toList.drop (off + v.cells.size)).toArray) := by
  have := run_storeCells_at (P := P) b off TT v.cells.toList 0 arr w hb (by simpa using hl) h1
  unfold storeVar
  simp only [Sem.run_bind, run_size ht, Result.andThen, hv]
  simpa [hv] using this
theorem fillL_length {zs cs : List D} {off : Nat} (h : off + cs.length ≤ zs.length) : (fillL zs off cs).length = zs.length := by simp [fillL]; omega
theorem RDs.fill {ok : Nat → Nat → Prop} {zs cs : List D} {vs us : List Value} (hz : RDs w ok zs vs) (hc : RDs w ok cs us) (off : Nat) : RDs w ok (fillL zs off cs) (vs.take off ++ us ++ vs.drop (off + us.length)) := by
  unfold fillL
  rw [hc.length]
  exact ((hz.take off).app hc).app (hz.drop _)
theorem flat_len {es : Nat} : ∀ (xs : List (List D)), (∀ x ∈ xs, x.length = es) → xs.flatten.length = xs.length * es
  | [], _ => by simp
  | x :: xs, h => by rw [List.flatten_cons, List.length_append, h x (by simp), flat_len xs (fun y hy => h y (by simp [hy])), List.length_cons, Nat.succ_mul, Nat.add_comm]
theorem flat_set {es : Nat} : ∀ (xs : List (List D)) (i : Nat) (x y : List D), (∀ z ∈ xs, z.length = es) → xs[i]? = some x → y.length = es →
    (xs.set i y).flatten = xs.flatten.take (i * es) ++ y ++ xs.flatten.drop (i * es + es)
  | [], i, x, y, _, h, _ => by simp at h
  | z :: xs, 0, x, y, hz, h, hy => by
    have hzl := hz z (by simp)
    simp only [List.set_cons_zero, List.flatten_cons, Nat.zero_mul, List.take_zero, List.nil_append, Nat.zero_add]
    rw [List.drop_append_of_le_length (by omega), List.drop_of_length_le (by omega), List.nil_append]
  | z :: xs, i + 1, x, y, hz, h, hy => by
    have hzl := hz z (by simp)
    have ih := flat_set xs i x y (fun q hq => hz q (by simp [hq])) (by simpa using h) hy
    simp only [List.set_cons_succ, List.flatten_cons, ih]
    have e1 : (i + 1) * es = z.length + i * es := by rw [hzl, Nat.succ_mul, Nat.add_comm]
    rw [e1, List.take_length_add_append, Nat.add_assoc, List.drop_length_add_append]
    simp [List.append_assoc]

theorem splice_take {α : Type} (cur us : List α) (p N : Nat) (h : p + us.length ≤ N) (hN : N ≤ cur.length) :
    (cur.take p ++ us ++ cur.drop (p + us.length)).take N = (cur.take N).take p ++ us ++ (cur.take N).drop (p + us.length) := by
  have h1 : (cur.take p ++ us).length = p + us.length := by simp; omega
  rw [List.take_append, h1, List.take_of_length_le (by omega), List.take_take, Nat.min_eq_left (by omega), List.drop_take]
theorem flat_slice {es : Nat} : ∀ (xs : List (List D)) (i : Nat) (z : List D), (∀ x ∈ xs, x.length = es) → xs[i]? = some z → z = (xs.flatten.drop (i * es)).take es
  | [], i, z, _, h => by simp at h
  | x :: xs, 0, z, hx, h => by
    have := hx x (by simp)
    simp at h
    subst h
    rw [List.flatten_cons, Nat.zero_mul, List.drop_zero, List.take_append_of_le_length (by omega), List.take_of_length_le (by omega)]
  | x :: xs, i + 1, z, hx, h => by
    have hl := hx x (by simp)
    have ih := flat_slice xs i z (fun q hq => hx q (by simp [hq])) (by simpa using h)
    have e1 : (i + 1) * es = x.length + i * es := by rw [hl, Nat.succ_mul, Nat.add_comm]
    rw [List.flatten_cons, e1, List.drop_length_add_append]
    exact ih
theorem splice_row {F us z : List D} {A off es : Nat} (hz : z = (F.drop A).take es) (h : off + us.length ≤ es) (hF : A + es ≤ F.length) :
    F.take A ++ fillL z off us ++ F.drop (A + es) = fillL F (A + off) us := by
  subst hz
  unfold fillL
  rw [List.take_take, Nat.min_eq_left (by omega), List.take_add]
  have e1 : ((F.drop A).take es).drop (off + us.length) ++ F.drop (A + es) = F.drop (A + off + us.length) := by
    have h2 : F.drop (A + es) = (F.drop A).drop es := by rw [List.drop_drop]
    rw [h2, ← List.drop_append_of_le_length (by simp; omega), List.take_append_drop, List.drop_drop]
    congr 1
    omega
  simp only [List.append_assoc]
  rw [e1]

theorem astore_ok (hW : World1 P ty T) (g : Gam C S ρ a w) {o : Oper} {t : Nat} {x y : Operand} (hop : o.op = .store t x y) {K : Eff → Prop} (h : astore (real T) ty S t (ev ty S 0 x) (ev ty S t y) K) : ∃ E, K E ∧ Done P C S a w o E := by
  have hx := ev_ok (ty := ty) g 0 x
  unfold astore at h
  obtain ⟨d, k, r, h, g1, hd, hkf⟩ := gdv_ok g (ev_ok (ty := ty) g t y) h
  cases hsz : (Nat.ble 1 (ty t).size && Nat.beq d.cells.length (ty t).size) with
  | false => rw [hsz] at h; exact h.elim
  | true =>
    rw [hsz] at h
    simp only [cond_true] at h
    simp only [Bool.and_eq_true] at hsz
    have ht := hW.types t (Nat.le_of_ble_eq_true hsz.1)
    have hdl : d.cells.length = (ty t).size := Nat.eq_of_beq_eq_true hsz.2
    have hdc := hd.cells
    have hvs : (a.eval y).cells.size = (ty t).size := by rw [← hdl, ← hdc.length]; simp
    have hone : ∀ u ∈ (a.eval y).cells.toList, u.oneCell' = true := hdc.one
    revert h hx
    generalize ev ty S 0 x = ex
    intro hx h
    split at h
    · rename_i s es i off
      obtain ⟨hno, kk, hk, e1⟩ := hx
      have hbr := g1.blocks s
      have fin : ∀ (be : BE) (w' : World), be.live → (setB S.b k s).live → w.grownBy w' (some kk) → (storeVar t ⟨kk, i * es + off, none⟩ (a.eval y)).run P w = .ok () w' →
          BR C w' (C.ok (upd (setB S.b k) s be) ρ) be (ρ s) → Done P C S a w o ⟨.u, k ++ [(s, be)], r ++ [s]⟩ := by
        intro be w' hbe hl hg hrun hbr'
        refine ⟨.skip, undef, w', ρ, ?_, .inr ⟨rfl, rfl⟩, ?_, trivial⟩
        · unfold execOp
          rw [hop]
          simp [e1, Instr.storeAt, Instr.sureAddr, hrun]
        · rw [setB_append]
          exact g1.write (s := s) hl (by rw [hk]; exact hg) hbe hbr'
      split at h
      · rename_i cs hcs
        cases hi0 : Nat.beq i 0 with
        | false => rw [hi0] at h; exact h.elim
        | true =>
          rw [hi0] at h
          simp only [cond_true] at h
          have hi := Nat.eq_of_beq_eq_true hi0
          subst hi
          split at h
          · rename_i cs' hcs'
            unfold storeL at hcs'
            cases hle : Nat.ble (off + d.cells.length) cs.length with
            | false => rw [hle] at hcs'; cases hcs'
            | true =>
              rw [hle] at hcs'
              simp only [cond_true, Option.some.injEq] at hcs'
              have hle' := Nat.le_of_ble_eq_true hle
              subst hcs'
              simp only at hbr
              rw [hcs] at hbr
              obtain ⟨b, arr, TT, e2, h1, h2, h3⟩ := hbr
              have hk' := hk
              rw [e2] at hk'
              cases hk'
              have hal := h3.length
              have hrun := run_storeVar_ok (P := P) (ty := ty) ht (off := 0 * es + off) h2 hvs hone (by rw [hvs, ← hdl, Nat.zero_mul, Nat.zero_add]; simp at hal; omega)
              have hl : (setB S.b k s).live := by rw [hcs]; trivial
              refine ⟨_, h, fin _ _ trivial hl (grown_setRow _ _ _) hrun ⟨b, _, TT, e2, h1, setRow_heap w b _ _ _ _ h2, ?_⟩⟩
              have hmono := write_ok g1 (s := s) hl (w' := w.setRow b (arr.toList.take (0 * es + off) ++ (a.eval y).cells.toList ++ arr.toList.drop (0 * es + off + (a.eval y).cells.size)).toArray) (by rw [hk]; exact grown_setRow _ _ _) (be := .bx (fillL cs off d.cells)) trivial
              have := (h3.fill hdc off).mono (w' := w.setRow b (arr.toList.take (0 * es + off) ++ (a.eval y).cells.toList ++ arr.toList.drop (0 * es + off + (a.eval y).cells.size)).toArray) (by simp) hmono
              simpa using this
          · exact h.elim
      · rename_i e es' xs hcs
        cases hee : Nat.beq es es' with
        | false => rw [hee] at h; exact h.elim
        | true =>
          rw [hee] at h
          simp only [cond_true] at h
          have he := Nat.eq_of_beq_eq_true hee
          subst he
          obtain ⟨z, z', hz, hz', hzl, h⟩ := h
          unfold storeL at hz'
          cases hle : Nat.ble (off + d.cells.length) z.length with
          | false => rw [hle] at hz'; cases hz'
          | true =>
            rw [hle] at hz'
            simp only [cond_true, Option.some.injEq] at hz'
            have hle' := Nat.le_of_ble_eq_true hle
            subst hz'
            simp only at hbr
            rw [hcs] at hbr
            obtain ⟨h0, h1, cs, ⟨h2, h3⟩, h4⟩ := hbr
            have hzes : z.length = es := h1 z (List.mem_of_getElem? hz)
            have hl : (setB S.b k s).live := by rw [hcs]; trivial
            rcases h3 with ⟨h3, _⟩ | ⟨gg, cap, cur, e2, g1', g2, g3, g4, g5, g6⟩
            · rw [h3] at hk; cases hk
            · have hk' := hk
              rw [e2] at hk'
              cases hk'
              have hilt : i < xs.length := (List.getElem?_eq_some_iff.1 hz).1
              have hin : i * es + es ≤ xs.length * es := by
                have := Nat.mul_le_mul_right es (Nat.succ_le_of_lt hilt)
                rw [Nat.succ_mul] at this
                exact this
              have hcap : xs.length * es ≤ cap * es := Nat.mul_le_mul_right es g3
              have hrun := run_storeVar_ok (P := P) (ty := ty) ht (off := i * es + off) g2 hvs hone (by rw [hvs, ← hdl]; omega)
              refine ⟨_, h, fin _ _ trivial hl (grown_setRow _ _ _) hrun ?_⟩
              have hmono := write_ok g1 (s := s) hl (w' := w.setRow gg (cur.toList.take (i * es + off) ++ (a.eval y).cells.toList ++ cur.toList.drop (i * es + off + (a.eval y).cells.size)).toArray) (by rw [hk]; exact grown_setRow _ _ _) (be := .ar e es (xs.set i (fillL z off d.cells))) trivial
              refine ⟨h0, fun q hq => ?_, cs.take (i * es + off) ++ (a.eval y).cells.toList ++ cs.drop (i * es + off + (a.eval y).cells.size), ?_, ?_⟩
              · rcases List.mem_or_eq_of_mem_set hq with hq | rfl
                · exact h1 q hq
                · rw [fillL_length hle']; exact hzes
              · rw [List.length_set]
                have hcsl : cs.length = xs.length * es := h2
                refine ⟨by simp [hcsl, hvs, ← hdl]; omega, .inr ⟨gg, cap, _, e2, g1', setRow_heap w gg _ _ _ _ g2, g3, g4, ?_, ?_⟩⟩
                · simp [g5, hvs, ← hdl]; omega
                · have hcurl : cur.toList.length = cap * es := by simpa using g5
                  simp only [List.toList_toArray]
                  rw [← g6]
                  have hc1 : (a.eval y).cells.toList.length = (a.eval y).cells.size := by simp
                  have hc2 : (a.eval y).cells.size = d.cells.length := by simp [hvs, hdl]
                  rw [← hc1]
                  exact splice_take _ _ _ _ (by rw [hc1, hc2]; omega) (by rw [hcurl]; exact hcap)
              · rw [flat_set xs i z (fillL z off d.cells) h1 hz (by rw [fillL_length hle']; exact hzes)]
                have hfl := flat_len xs h1
                have key : xs.flatten.take (i * es) ++ fillL z off d.cells ++ xs.flatten.drop (i * es + es) = fillL xs.flatten (i * es + off) d.cells :=
                  splice_row (flat_slice xs i z h1 hz) (by omega) (by omega)
                rw [key]
                have := (h4.fill hdc (i * es + off)).mono (w' := w.setRow gg (cur.toList.take (i * es + off) ++ (a.eval y).cells.toList ++ cur.toList.drop (i * es + off + (a.eval y).cells.size)).toArray) (by simp) hmono
                simpa using this
      · exact h.elim
    · exact h.elim
end
end Go.Proofs.YtpmlocilhhjifaaGreat.Eng
end
section
set_option linter.unusedSimpArgs false
set_option linter.unusedVariables false
namespace Go.Proofs.YtpmlocilhhjifaaGreat.Eng
open Go.RowKit
section
variable {P : Program} {ty : Nat → TI} {T : Nat → List DV → List DV → Prop} {C : Ctx} {S : AS} {ρ : Nat → Value} {a : Act} {w : World}

theorem anew_ok {dst : Option Nat} {f : Nat → Prop} (h : anew S dst f) : ∃ d, dst = some d ∧ S.b d = .no ∧ f d := by
  unfold anew at h
  split at h
  · rename_i s
    split at h
    · exact ⟨s, rfl, by assumption, h⟩
    · exact h.elim
  · exact h.elim
theorem setB_no {f : Nat → BE} {k : List (Nat × BE)} {d : Nat} (hd : f d = .no) (hk : k = [] ∨ ∃ s e es xs, k = [(s, .dead)] ∧ f s = .ar e es xs) : setB f k d = .no := by
  rcases hk with rfl | ⟨s, e, es, xs, rfl, hs⟩
  · exact hd
  · have : d ≠ s := by rintro rfl; rw [hd] at hs; cases hs
    simp only [setB, upd_ne _ _ this]
    exact hd
/-- A new variable. -/
theorem box_done (g : Gam C S ρ a w) {o : Oper} {d : Nat} (hd : S.b d = .no) {cs : List D} {v : Value} (hv : RDs w (C.ok S.b ρ) cs v.cells.toList) {TT : TypeId}
    (hrun : (execOp a.eval o).run P w = .ok (.value (.pointer (some ⟨w.heap.size, 0, none⟩))) (w.alloc (.cells v.cells TT (0, 0)))) (rd : List Nat) : Done P C S a w o ⟨.p d 0 0 0, [(d, .bx cs)], rd⟩ := by
  have hb : Below w.heap.size w (w.alloc (.cells v.cells TT (0, 0))) := (Below.refl _ w).alloc (Nat.le_refl _) _
  have hbk : ∀ k, blkOf (.pointer (some (⟨w.heap.size, 0, none⟩ : Addr))) = some k → w.heap.size ≤ k := fun k hk => by cases hk; exact Nat.le_refl _
  refine ⟨_, _, _, upd ρ d (.pointer (some ⟨w.heap.size, 0, none⟩)), hrun, .inl rfl, g.new hd hb hbk ?_, ?_⟩
  · exact ⟨w.heap.size, v.cells, TT, rfl, g.size_le, heap_alloc_new w _, hv.mono hb.size (new_ok hb hbk)⟩
  · refine ⟨by simp [setB, upd_same], w.heap.size, by rw [upd_same]; rfl, by simp⟩
/-- A new array. -/
theorem arr_done (g : Gam C S ρ a w) {o : Oper} {d : Nat} (hd : S.b d = .no) {e es : Nat} {xs : List (List D)} (hes : 0 < es) (hx : ∀ x ∈ xs, x.length = es) {v : Value} {w' : World} (hb : Below w.heap.size w w')
    (hbk : ∀ k, blkOf v = some k → w.heap.size ≤ k) {cs : List Value} (hown : w'.ownsRow C.n0 e es v xs.length cs) (hcs : RDs w' (C.ok (upd S.b d (.ar e es xs)) (upd ρ d v)) xs.flatten cs)
    (hrun : (execOp a.eval o).run P w = .ok (.value v) w') (rd : List Nat) : Done P C S a w o ⟨.ow d, [(d, .ar e es xs)], rd⟩ := by
  refine ⟨_, v, w', upd ρ d v, hrun, .inl rfl, g.new hd hb hbk ⟨hes, hx, cs, hown, hcs⟩, by simp [setB, upd_same], by rw [upd_same]⟩

theorem alloc_ok (hW : World1 P ty T) (g : Gam C S ρ a w) {o : Oper} {t : Nat} (hop : o.op = .alloc t) {K : Eff → Prop}
    (h : bif Nat.ble 1 (ty t).size then anew S o.dst fun d => K ⟨.p d 0 0 0, [(d, .bx (ty t).zero)], []⟩ else False) : ∃ E, K E ∧ Done P C S a w o E := by
  cases hsz : Nat.ble 1 (ty t).size with
  | false => rw [hsz] at h; exact h.elim
  | true =>
    rw [hsz] at h
    simp only [cond_true] at h
    have ht := hW.types t (Nat.le_of_ble_eq_true hsz)
    obtain ⟨d, hd, hno, h⟩ := anew_ok h
    obtain ⟨i, z, hi, _, _, hz, hzero⟩ := ht.info
    refine ⟨_, h, box_done g hno (v := z) (TT := t) ?_ ?_ []⟩
    · have := (hzero w (C.ok S.b ρ)).cells
      cases hag : (ty t).agg with
      | true => rw [hag] at this; exact this
      | false =>
        rw [hag] at this
        have hl := ht.zero.1
        rw [ht.zero.2 hag] at hl
        cases hq : (ty t).zero with
        | nil => rw [hq] at hl; cases hl
        | cons x r =>
          rw [hq] at hl this
          have : r = [] := List.eq_nil_of_length_eq_zero (by simpa using hl)
          subst this
          assumption
    · unfold execOp
      rw [hop]
      simp [Instr.alloc, zeroValue, typeInfo, hi, hz, newVar, newRow]
theorem box_ok (g : Gam C S ρ a w) {o : Oper} {t : Nat} {x : Operand} (hop : o.op = .box t x) {K : Eff → Prop}
    (h : gdv S (ev ty S t x) fun v k r => anew S o.dst fun d => K ⟨.p d 0 0 0, k ++ [(d, .bx v.cells)], r⟩) : ∃ E, K E ∧ Done P C S a w o E := by
  obtain ⟨d, k, r, h, g1, hd, hkf⟩ := gdv_ok g (ev_ok (ty := ty) g t x) h
  obtain ⟨dd, _, hno, h⟩ := anew_ok h
  have hno1 : setB S.b k dd = .no := setB_no hno (hkf.imp id fun ⟨s, e, es, xs, h1, h2, _⟩ => ⟨s, e, es, xs, h1, h2⟩)
  refine ⟨_, h, ?_⟩
  have hrun : (execOp a.eval o).run P w = .ok (.value (.pointer (some ⟨w.heap.size, 0, none⟩))) (w.alloc (.cells (a.eval x).cells t (0, 0))) := by
    unfold execOp
    rw [hop]
    simp [Instr.box, newVar, newRow]
  have := box_done (S := { t := S.t, b := setB S.b k }) g1 (o := o) hno1 hd.cells hrun r
  obtain ⟨n, v, w', ρ', h1, h2, h3, h4⟩ := this
  exact ⟨n, v, w', ρ', h1, h2, by rw [setB_append]; exact h3, by rw [setB_append]; exact h4⟩

/-- Operands, one by one. -/
theorem gdvs_ok : ∀ (l : List (Nat × Operand)) {S : AS} {K : List DV → List (Nat × BE) → List Nat → Prop}, Gam C S ρ a w → gdvs ty S l K →
    ∃ ds k r, K ds k r ∧ Gam C { t := S.t, b := setB S.b k } ρ a w ∧ RVs w (C.ok (setB S.b k) ρ) ds (l.map fun q => a.eval q.2) ∧ (∀ d, S.b d = .no → setB S.b k d = .no) ∧
      (∀ t k', C.ok S.b ρ t k' → C.ok (setB S.b k) ρ t k')
  | [], S, K, g, h => ⟨[], [], [], h, g, trivial, fun _ h => h, fun _ _ h => h⟩
  | (t, x) :: l, S, K, g, h => by
    simp only [gdvs] at h
    obtain ⟨d, k, r, h, g1, hd, hkf⟩ := gdv_ok g (ev_ok (ty := ty) g t x) h
    obtain ⟨ds, k2, r2, h, g2, hds, hno2, hok2⟩ := gdvs_ok l g1 h
    have hno1 : ∀ d, S.b d = .no → setB S.b k d = .no := fun d hd => setB_no hd (hkf.imp id fun ⟨s, e, es, xs, h1, h2, _⟩ => ⟨s, e, es, xs, h1, h2⟩)
    have hok1 : ∀ t k', C.ok S.b ρ t k' → C.ok (setB S.b k) ρ t k' := fun t k' hok => by
      rcases hkf with rfl | ⟨s, _, _, _, rfl, _, _⟩
      · exact hok
      · exact ok_kill hok
    refine ⟨d :: ds, k ++ k2, r ++ r2, h, by rw [setB_append]; exact g2, ?_, fun q hq => by rw [setB_append]; exact hno2 q (hno1 q hq), fun t k' h => by rw [setB_append]; exact hok2 t k' (hok1 t k' h)⟩
    rw [setB_append]
    exact ⟨hd.mono (Nat.le_refl _) (fun t b h _ => ⟨rfl, hok2 t b h⟩), hds⟩

theorem run_underlying_slc (hW : World1 P ty T) {t e : Nat} (h : elem? ty t = some e) : P.underlying t = some (.slice e) ∧ 0 < (ty e).size ∧ TyOk P ty e := by
  unfold elem? at h
  split at h
  · rename_i e' he
    cases h
    have := (hW.types t (hW.known t (by rw [he]; simp))).kd
    rw [he] at this
    exact ⟨this.1, this.2, hW.types e this.2⟩
  · cases h
/-- A slice that is read: its elements, wherever they lie. -/
theorem sum_ok (g : Gam C S ρ a w) {x : AT} {v : Value} (hx : AR w (C.ok S.b ρ) S.b ρ x v) {K : List (List D) → List Nat → Prop} (h : sumB x S K) :
    ∃ xs r, K xs r ∧ xs.length ≤ maxLen ∧ ∃ A cap, v = .slice A xs.length cap ∧ (A = none → xs = [] ∧ cap = 0) ∧
      ∀ ad, A = some ad → (xs ≠ [] → ad.spot = none) ∧ ∃ sz, (∀ (i : Nat) z, xs[i]? = some z → z.length = sz) ∧
        ∀ (i j : Nat) z d, xs[i]? = some z → z[j]? = some d → ∃ c, w.cell? ⟨ad.block, ad.off + i * sz + j, none⟩ = some c ∧ RD w (C.ok S.b ρ) d c := by
  unfold sumB at h
  split at h
  · rename_i t sz xs
    have hx' : RD w (C.ok S.b ρ) (.sl t sz xs) v := hx
    cases hx' with
    | nil => exact ⟨_, _, h, by simp, none, 0, rfl, fun _ => ⟨rfl, rfl⟩, (fun ad h => by cases h)⟩
    | sl t sz xs ad cap cs ht h1 h2 h3 h4 h5 h6 =>
      exact ⟨xs, _, h, Nat.le_trans h2 h3, some ad, cap, rfl, (fun h => by cases h), fun ad' e => by cases e; exact ⟨fun hx => (h1 hx).1, sz, h4, fun i j z d hi hj => ⟨cs i j, h5 i j z d hi hj, h6 i j z d hi hj⟩⟩⟩
  · rename_i s
    split at h
    · rename_i e es xs hs
      obtain ⟨_, rfl⟩ := hx
      have hb := g.blocks s
      rw [hs] at hb
      obtain ⟨h0, h1, cs, ⟨h2, h3⟩, h4⟩ := hb
      rcases h3 with ⟨h3, h5⟩ | ⟨gg, cap, cur, e2, g1, g2, g3, g4, g5, g6⟩
      · have : xs = [] := List.eq_nil_of_length_eq_zero h5
        subst this
        exact ⟨_, _, h, by simp, none, 0, h3, fun _ => ⟨rfl, rfl⟩, (fun ad h => by cases h)⟩
      · refine ⟨xs, _, h, Nat.le_trans g3 g4, some ⟨gg, 0, none⟩, cap, e2, (fun h => by cases h), fun ad e => ?_⟩
        cases e
        refine ⟨fun _ => rfl, es, fun i z hz => h1 z (List.mem_of_getElem? hz), fun i j z d hi hj => ?_⟩
        obtain ⟨c, h5, h6⟩ := h4.get _ d (flat_get xs i j z d h1 hi hj)
        refine ⟨c, ?_, h6⟩
        rw [cell_of_row w gg _ cur e (0, 0) g2]
        rw [← g6, List.getElem?_take] at h5
        split at h5
        · simpa using h5
        · cases h5
    · exact h.elim
  · exact h.elim
end
end Go.Proofs.YtpmlocilhhjifaaGreat.Eng
end
section
set_option linter.unusedSimpArgs false
set_option linter.unusedVariables false
namespace Go.Proofs.YtpmlocilhhjifaaGreat.Eng
open Go.RowKit
section
variable {P : Program} {ty : Nat → TI} {T : Nat → List DV → List DV → Prop} {C : Ctx} {S : AS} {ρ : Nat → Value} {a : Act} {w : World}

theorem slc_of (hW : World1 P ty T) {t e : Nat} (h : (ty t).kd = .slc e) : P.underlying t = some (.slice e) ∧ 0 < (ty e).size ∧ TyOk P ty e :=
  run_underlying_slc hW (by unfold elem?; rw [h])
theorem elem_kd {t e : Nat} (h : elem? ty t = some e) : (ty t).kd = .slc e := by
  unfold elem? at h
  split at h
  · rename_i he; cases h; exact he
  · cases h
theorem str_of (hW : World1 P ty T) {t : Nat} (h : (ty t).kd = .str) : P.underlying t = some .string := by
  have := (hW.types t (hW.known t (by rw [h]; simp))).kd
  rw [h] at this
  exact this
theorem alen_ok (hW : World1 P ty T) (g : Gam C S ρ a w) {o : Oper} {t : Nat} {x : Operand} (hop : o.op = .call { callee := .builtin .len, args := #[x], argTypes := #[t] }) {K : Eff → Prop} (h : alen (real T) ty S t (ev ty S t x) K) :
    ∃ E, K E ∧ Done P C S a w o E := by
  have hx := ev_ok (ty := ty) g t x
  unfold alen at h
  split at h
  · rename_i hk
    split at h
    · rename_i s he
      rw [he] at hx
      have e1 : a.eval x = .string s := RD.sc_inv hx
      refine ⟨_, h, Done.pure (v := .int .i64 s.size) g ?_ (RD.sc _ rfl)⟩
      unfold execOp
      rw [hop]
      simp [resolve, invoke, builtin, e1, Builtin.len_, run_underlying (str_of hW hk), goInt]
    · exact h.elim
  · rename_i e hk
    obtain ⟨xs, r, h, hl, A, cap, e1, _⟩ := sum_ok g hx h
    refine ⟨_, h, Done.pure (v := .int .i64 xs.length) g ?_ (RD.sc _ rfl)⟩
    unfold execOp
    rw [hop]
    simp [resolve, invoke, builtin, e1, Builtin.len_, run_underlying (slc_of hW hk).1, goInt]
  · exact h.elim
theorem flat_inv {es : Nat} : ∀ (ys : List (List D)) (q : Nat) (d : D), (∀ y ∈ ys, y.length = es) → ys.flatten[q]? = some d → ∃ i j z, ys[i]? = some z ∧ z[j]? = some d ∧ q = i * es + j
  | [], q, d, _, h => by simp at h
  | y :: ys, q, d, hy, h => by
    have hl := hy y (by simp)
    by_cases hq : q < y.length
    · rw [List.flatten_cons, List.getElem?_append_left hq] at h
      exact ⟨0, q, y, rfl, h, by omega⟩
    · rw [List.flatten_cons, List.getElem?_append_right (by omega)] at h
      obtain ⟨i, j, z, h1, h2, h3⟩ := flat_inv ys _ d (fun z hz => hy z (by simp [hz])) h
      exact ⟨i + 1, j, z, by simpa using h1, h2, by rw [Nat.succ_mul]; omega⟩
theorem own_blk {base : Nat} {e es : Nat} {v : Value} {n : Nat} {cs : List Value} (h : w.ownsRow base e es v n cs) : blkOf v = v.ownBlock := by
  rcases h.2 with ⟨rfl, _⟩ | ⟨_, _, _, rfl, _⟩ <;> rfl
/-- The row moved, or was written behind its end. -/
theorem Gam.moved (g : Gam C S ρ a w) {w' : World} {s d : Nat} (hl : (S.b s).live) (hd : S.b d = .no) {be : BE} (hbe : be.live) {v : Value} (hg : w.grownBy w' (blkOf (ρ s))) (hv : blkOf v = blkOf (ρ s) ∨ blkOf v = some w.heap.size)
    (hbr : BR C w' (C.ok (upd (upd S.b s .dead) d be) (upd ρ d v)) be v) : Gam C { t := S.t, b := upd (upd S.b s .dead) d be } (upd ρ d v) a w' := by
  have hsd : s ≠ d := by rintro rfl; rw [hd] at hl; exact hl
  have lv : ∀ r, r ≠ d → ((upd (upd S.b s .dead) d be) r).live → r ≠ s ∧ (S.b r).live := fun r hr h => by
    rw [upd_ne _ _ hr] at h
    by_cases hrs : r = s
    · subst hrs; rw [upd_same] at h; exact h.elim
    · rw [upd_ne _ _ hrs] at h; exact ⟨hrs, h⟩
  have hocc : ∀ k, Occ (upd (upd S.b s .dead) d be) (upd ρ d v) k → Occ S.b ρ k ∨ w.heap.size ≤ k := fun k ⟨r, h1, h2⟩ => by
    by_cases hr : r = d
    · subst hr
      rw [upd_same] at h2
      rcases hv with hv | hv
      · rw [hv] at h2; exact .inl ⟨s, hl, h2⟩
      · rw [hv] at h2; cases h2; exact .inr (Nat.le_refl _)
    · rw [upd_ne _ _ hr] at h2; exact .inl ⟨r, (lv r hr h1).2, h2⟩
  have hfr : ∀ k, k < w.heap.size → ¬ Occ S.b ρ k → w'.heap[k]? = w.heap[k]? := fun k hk ho => hg.block k hk (fun e => ho ⟨s, hl, e.symm⟩)
  have hbel : Below C.n0 w w' := ⟨hg.os, hg.tape, hg.output, hg.size, fun k hk => hg.block k (by have := g.size_le; omega) (fun e => by have := (g.lt hl e.symm).2; omega)⟩
  refine g.step (S' := { t := S.t, b := upd (upd S.b s .dead) d be }) hbel hocc hfr (fun r hr => ?_) (fun r => ?_) (fun r r' k h1 h2 h3 h4 => ?_) rfl
  · have hrd : r ≠ d := by rintro rfl; exact hr hd
    refine ⟨?_, upd_ne _ _ hrd⟩
    simp only [upd_ne _ _ hrd]
    by_cases hrs : r = s
    · subst hrs; simp [upd_same]
    · simp only [upd_ne _ _ hrs]; exact hr
  · by_cases hr : r = d
    · subst hr; simp only [upd_same]; exact hbr
    · simp only [upd_ne _ _ hr]
      by_cases hrs : r = s
      · subst hrs; simp only [upd_same]; trivial
      · simp only [upd_ne _ _ hrs]
        exact (g.blocks r).mono hg.size (ok_step hocc hfr) (fun hl' k hk => hg.block k (g.lt hl' hk).1 (fun e => hrs (g.apart r s k hl' hl hk e.symm)))
  · simp only at h1 h2
    have key : ∀ r k, r ≠ d → ((upd (upd S.b s .dead) d be) r).live → blkOf (upd ρ d v r) = some k → blkOf v = some k → False := fun r k hr h1 h3 h4 => by
      obtain ⟨hrs, h5⟩ := lv r hr h1
      rw [upd_ne _ _ hr] at h3
      rcases hv with hv | hv
      · rw [hv] at h4; exact hrs (g.apart r s k h5 hl h3 h4)
      · rw [hv] at h4; cases h4; have := (g.lt h5 h3).1; omega
    by_cases hr : r = d <;> by_cases hr' : r' = d
    · rw [hr, hr']
    · subst hr; rw [upd_same] at h3; exact (key r' k hr' h2 h4 h3).elim
    · subst hr'; rw [upd_same] at h4; exact (key r k hr h1 h3 h4).elim
    · have a1 := lv r hr h1
      have a2 := lv r' hr' h2
      rw [upd_ne _ _ hr] at h3
      rw [upd_ne _ _ hr'] at h4
      exact g.apart r r' k a1.2 a2.2 h3 h4
theorem moved_ok (g : Gam C S ρ a w) {w' : World} {s d : Nat} (hl : (S.b s).live) (hd : S.b d = .no) {be : BE} {v : Value} (hg : w.grownBy w' (blkOf (ρ s))) (hv : blkOf v = blkOf (ρ s) ∨ blkOf v = some w.heap.size) :
    ∀ t k, C.ok S.b ρ t k → k < w.heap.size → w'.heap[k]? = w.heap[k]? ∧ C.ok (upd (upd S.b s .dead) d be) (upd ρ d v) t k := by
  refine ok_step (fun k ⟨r, h1, h2⟩ => ?_) (fun k hk ho => hg.block k hk (fun e => ho ⟨s, hl, e.symm⟩))
  by_cases hr : r = d
  · subst hr
    rw [upd_same] at h2
    rcases hv with hv | hv
    · rw [hv] at h2; exact .inl ⟨s, hl, h2⟩
    · rw [hv] at h2; cases h2; exact .inr (Nat.le_refl _)
  · rw [upd_ne _ _ hr] at h1 h2
    by_cases hrs : r = s
    · subst hrs; rw [upd_same] at h1; exact h1.elim
    · rw [upd_ne _ _ hrs] at h1; exact .inl ⟨r, h1, h2⟩

theorem aappend_ok (hW : World1 P ty T) (g : Gam C S ρ a w) {o : Oper} {t : Nat} {x y : Operand} (hop : o.op = .call { callee := .builtin .append, args := #[x, y], argTypes := #[t, t] }) {K : Eff → Prop}
    (h : aappend (real T) ty S o.dst t (ev ty S t x) (ev ty S t y) K) : ∃ E, K E ∧ Done P C S a w o E := by
  have hx := ev_ok (ty := ty) g t x
  unfold aappend at h
  split at h
  case h_2 => exact h.elim
  rename_i e he
  obtain ⟨hu, hes, hte⟩ := run_underlying_slc hW he
  obtain ⟨i, z, hi, hsz, hby, hz, hzero⟩ := hte.info
  have hzs : z.cells.size = (ty e).size := by
    have h1 := (hzero w (C.ok S.b ρ)).cells.length
    rw [← hte.zero.1]
    cases hag : (ty e).agg with
    | true => rw [hag] at h1; simpa [DV.cells] using h1
    | false =>
      rw [hag] at h1
      have := hte.zero.2 hag
      rw [hte.zero.1, this]
      simpa [DV.cells] using h1
  obtain ⟨ys, r, h, hyl, A, cap, e2, hnone, hsome⟩ := sum_ok g (ev_ok (ty := ty) g t y) h
  obtain ⟨d, hd, hno, h⟩ := anew_ok h
  -- both arms: what the append does to a row v of the call's own
  have main : ∀ (v : Value) (xs : List (List D)), a.eval x = v → BR C w (C.ok S.b ρ) (.ar e (ty e).size xs) v → (real T).app (ty e).bytes (ty e).size xs ys (fun _ => True) →
      ∃ v' w', (execOp a.eval o).run P w = .ok (.value v') w' ∧ w.grownBy w' (blkOf v) ∧ (blkOf v' = blkOf v ∨ blkOf v' = some w.heap.size) ∧
        ∀ ok', (∀ t k, C.ok S.b ρ t k → k < w.heap.size → w'.heap[k]? = w.heap[k]? ∧ ok' t k) → BR C w' ok' (.ar e (ty e).size (xs ++ ys)) v' := by
    intro v xs e1 hbr ⟨_, hyes, hmax, hbytes, _⟩
    obtain ⟨_, hxes, cs, hown, hrd⟩ := hbr
    have hxy : ∀ q ∈ xs ++ ys, q.length = (ty e).size := fun q hq => by
      rcases List.mem_append.1 hq with hq | hq
      · exact hxes q hq
      · exact hyes q hq
    cases A with
    | none =>
      obtain ⟨rfl, rfl⟩ := hnone rfl
      have hr := run_append_owned_none (P := P) w C.n0 t o.type e i (ty e).size hu hi v xs.length cs hown
      refine ⟨v, w, ?_, ⟨rfl, rfl, rfl, Nat.le_refl _, fun _ _ _ => rfl⟩, .inl rfl, fun ok' hok => ?_⟩
      · unfold execOp
        rw [hop]
        simp [resolve, invoke, builtin, e1, e2, hr]
      · rw [List.append_nil]
        exact ⟨hes, hxes, cs, hown, hrd.mono (Nat.le_refl _) hok⟩
    | some ad =>
      obtain ⟨hspot, sz, hsz2, hcell⟩ := hsome ad rfl
      have hcell' : ∀ (q : Nat) dd, ys.flatten[q]? = some dd → ∃ c, w.cell? (ad.add q) = some c ∧ RD w (C.ok S.b ρ) dd c := fun q dd hq => by
        obtain ⟨ii, j, zz, h1, h2, h3⟩ := flat_inv ys q dd hyes hq
        have hne : ys ≠ [] := by rintro rfl; simp at h1
        have : sz = (ty e).size := (hsz2 ii zz h1).symm.trans (hyes zz (List.mem_of_getElem? h1))
        subst this
        obtain ⟨c, h4, h5⟩ := hcell ii j zz dd h1 h2
        exact ⟨c, by rw [addr_add (hspot hne), h3, ← Nat.add_assoc]; exact h4, h5⟩
      obtain ⟨news, hnl, hn⟩ : ∃ news : List Value, news.length = ys.flatten.length ∧ ∀ (q : Nat) dd, ys.flatten[q]? = some dd → ∃ c, news[q]? = some c ∧ w.cell? (ad.add q) = some c ∧ RD w (C.ok S.b ρ) dd c := by
        refine ⟨(List.range ys.flatten.length).map fun q => (w.cell? (ad.add q)).getD undef, by simp, fun q dd hq => ?_⟩
        obtain ⟨c, h1, h2⟩ := hcell' q dd hq
        have hlt : q < ys.flatten.length := (List.getElem?_eq_some_iff.1 hq).1
        exact ⟨c, by rw [List.getElem?_map, List.getElem?_range hlt]; simp [h1], h1, h2⟩
      have hnews : RDs w (C.ok S.b ρ) ys.flatten news := RDs.of hnl fun q dd c h1 h2 => by
        obtain ⟨c', h3, _, h4⟩ := hn q dd h1
        rw [h2] at h3
        cases h3
        exact h4
      obtain ⟨v', w', hr, hown', hgr, _, hblk⟩ := run_append_own_at (P := P) w C.n0 t o.type e i z (ty e).size (ty e).bytes hu hi hz hsz hby hzs hes v xs.length cs hown ad ys.length cap news
        (by rw [hnl, flat_len ys hyes]) (fun q u hq => by
          have hlt : q < ys.flatten.length := by rw [← hnl]; exact (List.getElem?_eq_some_iff.1 hq).1
          obtain ⟨c, h1, h2, _⟩ := hn q _ (List.getElem?_eq_getElem hlt)
          rw [hq] at h1
          cases h1
          exact h2) hnews.one hmax hbytes g.size_le
      have hb1 := own_blk hown
      have hb2 := own_blk hown'
      refine ⟨v', w', ?_, by rw [hb1]; exact hgr, by rw [hb1, hb2]; exact hblk, fun ok' hok => ⟨hes, hxy, cs ++ news, ?_, ?_⟩⟩
      · unfold execOp
        rw [hop]
        simp [resolve, invoke, builtin, e1, e2, hr]
      · rw [List.length_append]; exact hown'
      · rw [List.flatten_append]
        exact (hrd.app hnews).mono hgr.size hok
  split at h
  · rename_i sz hxe
    rw [hxe] at hx
    have e1 : a.eval x = .slice none 0 0 := by
      have hx' : RD w (C.ok S.b ρ) (.sl 3 sz []) (a.eval x) := hx
      generalize a.eval x = u at hx'
      cases hx' with
      | nil => rfl
      | sl _ _ _ _ _ _ ht => exact (ht rfl).elim
    obtain ⟨h1, h2, h3, h4, h5⟩ := h
    obtain ⟨v', w', hr, hgr, hblk, hbr⟩ := main _ [] e1 ⟨hes, by simp, [], World.ownsRow_nil w C.n0 e _, trivial⟩ ⟨h1, h2, h3, h4, trivial⟩
    have hbl : Below w.heap.size w w' := ⟨hgr.os, hgr.tape, hgr.output, hgr.size, fun k hk => hgr.block k hk (by simp [blkOf])⟩
    have hbk : ∀ k, blkOf v' = some k → w.heap.size ≤ k := fun k hk => by
      rcases hblk with hb | hb
      · rw [hb] at hk; cases hk
      · rw [hb] at hk; cases hk; exact Nat.le_refl _
    refine ⟨_, h5, _, v', w', upd ρ d v', hr, .inl rfl, g.new hno hbl hbk (hbr _ (new_ok hbl hbk)), by simp [setB, upd_same], by rw [upd_same]⟩
  · rename_i s hxe
    rw [hxe] at hx
    split at h
    · rename_i e' es' xs hs
      obtain ⟨_, e1⟩ := hx
      have hb := g.blocks s
      rw [hs] at hb
      cases hck : (Nat.beq e' e && Nat.beq es' (ty e).size) with
      | false => rw [hck] at h; exact h.elim
      | true =>
        rw [hck] at h
        simp only [Bool.and_eq_true] at hck
        have q1 := Nat.eq_of_beq_eq_true hck.1
        have q2 := Nat.eq_of_beq_eq_true hck.2
        subst q1
        subst q2
        obtain ⟨h1, h2, h3, h4, h5⟩ := h
        have hl : (S.b s).live := by rw [hs]; trivial
        obtain ⟨v', w', hr, hgr, hblk, hbr⟩ := main _ xs e1 hb ⟨h1, h2, h3, h4, trivial⟩
        exact ⟨_, h5, _, v', w', upd ρ d v', hr, .inl rfl, g.moved hl hno (by exact trivial) hgr hblk (hbr _ (moved_ok g hl hno hgr hblk)), by simp [setB, upd_same], by rw [upd_same]⟩
    · exact h.elim
  · exact h.elim
end
end Go.Proofs.YtpmlocilhhjifaaGreat.Eng
end
section
set_option linter.unusedSimpArgs false
set_option linter.unusedVariables false
namespace Go.Proofs.YtpmlocilhhjifaaGreat.Eng
open Go.RowKit
section
variable {P : Program} {ty : Nat → TI} {T : Nat → List DV → List DV → Prop} {C : Ctx} {S : AS} {ρ : Nat → Value} {a : Act} {w : World}

theorem asI_ok {ok : Nat → Nat → Prop} {b : Nat → BE} {x : AT} {v : Value} (hx : AR w ok b ρ x v) {n : Int} (h : asI x = some n) : ∃ k, v = .int k n := by
  unfold asI at h
  split at h
  · cases h; exact ⟨_, RD.sc_inv hx⟩
  · cases h
theorem replicate_flat {es : Nat} {zs : List D} {vs : List Value} {ok : Nat → Nat → Prop} (h : RDs w ok zs vs) : ∀ n, RDs w ok (List.replicate n zs).flatten (List.replicate n vs).flatten
  | 0 => trivial
  | n + 1 => by simp only [List.replicate_succ, List.flatten_cons]; exact h.app (replicate_flat (es := es) h n)
theorem madeCells_eq (z : Array Value) (hz : 0 < z.size) (n : Nat) : (madeCells z (n * z.size)).toList = (List.replicate n z.toList).flatten := by
  apply List.ext_getElem?
  intro q
  have hf : ∀ n : Nat, ∀ q, (List.replicate n z.toList).flatten[q]? = if q < n * z.size then some z[q % z.size]! else none := by
    intro n
    induction n with
    | zero => intro q; simp
    | succ n ih =>
      intro q
      simp only [List.replicate_succ, List.flatten_cons]
      by_cases hq : q < z.size
      · rw [List.getElem?_append_left (by simpa using hq), if_pos (by rw [Nat.succ_mul]; omega), Nat.mod_eq_of_lt hq]
        simp [hq]
      · rw [List.getElem?_append_right (by simp; omega), ih]
        simp only [Array.length_toList]
        have e1 : (q - z.size) % z.size = q % z.size := by rw [← Nat.mod_eq_sub_mod (by omega)]
        rw [e1]
        by_cases h2 : q < (n + 1) * z.size
        · rw [if_pos h2, if_pos (by rw [Nat.succ_mul] at h2; omega)]
        · rw [if_neg h2, if_neg (by rw [Nat.succ_mul] at h2; omega)]
  rw [hf]
  unfold madeCells
  by_cases hq : q < n * z.size
  · simp [hq]
  · simp [hq]
theorem zero_cells {t : Nat} (hte : TyOk P ty t) {i : TypeInfo} {z : Value} (hz : ∀ w ok, RV w ok (match (ty t).agg with | true => .ag (ty t).zero | false => .one ((ty t).zero.headD (.sc undef))) z) (ok : Nat → Nat → Prop) :
    RDs w ok (ty t).zero z.cells.toList ∧ z.cells.size = (ty t).size := by
  have := (hz w ok).cells
  have hl := hte.zero.1
  have key : RDs w ok (ty t).zero z.cells.toList := by
    cases hag : (ty t).agg with
    | true => rw [hag] at this; exact this
    | false =>
      rw [hag] at this
      have h1 := hte.zero.2 hag
      cases hq : (ty t).zero with
      | nil => rw [hq, h1] at hl; cases hl
      | cons x r =>
        rw [hq] at this
        rw [hq, h1] at hl
        have : r = [] := List.eq_nil_of_length_eq_zero (by simpa using hl)
        subst this
        assumption
  exact ⟨key, by rw [← hl, ← key.length]; simp⟩
theorem mks_ok (hW : World1 P ty T) (g : Gam C S ρ a w) {o : Oper} {t : Nat} {x y : Operand} (hop : o.op = .makeSlice t x y) {K : Eff → Prop}
    (h : match elem? ty t, asI (ev ty S 3 x), asI (ev ty S 3 y) with
      | some e, some n, some c => anew S o.dst fun d => (real T).mks (ty e).bytes n c (ty e).zero fun xs => K ⟨.ow d, [(d, .ar e (ty e).size xs)], []⟩
      | _, _, _ => False) : ∃ E, K E ∧ Done P C S a w o E := by
  split at h
  · rename_i e n c he hn hc
    obtain ⟨kl, e1⟩ := asI_ok (ev_ok (ty := ty) g 3 x) hn
    obtain ⟨kc, e2⟩ := asI_ok (ev_ok (ty := ty) g 3 y) hc
    obtain ⟨d, hd, hno, h⟩ := anew_ok h
    obtain ⟨k, rfl, rfl, h1, h2, h3, h⟩ := h
    obtain ⟨hu, hes, hte⟩ := run_underlying_slc hW he
    obtain ⟨i, z, hi, hsz, hby, hz, hzero⟩ := hte.info
    obtain ⟨hzd, hzs⟩ := zero_cells (w := w) hte (i := i) hzero (C.ok S.b ρ)
    obtain ⟨w', hr, hown, hgr⟩ := run_make_full (P := P) w C.n0 t e i z (ty e).size hu hi hz hsz kl kc k (by rw [hby]; exact h1) h2 g.size_le
    have hbl : Below w.heap.size w w' := ⟨hgr.os, hgr.tape, hgr.output, hgr.size, fun k hk => hgr.block k hk (by simp)⟩
    have hbk : ∀ j, blkOf (.slice (some (⟨w.heap.size, 0, none⟩ : Addr)) k k) = some j → w.heap.size ≤ j := fun j hj => by cases hj; exact Nat.le_refl _
    have hcs : (madeCells z.cells (k * (ty e).size)).toList = (List.replicate k z.cells.toList).flatten := by
      have := madeCells_eq z.cells (by omega) k
      rwa [hzs] at this
    rw [hcs] at hown
    refine ⟨_, h, arr_done g hno hes (fun q hq => by rw [(List.mem_replicate.1 hq).2]; exact hte.zero.1) hbl hbk (cs := (List.replicate k z.cells.toList).flatten) (by rw [List.length_replicate]; exact hown) ?_ ?_ []⟩
    · exact (replicate_flat (es := 0) hzd k).mono hgr.size (new_ok hbl hbk)
    · unfold execOp
      rw [hop]
      simp [e1, e2, hr]
  · exact h.elim
theorem foldl_set (off : Nat) : ∀ (cs : List Value) (k : Nat) (arr : Array Value), off + k + cs.length ≤ arr.size →
    ((cs.zipIdx k).foldl (fun (r : Array Value) (x : Value × Nat) => r.setIfInBounds (off + x.2) x.1) arr).toList = arr.toList.take (off + k) ++ cs ++ arr.toList.drop (off + k + cs.length)
  | [], k, arr, h => by simp
  | c :: cs, k, arr, h => by
    simp only [List.length_cons] at h
    simp only [List.zipIdx_cons, List.foldl_cons]
    rw [foldl_set off cs (k + 1) _ (by simp; omega)]
    apply List.ext_getElem?
    intro p
    simp only [List.getElem?_append, List.length_append, List.length_take, List.getElem?_take, List.getElem?_drop, Array.toList_setIfInBounds, List.length_set, Array.length_toList, Array.size_setIfInBounds, List.length_cons, List.getElem?_set]
    grind
/-- Parts laid into cells. -/
theorem fill_ok {ok : Nat → Nat → Prop} (pl : Nat → Option (Nat × Nat)) : ∀ (is : List Nat) (ds : List DV) (vs : List Value) (zs zs' : List D) (arr : Array Value), is.length = ds.length → RVs w ok ds vs → RDs w ok zs arr.toList →
    buildP pl (is.zip ds) zs = some zs' → ∃ arr', Instr.fill pl arr (is.zip vs) = some arr' ∧ RDs w ok zs' arr'.toList
  | [], ds, vs, zs, zs', arr, _, _, hz, h => by
    simp only [List.zip_nil_left, buildP, Option.some.injEq] at h
    subst h
    exact ⟨arr, rfl, hz⟩
  | i :: is, [], vs, zs, zs', arr, h, _, _, _ => by simp at h
  | i :: is, d :: ds, [], zs, zs', arr, _, h, _, _ => h.elim
  | i :: is, d :: ds, v :: vs, zs, zs', arr, hl, hv, hz, h => by
    simp only [List.zip_cons_cons, buildP] at h
    cases hp : pl i with
    | none => rw [hp] at h; cases h
    | some q =>
      obtain ⟨off, n⟩ := q
      rw [hp] at h
      simp only at h
      cases hc : (Nat.beq d.cells.length n && Nat.ble (off + n) zs.length) with
      | false => rw [hc] at h; cases h
      | true =>
        rw [hc] at h
        simp only [Bool.and_eq_true] at hc
        simp only [cond_true] at h
        have c1 := Nat.eq_of_beq_eq_true hc.1
        have c2 := Nat.le_of_ble_eq_true hc.2
        have hcl := hv.1.cells.length
        have hzl := hz.length
        have hvs : v.cells.size = n := by rw [← c1, ← hcl]; simp
        have has : arr.size = zs.length := by rw [← hzl]; simp
        simp only [List.zip_cons_cons, Instr.fill, hp]
        rw [if_neg (by simp [hvs, has]; omega)]
        have e1 : (v.cells.zipIdx.foldl (fun (cs : Array Value) (x : Value × Nat) => cs.setIfInBounds (off + x.2) x.1) arr).toList = arr.toList.take off ++ v.cells.toList ++ arr.toList.drop (off + v.cells.toList.length) := by
          rw [← Array.foldl_toList, Array.toList_zipIdx]
          have := foldl_set off v.cells.toList 0 arr (by simp [hvs, has]; omega)
          simpa using this
        have hz' : RDs w ok (fillL zs off d.cells) (v.cells.zipIdx.foldl (fun (cs : Array Value) (x : Value × Nat) => cs.setIfInBounds (off + x.2) x.1) arr).toList := by
          rw [e1]
          exact hz.fill hv.1.cells off
        exact fill_ok pl is ds vs _ zs' _ (by simpa using hl) hv.2 hz' h
theorem rows_fill {es : Nat} : ∀ (ds : List DV) (k : Nat) (pre rest : List D), (∀ d ∈ ds, d.cells.length = es) → pre.length = k * es → rest.length = ds.length * es →
    buildP (fun i => some (i * es, es)) ((List.range' k ds.length).zip ds) (pre ++ rest) = some (pre ++ (ds.map DV.cells).flatten)
  | [], k, pre, rest, _, _, h => by
    have : rest = [] := List.eq_nil_of_length_eq_zero (by simpa using h)
    subst this
    simp [buildP]
  | d :: ds, k, pre, rest, hd, hp, hr => by
    have h1 := hd d (by simp)
    simp only [List.length_cons, Nat.succ_mul] at hr
    have c1 : Nat.beq d.cells.length es = true := by rw [h1]; exact Nat.beq_refl _
    have c2 : Nat.ble (k * es + es) (pre ++ rest).length = true := Nat.ble_eq_true_of_le (by simp; omega)
    simp only [List.length_cons, List.range'_succ, List.zip_cons_cons, buildP, c1, c2, Bool.and_self, cond_true]
    have e1 : fillL (pre ++ rest) (k * es) d.cells = (pre ++ d.cells) ++ rest.drop es := by
      unfold fillL
      rw [← hp, List.take_append_of_le_length (Nat.le_refl _), List.take_of_length_le (Nat.le_refl _), h1, List.drop_length_add_append]
    rw [e1, rows_fill ds (k + 1) (pre ++ d.cells) (rest.drop es) (fun q hq => hd q (by simp [hq])) (by simp [hp, h1, Nat.succ_mul]) (by simp; omega)]
    simp [List.append_assoc]
theorem idxOk_eq : ∀ (l : List (Nat × Operand)) (k : Nat), idxOk l k = true → l.map (·.1) = List.range' k l.length
  | [], _, _ => rfl
  | (i, x) :: l, k, h => by
    simp only [idxOk, Bool.and_eq_true] at h
    have := Nat.eq_of_beq_eq_true h.1
    subst this
    simp [List.range'_succ, idxOk_eq l _ h.2]
theorem zip_map_eval (l : List (Nat × Operand)) : (l.map (·.1)).zip (l.map fun q => a.eval q.2) = l.map fun q => (q.1, a.eval q.2) := by
  induction l with
  | nil => rfl
  | cons q l ih => simp [ih]
theorem RVs.len_map {ok : Nat → Nat → Prop} {ds : List DV} {l : List (Nat × Operand)} {f : Nat × Operand → Value} (h : RVs w ok ds (l.map f)) : ds.length = l.length := by have := h.length; simpa using this.symm

theorem nth_eq {α : Type} : ∀ (l : List α) (j : Nat), nth l j = l[j]?
  | [], _ => by simp [nth]
  | _ :: _, 0 => rfl
  | _ :: l, j + 1 => by simp [nth, nth_eq l j]
theorem places_ok (hW : World1 P ty T) : ∀ (F : List Field) (fs : List (Nat × Nat × Nat)), F.length = fs.length →
    (∀ (j : Nat) f q, F[j]? = some f → fs[j]? = some q → f.offset = q.1 ∧ f.type = q.2.2 ∧ (ty q.2.2).size = q.2.1 ∧ 0 < q.2.1) →
    F.mapM (fun f => (P.info? f.type).map fun i => (f.offset, i.size)) = some (fs.map fun q => (q.1, q.2.1))
  | [], [], _, _ => rfl
  | [], _ :: _, h, _ => by simp at h
  | _ :: _, [], h, _ => by simp at h
  | f :: F, q :: fs, h, hf => by
    obtain ⟨h1, h2, h3, h4⟩ := hf 0 f q rfl rfl
    obtain ⟨i, z, hi, hsz, _⟩ := (hW.types q.2.2 (by omega)).info
    have ih := places_ok hW F fs (by simpa using h) (fun j f' q' a1 a2 => hf (j + 1) f' q' (by simpa using a1) (by simpa using a2))
    rw [List.mapM_cons, ih, h2, hi]
    simp [h1, hsz, h3]
theorem build_ok (hW : World1 P ty T) (g : Gam C S ρ a w) {o : Oper} {t : Nat} {ps : Array (Nat × Operand)} (hop : o.op = .build t ps) {K : Eff → Prop}
    (h : match (ty t).kd with
      | .st _ => gdvs ty S (ps.toList.map fun q => (((field? ty t q.1).map (·.2.2)).getD 0, q.2)) fun ds k r =>
        match buildL ty t ((ps.toList.map (·.1)).zip ds) (ty t).zero with
        | some cs => K ⟨.v (.ag cs), k, r⟩
        | none => False
      | _ => False) : ∃ E, K E ∧ Done P C S a w o E := by
  split at h
  case h_2 => exact h.elim
  rename_i fs hkd
  have ht := hW.types t (hW.known t (by rw [hkd]; simp))
  have hst := ht.kd
  rw [hkd] at hst
  obtain ⟨F, hu, hFl, hF⟩ := hst
  obtain ⟨ds, k, r, h, g1, hds, hno, hok⟩ := gdvs_ok _ g h
  split at h
  case h_2 => exact h.elim
  rename_i cs hcs
  obtain ⟨i, z, hi, hsz, hby, hz, hzero⟩ := ht.info
  obtain ⟨hzd, hzs⟩ := zero_cells (w := w) ht (i := i) hzero (C.ok (setB S.b k) ρ)
  have hds' : RVs w (C.ok (setB S.b k) ρ) ds (ps.toList.map fun q => a.eval q.2) := by simpa [List.map_map, Function.comp_def] using hds
  have hlen := RVs.len_map hds'
  have hpl := places_ok hW F.toList fs hFl (fun j f q h1 h2 => hF j f q (by simpa using h1) h2)
  have hfield : ∀ j, ((fs.map fun q => (q.1, q.2.1)).toArray[j]? : Option (Nat × Nat)) = (match field? ty t j with | some (off, n, _) => some (off, n) | none => none) := fun j => by
    unfold field?
    rw [hkd]
    simp only [List.getElem?_toArray, List.getElem?_map, nth_eq]
    cases fs[j]? with
    | none => rfl
    | some q => rfl
  obtain ⟨arr, hfill, harr⟩ := fill_ok (w := w) (fun j => ((fs.map fun q => (q.1, q.2.1)).toArray[j]? : Option (Nat × Nat))) (ps.toList.map (·.1)) ds (ps.toList.map fun q => a.eval q.2) (ty t).zero cs z.cells (by simp [hlen]) hds' hzd (by
    have : (fun j => ((fs.map fun q => (q.1, q.2.1)).toArray[j]? : Option (Nat × Nat))) = fun j => match field? ty t j with | some (off, n, _) => some (off, n) | none => none := funext hfield
    rw [this]; exact hcs)
  refine ⟨_, h, ?_⟩
  refine ⟨_, .agg arr, w, ρ, ?_, .inl rfl, g1, arr, rfl, harr⟩
  rw [zip_map_eval] at hfill
  have hbuilt : P.built t (ps.map fun x => match x with | (i, x) => (i, a.eval x)).toList = some arr := by
    have : (ps.map fun x => match x with | (i, x) => (i, a.eval x)).toList = ps.toList.map fun q => (q.1, a.eval q.2) := by simp
    rw [this]
    unfold Program.built
    rw [hi, hu]
    simp only [hz, hpl]
    exact hfill
  have := run_build (P := P) w t _ arr hbuilt
  unfold execOp
  rw [hop]
  simp only [Sem.run_bind, this, Result.andThen]
  rfl
end
end Go.Proofs.YtpmlocilhhjifaaGreat.Eng
end
section
set_option linter.unusedSimpArgs false
set_option linter.unusedVariables false
namespace Go.Proofs.YtpmlocilhhjifaaGreat.Eng
open Go.RowKit
section
variable {P : Program} {ty : Nat → TI} {T : Nat → List DV → List DV → Prop} {C : Ctx} {S : AS} {ρ : Nat → Value} {a : Act} {w : World}

theorem buildSlice_ok (hW : World1 P ty T) (g : Gam C S ρ a w) {o : Oper} {t n : Nat} {ps : Array (Nat × Operand)} (hop : o.op = .buildSlice t n ps) {K : Eff → Prop}
    (h : match elem? ty t with
    | some e => bif Nat.beq n ps.size && idxOk ps.toList 0 && Nat.ble n 1000 && Nat.ble (ty e).size 1000 then gdvs ty S (ps.toList.map fun q => (e, q.2)) fun ds k r => anew S o.dst fun d =>
        bif (ds.all fun x => Nat.beq x.cells.length (ty e).size) then K ⟨.ow d, k ++ [(d, .ar e (ty e).size (ds.map DV.cells))], r⟩ else False
      else False
    | none => False) : ∃ E, K E ∧ Done P C S a w o E := by
  split at h
  case h_2 => exact h.elim
  rename_i e he
  obtain ⟨hu, hes, hte⟩ := run_underlying_slc hW he
  cases hc : (Nat.beq n ps.size && idxOk ps.toList 0 && Nat.ble n 1000 && Nat.ble (ty e).size 1000) with
  | false => rw [hc] at h; exact h.elim
  | true =>
    rw [hc] at h
    simp only [cond_true] at h
    simp only [Bool.and_eq_true] at hc
    obtain ⟨⟨⟨c1, c2⟩, c3⟩, c4⟩ := hc
    have c1 := Nat.eq_of_beq_eq_true c1
    have c2 := idxOk_eq _ _ c2
    have c3 := Nat.le_of_ble_eq_true c3
    have c4 := Nat.le_of_ble_eq_true c4
    obtain ⟨ds, k, r, h, g1, hds, hno1, hok⟩ := gdvs_ok _ g h
    obtain ⟨d, hd, hno, h⟩ := anew_ok h
    cases hal : (ds.all fun x => Nat.beq x.cells.length (ty e).size) with
    | false => rw [hal] at h; exact h.elim
    | true =>
      rw [hal] at h
      simp only [cond_true] at h
      have hrow : ∀ x ∈ ds, x.cells.length = (ty e).size := fun x hx => Nat.eq_of_beq_eq_true (List.all_eq_true.1 hal x hx)
      have hds' : RVs w (C.ok (setB S.b k) ρ) ds (ps.toList.map fun q => a.eval q.2) := by simpa [List.map_map, Function.comp_def] using hds
      have hlen := RVs.len_map hds'
      have hn : ds.length = n := by rw [hlen, c1]; simp
      obtain ⟨i, z, hi, hsz, hby, hz, hzero⟩ := hte.info
      obtain ⟨hzd, hzs⟩ := zero_cells (w := w) hte (i := i) hzero (C.ok (setB S.b k) ρ)
      have hmade : (madeCells z.cells (n * (ty e).size)).toList = (List.replicate n z.cells.toList).flatten := by
        have := madeCells_eq z.cells (by omega) n
        rwa [hzs] at this
      have hrd0 : RDs w (C.ok (setB S.b k) ρ) (List.replicate n (ty e).zero).flatten (madeCells z.cells (n * (ty e).size)).toList := by
        rw [hmade]; exact replicate_flat (es := 0) hzd n
      have hrf := rows_fill (es := (ty e).size) ds 0 [] (List.replicate n (ty e).zero).flatten hrow (by simp) (by
        rw [flat_len (es := (ty e).size) _ (fun x hx => by rw [(List.mem_replicate.1 hx).2]; exact hte.zero.1)]; simp [hn])
      obtain ⟨arr, hfill, harr⟩ := fill_ok (w := w) (fun i => some (i * (ty e).size, (ty e).size)) (ps.toList.map (·.1)) ds (ps.toList.map fun q => a.eval q.2) _ _ (madeCells z.cells (n * (ty e).size)) (by simp [hlen]) hds' hrd0 (by
        rw [c2, ← hlen]; simpa using hrf)
      rw [zip_map_eval] at hfill
      have hsz2 : arr.size = n * (ty e).size := by
        have h1 := harr.length
        rw [flat_len (es := (ty e).size) _ (fun x hx => by obtain ⟨y, hy, rfl⟩ := List.mem_map.1 hx; exact hrow y hy)] at h1
        simpa [hn] using h1
      have hb : Below w.heap.size w (w.alloc (.cells arr e (0, 0))) := (Below.refl _ w).alloc (Nat.le_refl _) _
      have hbk : ∀ j, blkOf (.slice (some (⟨w.heap.size, 0, none⟩ : Addr)) n n) = some j → w.heap.size ≤ j := fun j hj => by cases hj; exact Nat.le_refl _
      have hown := World.ownsRow_lit (base := C.n0) (e := e) (size := (ty e).size) w arr n g.size_le (by unfold maxLen; omega) hsz2
      have hrun : (execOp a.eval o).run P w = .ok (.value (.slice (some ⟨w.heap.size, 0, none⟩) n n)) (w.alloc (.cells arr e (0, 0))) := by
        unfold execOp
        rw [hop]
        have hps : (ps.map fun x => match x with | (i, x) => (i, a.eval x)).toList = ps.toList.map fun q => (q.1, a.eval q.2) := by simp
        have hnn : n * (ty e).size ≤ 16777216 := by
          have : n * (ty e).size ≤ 1000 * 1000 := Nat.mul_le_mul c3 c4
          omega
        have hnn' : ¬ (16777216 < n * (ty e).size) := by omega
        by_cases h0 : n * (ty e).size = 0
        · have : madeCells z.cells (n * (ty e).size) = #[] := by rw [h0]; simp [madeCells]
          rw [this] at hfill
          rcases Nat.mul_eq_zero.1 h0 with h00 | h00
          · have hr0 : (Array.range 0 : Array Nat) = #[] := by simp
            simp [Instr.buildSlice, run_underlying hu, run_size hte, h00, hps, hfill, newRow, hr0]
          · omega
        · have hn0 : ¬ n = 0 := by rintro rfl; simp at h0
          have hs0 : ¬ (ty e).size = 0 := by omega
          unfold madeCells at hfill
          simp [Instr.buildSlice, run_underlying hu, run_size hte, hnn', h0, zeroValue, typeInfo, hi, hz, hps, hfill, newRow]
      have := arr_done (S := { t := S.t, b := setB S.b k }) g1 (o := o) (hno1 d hno) (e := e) (es := (ty e).size) (xs := ds.map DV.cells) hes (fun x hx => by obtain ⟨y, hy, rfl⟩ := List.mem_map.1 hx; exact hrow y hy) hb hbk
        (by rw [List.length_map, hn]; exact hown) ((show RDs w _ _ _ from by simpa using harr).mono hb.size (new_ok hb hbk)) hrun r
      obtain ⟨nn, v, w', ρ', h1, h2, h3, h4⟩ := this
      exact ⟨_, h, nn, v, w', ρ', h1, h2, by rw [setB_append]; exact h3, by rw [setB_append]; exact h4⟩
theorem optI_ok (g : Gam C S ρ a w) {x : Option Operand} {K : Option Int → Prop} (h : optI ty S x K) : (x = none ∧ K none) ∨ ∃ o n k, x = some o ∧ K (some n) ∧ a.eval o = .int k n := by
  unfold optI at h
  split at h
  · exact .inl ⟨rfl, h⟩
  · rename_i o
    split at h
    · rename_i n hn
      obtain ⟨k, e⟩ := asI_ok (ev_ok (ty := ty) g 3 o) hn
      exact .inr ⟨o, n, k, rfl, h, e⟩
    · exact h.elim
theorem bounds_ok {isS : Bool} {len cap : Nat} {lo hi : Option Operand} {l h : Nat} {lI hI : Option Int} (hlo : (lo = none ∧ lI = none) ∨ ∃ o n k, lo = some o ∧ lI = some n ∧ a.eval o = .int k n)
    (hhi : (hi = none ∧ hI = none) ∨ ∃ o n k, hi = some o ∧ hI = some n ∧ a.eval o = .int k n) (h1 : loOk lI l) (h2 : hiOk hI len h) (h3 : l ≤ h) (h4 : h ≤ len) (h5 : len ≤ cap) :
    (Instr.sliceBounds isS len cap (lo.map a.eval) (hi.map a.eval) none).run P w = .ok (l, h, cap) w := by
  have sb : ∀ (k : IntKind) (n y : Nat) (code : BoundsCode), n ≤ y → (Instr.sliceBound (.int k (n : Int)) y code).run P w = .ok n w := fun k n y code hn => by
    have : (0 : Int) ≤ n ∧ (n : Int) ≤ y := ⟨by omega, by omega⟩
    simp only [Instr.sliceBound, asIntOf, Sem.run_bind, Sem.run_pure, Result.andThen]
    rw [if_pos this]
    simp
  rcases hlo with ⟨rfl, rfl⟩ | ⟨ol, nl, kl, rfl, rfl, el⟩ <;> rcases hhi with ⟨rfl, rfl⟩ | ⟨oh, nh, kh, rfl, rfl, eh⟩ <;> simp only [loOk, hiOk] at h1 h2 <;> subst h1 <;> subst h2
  · simp [Instr.sliceBounds]
  · simp [Instr.sliceBounds, eh, sb kh h cap _ (by omega)]
  · simp [Instr.sliceBounds, el, sb kl l _ _ h3]
  · simp [Instr.sliceBounds, el, eh, sb kh h cap _ (by omega), sb kl l h _ h3]
theorem str_slice_ok (hW : World1 P ty T) (g : Gam C S ρ a w) {o : Oper} {t : Nat} {x : Operand} {lo hi : Option Operand} (hop : o.op = .slice t x lo hi none) {K : Eff → Prop}
    (h : match (ty t).kd with
    | .str => match ev ty S t x with
      | .v (.one (.sc (.string s))) => optI ty S lo fun l => optI ty S hi fun h => (real T).ssli s l h fun s' => K ⟨.v (.one (.sc (.string s'))), [], []⟩
      | _ => False
    | .slc e => gdv S (ev ty S t x) fun d k r => match d with
      | .one (.sl tg sz xs) => bif Nat.beq sz (ty e).size then optI ty S lo fun l => optI ty S hi fun h => (real T).sli xs l h fun ys => K ⟨.v (.one (.sl tg sz ys)), k, r⟩ else False
      | _ => False
    | _ => False) : ∃ E, K E ∧ Done P C S a w o E := by
  have hx := ev_ok (ty := ty) g t x
  split at h
  · rename_i hkd
    have hu := str_of hW hkd
    split at h
    · rename_i s he
      rw [he] at hx
      have e1 : a.eval x = .string s := RD.sc_inv hx
      rcases optI_ok g h with ⟨q1, h⟩ | ⟨ol, nl, kl, q1, h, el⟩ <;> rcases optI_ok g h with ⟨q2, h⟩ | ⟨oh, nh, kh, q2, h, eh⟩ <;> obtain ⟨l, hh, b1, b2, b3, b4, h⟩ := h <;>
        refine ⟨_, h, Done.pure (v := .string (s.extract l hh)) g ?_ (RD.sc _ rfl)⟩
      all_goals
        have hb := bounds_ok (P := P) (w := w) (a := a) (isS := false) (cap := s.size) (lo := lo) (hi := hi) (by first | exact .inl ⟨q1, rfl⟩ | exact .inr ⟨_, _, _, q1, rfl, el⟩) (by first | exact .inl ⟨q2, rfl⟩ | exact .inr ⟨_, _, _, q2, rfl, eh⟩) b1 b2 b3 b4 (Nat.le_refl _)
        unfold execOp
        rw [hop]
        simp [Instr.sliceAt, Instr.slice, run_underlying hu, e1, hb]
    · exact h.elim
  · rename_i e hkd
    obtain ⟨hu, hes, hte⟩ := slc_of hW hkd
    obtain ⟨d, k, r, h, g1, hd, hkf⟩ := gdv_ok g hx h
    split at h
    · rename_i tg sz xs
      cases hsz : Nat.beq sz (ty e).size with
      | false => rw [hsz] at h; exact h.elim
      | true =>
        rw [hsz] at h
        simp only [cond_true] at h
        have hsz := Nat.eq_of_beq_eq_true hsz
        subst hsz
        -- the value, and a part of it
        have main : ∀ (lI hI : Option Int) (l hh : Nat), ((lo = none ∧ lI = none) ∨ ∃ o n k, lo = some o ∧ lI = some n ∧ a.eval o = .int k n) → ((hi = none ∧ hI = none) ∨ ∃ o n k, hi = some o ∧ hI = some n ∧ a.eval o = .int k n) →
            loOk lI l → hiOk hI xs.length hh → l ≤ hh → hh ≤ xs.length → Done P C S a w o ⟨.v (.one (.sl tg (ty e).size ((xs.take hh).drop l))), k, r⟩ := by
          intro lI hI l hh c1 c2 c3 c4 c5 c6
          have hd' : RD w (C.ok (setB S.b k) ρ) (.sl tg (ty e).size xs) (a.eval x) := hd
          revert hd'
          generalize hvx : a.eval x = vx
          intro hd'
          cases hd' with
          | nil =>
            have hh0 : hh = 0 := by simpa using c6
            have hl0 : l = 0 := by omega
            subst hh0
            subst hl0
            have hb := bounds_ok (P := P) (w := w) (a := a) (isS := true) (len := 0) (cap := 0) c1 c2 c3 c4 c5 c6 (Nat.le_refl _)
            refine ⟨_, .slice none 0 0, w, ρ, ?_, .inl rfl, g1, RD.nil _ _⟩
            unfold execOp
            rw [hop]
            simp [Instr.sliceAt, Instr.slice, run_underlying hu, hvx, hb, run_size hte]
          | sl _ _ _ ad cap cs ht h1 h2 h3 h4 h5 h6 =>
            have hb := bounds_ok (P := P) (w := w) (a := a) (isS := true) (len := xs.length) (cap := cap) c1 c2 c3 c4 c5 c6 h2
            refine ⟨_, .slice (some (if cap = l then ad else ad.add (l * (ty e).size))) (hh - l) (cap - l), w, ρ, ?_, .inl rfl, g1, ?_⟩
            · unfold execOp
              rw [hop]
              simp only [Instr.sliceAt, Instr.slice, Sem.run_bind, run_underlying hu, hvx, hb, run_size hte, Result.andThen]
              by_cases hcl : cap = l
              · subst hcl; simp [hb]
              · simp [hcl, hb]
            · have hlen : ((xs.take hh).drop l).length = hh - l := by simp; omega
              show RD w (C.ok (setB S.b k) ρ) (.sl tg (ty e).size ((xs.take hh).drop l)) _
              rw [← hlen]
              have hget : ∀ (i : Nat) z, ((xs.take hh).drop l)[i]? = some z → xs[l + i]? = some z := fun i z hz => by
                rw [List.getElem?_drop, List.getElem?_take] at hz
                split at hz
                · exact hz
                · cases hz
              refine .sl tg (ty e).size _ _ (cap - l) (fun i j => cs (l + i) j) ht (fun hne => ?_) (by omega) (by omega) (fun i z hz => h4 _ z (hget i z hz)) (fun i j z dd hz hj => ?_) (fun i j z dd hz hj => h6 _ j z dd (hget i z hz) hj)
              · have hxne : xs ≠ [] := by rintro rfl; simp at hne
                have hcl : cap ≠ l := by
                  intro hq
                  apply hne
                  apply List.eq_nil_of_length_eq_zero
                  omega
                rw [if_neg hcl, addr_add (h1 hxne).1]
                exact ⟨rfl, (h1 hxne).2⟩
              · have hxne : xs ≠ [] := by rintro rfl; simp at hz
                have hlt : i < ((xs.take hh).drop l).length := (List.getElem?_eq_some_iff.1 hz).1
                have hcl : cap ≠ l := by omega
                rw [if_neg hcl, addr_add (h1 hxne).1]
                have := h5 (l + i) j z dd (hget i z hz) hj
                rw [Nat.add_mul, ← Nat.add_assoc] at this
                exact this
        rcases optI_ok g h with ⟨q1, h⟩ | ⟨ol, nl, kl, q1, h, el⟩ <;> rcases optI_ok g h with ⟨q2, h⟩ | ⟨oh, nh, kh, q2, h, eh⟩ <;> obtain ⟨l, hh, b1, b2, b3, b4, h⟩ := h <;>
          refine ⟨_, h, main _ _ l hh (by first | exact .inl ⟨q1, rfl⟩ | exact .inr ⟨_, _, _, q1, rfl, el⟩) (by first | exact .inl ⟨q2, rfl⟩ | exact .inr ⟨_, _, _, q2, rfl, eh⟩) b1 b2 b3 b4⟩
    · exact h.elim
  · exact h.elim
end
end Go.Proofs.YtpmlocilhhjifaaGreat.Eng
end
