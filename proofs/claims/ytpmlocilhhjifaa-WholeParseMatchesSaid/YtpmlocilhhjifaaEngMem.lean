/- Operations on memory. -/
import Derived.Test.YtpmlocilhhjifaaEngOp
set_option linter.unusedSimpArgs false
set_option linter.unusedVariables false
namespace Go.Proofs.Ytpmlocilhhjifaa.Eng
open Go.RowKit
section
variable {P : Program} {ty : Nat → TI} {T : Nat → List DV → List DV → Prop} {C : Ctx} {S : AS} {ρ : Nat → Value} {a : Act} {w : World}

theorem addr_add {ad : Addr} (hs : ad.spot = none) (n : Nat) : ad.add n = ⟨ad.block, ad.off + n, none⟩ := by
  unfold Addr.add
  split
  · rename_i h; subst h; cases ad; simp_all
  · rfl
theorem run_isAgg {t : Nat} (ht : TyOk P ty t) (w : World) : (isAgg t).run P w = .ok (ty t).agg w := by
  have h := ht.agg
  cases hu : P.underlying t with
  | none => rw [hu] at h; simp at h
  | some d =>
    rw [hu] at h
    simp only [Option.map_some, Option.some.injEq] at h
    rw [← h]
    unfold isAgg
    rw [Sem.run_bind, run_underlying hu w]
    cases d <;> rfl
theorem run_size {t : Nat} (ht : TyOk P ty t) (w : World) : (sizeOf t).run P w = .ok (ty t).size w := by
  obtain ⟨i, z, hi, hs, _⟩ := ht.info
  simp [sizeOf, typeInfo, hi, hs]
theorem run_loadVar_ok {ok : Nat → Nat → Prop} {t : Nat} (ht : TyOk P ty t) {ad : Addr} (hs : ad.spot = none) {cs : List D} (hl : cs.length = (ty t).size)
    (hc : ∀ (j : Nat) d, cs[j]? = some d → ∃ c, w.cell? ⟨ad.block, ad.off + j, none⟩ = some c ∧ RD w ok d c) {d : DV} (hd : mkV (ty t).agg cs = some d) : ∃ v, (loadVar t ad).run P w = .ok v w ∧ RV w ok d v := by
  cases hag : (ty t).agg with
  | true =>
    rw [hag] at hd
    simp only [mkV, Option.some.injEq] at hd
    subst hd
    have hv : ∃ vs : List Value, vs.length = cs.length ∧ ∀ (j : Nat) d, cs[j]? = some d → ∃ c, vs[j]? = some c ∧ w.cell? ⟨ad.block, ad.off + j, none⟩ = some c ∧ RD w ok d c := by
      refine ⟨(List.range cs.length).map fun j => (w.cell? ⟨ad.block, ad.off + j, none⟩).getD undef, by simp, fun j d hj => ?_⟩
      obtain ⟨c, h1, h2⟩ := hc j d hj
      have hlt : j < cs.length := (List.getElem?_eq_some_iff.1 hj).1
      exact ⟨c, by simp [hlt, h1], h1, h2⟩
    obtain ⟨vs, hvl, hv⟩ := hv
    have hrun := run_loadCells_list (P := P) w ad vs (fun j v hj => by
      have hlt : j < cs.length := by rw [← hvl]; exact (List.getElem?_eq_some_iff.1 hj).1
      obtain ⟨c, h1, h2, _⟩ := hv j cs[j] (List.getElem?_eq_getElem hlt)
      rw [hj] at h1
      cases h1
      rw [addr_add hs]; exact h2)
    rw [hvl, hl] at hrun
    refine ⟨.agg vs.toArray, ?_, vs.toArray, rfl, RDs.of hvl fun j d v hj hj' => ?_⟩
    · unfold loadVar
      rw [Sem.run_bind, run_isAgg ht w, hag]
      simp [run_size ht, hrun]
    · obtain ⟨c, h1, _, h3⟩ := hv j d hj
      rw [hj'] at h1
      cases h1
      exact h3
  | false =>
    rw [hag] at hd
    have : ∃ x, cs = [x] ∧ d = .one x := by
      cases cs with
      | nil => simp [mkV] at hd
      | cons x r => cases r with
        | nil => simp [mkV] at hd; exact ⟨x, rfl, hd.symm⟩
        | cons _ _ => simp [mkV] at hd
    obtain ⟨x, rfl, rfl⟩ := this
    obtain ⟨c, h1, h2⟩ := hc 0 x rfl
    refine ⟨c, ?_, h2⟩
    have h1' : w.cell? ad = some c := by rw [← h1]; cases ad; simp at hs; subst hs; rfl
    unfold loadVar
    rw [Sem.run_bind, run_isAgg ht w, hag]
    simp [load, Sem.run, h1']
theorem aload_ok (hW : World1 P ty T) (g : Gam C S ρ a w) {o : Oper} {t : Nat} {x : Operand} (hop : o.op = .load t x) {K : Eff → Prop} (h : aload (real T) ty S t (ev ty S 0 x) K) : ∃ E, K E ∧ Done P C S a w o E := by
  have hx := ev_ok (ty := ty) g 0 x
  revert h
  generalize ev ty S 0 x = ex at hx ⊢
  unfold aload
  cases hsz : Nat.ble 1 (ty t).size with
  | false => intro h; exact h.elim
  | true =>
    have ht := hW.types t (Nat.le_of_ble_eq_true hsz)
    have fin : ∀ (ad : Addr) (cs : List D) (d : DV) (rd : List Nat), ad.spot = none → a.eval x = .pointer (some ad) → cs.length = (ty t).size → mkV (ty t).agg cs = some d →
        (∀ (j : Nat) d, cs[j]? = some d → ∃ c, w.cell? ⟨ad.block, ad.off + j, none⟩ = some c ∧ RD w (C.ok S.b ρ) d c) → Done P C S a w o ⟨.v d, [], rd⟩ := by
      intro ad cs d rd h1 h2 h3 h4 h5
      obtain ⟨v, h6, h7⟩ := run_loadVar_ok ht h1 h3 h5 h4
      refine Done.pure (v := v) g ?_ h7
      unfold execOp
      rw [hop]
      simp [h2, Instr.loadAt, Instr.sureAddr, h6]
    simp only [cond_true]
    split
    · rename_i cs
      obtain ⟨ad, e1, hs, h1, h2⟩ := hx
      intro h
      cases hb : Nat.ble (ty t).size cs.length with
      | false => rw [hb] at h; exact h.elim
      | true =>
        rw [hb] at h
        simp only [cond_true] at h
        have hb' := Nat.le_of_ble_eq_true hb
        split at h
        · rename_i d hd
          refine ⟨_, h, fin ad (cs.take (ty t).size) d [] hs e1 (by simp; omega) hd fun j d hj => ?_⟩
          rw [List.getElem?_take] at hj
          split at hj
          · exact h2 j d hj
          · cases hj
        · exact h.elim
    · rename_i s es i off
      obtain ⟨hno, k, hk, e1⟩ := hx
      intro h
      have hbr := g.blocks s
      split at h
      · rename_i cs hcs
        rw [hcs] at hbr
        obtain ⟨b, arr, TT, e2, h1, h2, h3⟩ := hbr
        rw [e2] at hk
        cases hk
        cases hb : (Nat.beq i 0 && Nat.ble (off + (ty t).size) cs.length) with
        | false => rw [hb] at h; exact h.elim
        | true =>
          rw [hb] at h
          simp only [cond_true] at h
          simp only [Bool.and_eq_true] at hb
          have hi : i = 0 := Nat.eq_of_beq_eq_true hb.1
          have hb' := Nat.le_of_ble_eq_true hb.2
          subst hi
          split at h
          · rename_i d hd
            refine ⟨_, h, fin ⟨b, off, none⟩ ((cs.drop off).take (ty t).size) d _ rfl (by rw [e1]; simp) (by simp; omega) hd fun j d hj => ?_⟩
            rw [List.getElem?_take] at hj
            split at hj
            · rw [List.getElem?_drop] at hj
              obtain ⟨c, h4, h5⟩ := h3.get _ d hj
              exact ⟨c, by rw [cell_of_row w b _ arr TT (0, 0) h2]; simpa using h4, h5⟩
            · cases hj
          · exact h.elim
      · rename_i e es' xs hcs
        cases hee : Nat.beq es es' with
        | false => rw [hee] at h; exact h.elim
        | true =>
          rw [hee] at h
          simp only [cond_true] at h
          have he : es = es' := Nat.eq_of_beq_eq_true hee
          subst he
          obtain ⟨y, hy, h⟩ := h
          rw [hcs] at hbr
          obtain ⟨h0, h1, cs, ⟨h2, h3⟩, h4⟩ := hbr
          cases hb : Nat.ble (off + (ty t).size) y.length with
          | false => rw [hb] at h; exact h.elim
          | true =>
            rw [hb] at h
            simp only [cond_true] at h
            have hb' := Nat.le_of_ble_eq_true hb
            split at h
            · rename_i d hd
              rcases h3 with ⟨h3, _⟩ | ⟨gg, cap, cur, e2, g1, g2, g3, g4, g5, g6⟩
              · rw [h3] at hk; cases hk
              · rw [e2] at hk
                cases hk
                refine ⟨_, h, fin ⟨gg, i * es + off, none⟩ ((y.drop off).take (ty t).size) d _ rfl e1 (by simp; omega) hd fun j d hj => ?_⟩
                rw [List.getElem?_take] at hj
                split at hj
                · rw [List.getElem?_drop] at hj
                  obtain ⟨c, h5, h6⟩ := h4.get _ d (flat_get xs i (off + j) y d h1 hy hj)
                  refine ⟨c, ?_, h6⟩
                  rw [cell_of_row w gg _ cur e (0, 0) g2, Nat.add_assoc]
                  rw [← g6, List.getElem?_take] at h5
                  split at h5
                  · simpa using h5
                  · cases h5
                · cases hj
            · exact h.elim
      · exact h.elim
    · intro h; exact h.elim
end
end Go.Proofs.Ytpmlocilhhjifaa.Eng
