/- Operations that write or make memory. -/
import Derived.Test.YtpmlocilhhjifaaEngMem
import Derived.Laws.OwnMore
set_option linter.unusedSimpArgs false
set_option linter.unusedVariables false
namespace Go.Proofs.Ytpmlocilhhjifaa.Eng
open Go.RowKit
section
variable {P : Program} {ty : Nat → TI} {T : Nat → List DV → List DV → Prop} {C : Ctx} {S : AS} {ρ : Nat → Value} {a : Act} {w : World}

theorem setB_append (f : Nat → BE) : ∀ (k l : List (Nat × BE)), setB f (k ++ l) = setB (setB f k) l
  | [], _ => rfl
  | (s, e) :: k, l => setB_append (upd f s e) k l
theorem write_ok (g : Gam C S ρ a w) {s : Nat} (hl : (S.b s).live) {w' : World} (hg : w.grownBy w' (blkOf (ρ s))) {be : BE} (hbe : be.live) :
    ∀ t k, C.ok S.b ρ t k → k < w.heap.size → w'.heap[k]? = w.heap[k]? ∧ C.ok (upd S.b s be) ρ t k := by
  refine ok_step (fun k ⟨r, h1, h2⟩ => .inl ?_) (fun k hk ho => hg.block k hk (fun e => ho ⟨s, hl, e.symm⟩))
  by_cases hr : r = s
  · subst hr; exact ⟨r, hl, h2⟩
  · rw [upd_ne _ _ hr] at h1; exact ⟨r, h1, h2⟩
theorem new_ok {b : Nat → BE} {d : Nat} {be : BE} {v : Value} {w w' : World} (hb : Below w.heap.size w w') (hv : ∀ k, blkOf v = some k → w.heap.size ≤ k) :
    ∀ t k, C.ok b ρ t k → k < w.heap.size → w'.heap[k]? = w.heap[k]? ∧ C.ok (upd b d be) (upd ρ d v) t k := by
  refine ok_step (fun k h => ?_) (fun k hk _ => hb.block k hk)
  rcases Occ_upd h with ⟨_, h⟩ | ⟨s, _, h1, h2⟩
  · exact .inr (hv k h)
  · exact .inl ⟨s, h1, h2⟩
theorem grown_setRow (w : World) (g : Nat) (cs : Array Value) : w.grownBy (w.setRow g cs) (some g) := ⟨rfl, rfl, rfl, by simp, fun k _ hk => setRow_other w g k _ (fun e => hk (by simp [e]))⟩
theorem run_storeVar_ok {t : Nat} (ht : TyOk P ty t) {b off : Nat} {arr : Array Value} {TT : TypeId} (hb : w.heap[b]? = some (.cells arr TT (0, 0))) {v : Value} (hv : v.cells.size = (ty t).size)
    (h1 : ∀ u ∈ v.cells.toList, u.oneCell' = true) (hl : off + v.cells.size ≤ arr.size) :
    (storeVar t ⟨b, off, none⟩ v).run P w = .ok () (w.setRow b (arr.toList.take off ++ v.cells.toList ++ arr.toList.drop (off + v.cells.size)).toArray) := by
  have := run_storeCells_at (P := P) b off TT v.cells.toList 0 arr w hb (by simpa using hl) h1
  unfold storeVar
  simp only [Sem.run_bind, run_size ht, Result.andThen, hv]
  simpa [hv] using this
theorem fillL_length {zs cs : List D} {off : Nat} (h : off + cs.length ≤ zs.length) : (fillL zs off cs).length = zs.length := by simp [fillL]; omega
theorem RDs.fill {ok : Nat → Nat → Prop} {zs cs : List D} {vs us : List Value} (hz : RDs w ok zs vs) (hc : RDs w ok cs us) (off : Nat) : RDs w ok (fillL zs off cs) (vs.take off ++ us ++ vs.drop (off + us.length)) := by
  unfold fillL
  rw [hc.length]
  exact ((hz.take off).app hc).app (hz.drop _)
theorem flat_len {es : Nat} : ∀ (xs : List (List D)), (∀ x ∈ xs, x.length = es) → xs.flatten.length = xs.length * es
  | [], _ => by simp
  | x :: xs, h => by rw [List.flatten_cons, List.length_append, h x (by simp), flat_len xs (fun y hy => h y (by simp [hy])), List.length_cons, Nat.succ_mul, Nat.add_comm]
theorem flat_set {es : Nat} : ∀ (xs : List (List D)) (i : Nat) (x y : List D), (∀ z ∈ xs, z.length = es) → xs[i]? = some x → y.length = es →
    (xs.set i y).flatten = xs.flatten.take (i * es) ++ y ++ xs.flatten.drop (i * es + es)
  | [], i, x, y, _, h, _ => by simp at h
  | z :: xs, 0, x, y, hz, h, hy => by
    have hzl := hz z (by simp)
    simp only [List.set_cons_zero, List.flatten_cons, Nat.zero_mul, List.take_zero, List.nil_append, Nat.zero_add]
    rw [List.drop_append_of_le_length (by omega), List.drop_of_length_le (by omega), List.nil_append]
  | z :: xs, i + 1, x, y, hz, h, hy => by
    have hzl := hz z (by simp)
    have ih := flat_set xs i x y (fun q hq => hz q (by simp [hq])) (by simpa using h) hy
    simp only [List.set_cons_succ, List.flatten_cons, ih]
    have e1 : (i + 1) * es = z.length + i * es := by rw [hzl, Nat.succ_mul, Nat.add_comm]
    rw [e1, List.take_length_add_append, Nat.add_assoc, List.drop_length_add_append]
    simp [List.append_assoc]

theorem splice_take {α : Type} (cur us : List α) (p N : Nat) (h : p + us.length ≤ N) (hN : N ≤ cur.length) :
    (cur.take p ++ us ++ cur.drop (p + us.length)).take N = (cur.take N).take p ++ us ++ (cur.take N).drop (p + us.length) := by
  have h1 : (cur.take p ++ us).length = p + us.length := by simp; omega
  rw [List.take_append, h1, List.take_of_length_le (by omega), List.take_take, Nat.min_eq_left (by omega), List.drop_take]
theorem flat_slice {es : Nat} : ∀ (xs : List (List D)) (i : Nat) (z : List D), (∀ x ∈ xs, x.length = es) → xs[i]? = some z → z = (xs.flatten.drop (i * es)).take es
  | [], i, z, _, h => by simp at h
  | x :: xs, 0, z, hx, h => by
    have := hx x (by simp)
    simp at h
    subst h
    rw [List.flatten_cons, Nat.zero_mul, List.drop_zero, List.take_append_of_le_length (by omega), List.take_of_length_le (by omega)]
  | x :: xs, i + 1, z, hx, h => by
    have hl := hx x (by simp)
    have ih := flat_slice xs i z (fun q hq => hx q (by simp [hq])) (by simpa using h)
    have e1 : (i + 1) * es = x.length + i * es := by rw [hl, Nat.succ_mul, Nat.add_comm]
    rw [List.flatten_cons, e1, List.drop_length_add_append]
    exact ih
theorem splice_row {F us z : List D} {A off es : Nat} (hz : z = (F.drop A).take es) (h : off + us.length ≤ es) (hF : A + es ≤ F.length) :
    F.take A ++ fillL z off us ++ F.drop (A + es) = fillL F (A + off) us := by
  subst hz
  unfold fillL
  rw [List.take_take, Nat.min_eq_left (by omega), List.take_add]
  have e1 : ((F.drop A).take es).drop (off + us.length) ++ F.drop (A + es) = F.drop (A + off + us.length) := by
    have h2 : F.drop (A + es) = (F.drop A).drop es := by rw [List.drop_drop]
    rw [h2, ← List.drop_append_of_le_length (by simp; omega), List.take_append_drop, List.drop_drop]
    congr 1
    omega
  simp only [List.append_assoc]
  rw [e1]

theorem astore_ok (hW : World1 P ty T) (g : Gam C S ρ a w) {o : Oper} {t : Nat} {x y : Operand} (hop : o.op = .store t x y) {K : Eff → Prop} (h : astore (real T) ty S t (ev ty S 0 x) (ev ty S t y) K) : ∃ E, K E ∧ Done P C S a w o E := by
  have hx := ev_ok (ty := ty) g 0 x
  unfold astore at h
  obtain ⟨d, k, r, h, g1, hd, hkf⟩ := gdv_ok g (ev_ok (ty := ty) g t y) h
  cases hsz : (Nat.ble 1 (ty t).size && Nat.beq d.cells.length (ty t).size) with
  | false => rw [hsz] at h; exact h.elim
  | true =>
    rw [hsz] at h
    simp only [cond_true] at h
    simp only [Bool.and_eq_true] at hsz
    have ht := hW.types t (Nat.le_of_ble_eq_true hsz.1)
    have hdl : d.cells.length = (ty t).size := Nat.eq_of_beq_eq_true hsz.2
    have hdc := hd.cells
    have hvs : (a.eval y).cells.size = (ty t).size := by rw [← hdl, ← hdc.length]; simp
    have hone : ∀ u ∈ (a.eval y).cells.toList, u.oneCell' = true := hdc.one
    revert h hx
    generalize ev ty S 0 x = ex
    intro hx h
    split at h
    · rename_i s es i off
      obtain ⟨hno, kk, hk, e1⟩ := hx
      have hbr := g1.blocks s
      have fin : ∀ (be : BE) (w' : World), be.live → (setB S.b k s).live → w.grownBy w' (some kk) → (storeVar t ⟨kk, i * es + off, none⟩ (a.eval y)).run P w = .ok () w' →
          BR C w' (C.ok (upd (setB S.b k) s be) ρ) be (ρ s) → Done P C S a w o ⟨.u, k ++ [(s, be)], r ++ [s]⟩ := by
        intro be w' hbe hl hg hrun hbr'
        refine ⟨.skip, undef, w', ρ, ?_, .inr ⟨rfl, rfl⟩, ?_, trivial⟩
        · unfold execOp
          rw [hop]
          simp [e1, Instr.storeAt, Instr.sureAddr, hrun]
        · rw [setB_append]
          exact g1.write (s := s) hl (by rw [hk]; exact hg) hbe hbr'
      split at h
      · rename_i cs hcs
        cases hi0 : Nat.beq i 0 with
        | false => rw [hi0] at h; exact h.elim
        | true =>
          rw [hi0] at h
          simp only [cond_true] at h
          have hi := Nat.eq_of_beq_eq_true hi0
          subst hi
          split at h
          · rename_i cs' hcs'
            unfold storeL at hcs'
            cases hle : Nat.ble (off + d.cells.length) cs.length with
            | false => rw [hle] at hcs'; cases hcs'
            | true =>
              rw [hle] at hcs'
              simp only [cond_true, Option.some.injEq] at hcs'
              have hle' := Nat.le_of_ble_eq_true hle
              subst hcs'
              simp only at hbr
              rw [hcs] at hbr
              obtain ⟨b, arr, TT, e2, h1, h2, h3⟩ := hbr
              have hk' := hk
              rw [e2] at hk'
              cases hk'
              have hal := h3.length
              have hrun := run_storeVar_ok (P := P) (ty := ty) ht (off := 0 * es + off) h2 hvs hone (by rw [hvs, ← hdl, Nat.zero_mul, Nat.zero_add]; simp at hal; omega)
              have hl : (setB S.b k s).live := by rw [hcs]; trivial
              refine ⟨_, h, fin _ _ trivial hl (grown_setRow _ _ _) hrun ⟨b, _, TT, e2, h1, setRow_heap w b _ _ _ _ h2, ?_⟩⟩
              have hmono := write_ok g1 (s := s) hl (w' := w.setRow b (arr.toList.take (0 * es + off) ++ (a.eval y).cells.toList ++ arr.toList.drop (0 * es + off + (a.eval y).cells.size)).toArray) (by rw [hk]; exact grown_setRow _ _ _) (be := .bx (fillL cs off d.cells)) trivial
              have := (h3.fill hdc off).mono (w' := w.setRow b (arr.toList.take (0 * es + off) ++ (a.eval y).cells.toList ++ arr.toList.drop (0 * es + off + (a.eval y).cells.size)).toArray) (by simp) hmono
              simpa using this
          · exact h.elim
      · rename_i e es' xs hcs
        cases hee : Nat.beq es es' with
        | false => rw [hee] at h; exact h.elim
        | true =>
          rw [hee] at h
          simp only [cond_true] at h
          have he := Nat.eq_of_beq_eq_true hee
          subst he
          obtain ⟨z, z', hz, hz', hzl, h⟩ := h
          unfold storeL at hz'
          cases hle : Nat.ble (off + d.cells.length) z.length with
          | false => rw [hle] at hz'; cases hz'
          | true =>
            rw [hle] at hz'
            simp only [cond_true, Option.some.injEq] at hz'
            have hle' := Nat.le_of_ble_eq_true hle
            subst hz'
            simp only at hbr
            rw [hcs] at hbr
            obtain ⟨h0, h1, cs, ⟨h2, h3⟩, h4⟩ := hbr
            have hzes : z.length = es := h1 z (List.mem_of_getElem? hz)
            have hl : (setB S.b k s).live := by rw [hcs]; trivial
            rcases h3 with ⟨h3, _⟩ | ⟨gg, cap, cur, e2, g1', g2, g3, g4, g5, g6⟩
            · rw [h3] at hk; cases hk
            · have hk' := hk
              rw [e2] at hk'
              cases hk'
              have hilt : i < xs.length := (List.getElem?_eq_some_iff.1 hz).1
              have hin : i * es + es ≤ xs.length * es := by
                have := Nat.mul_le_mul_right es (Nat.succ_le_of_lt hilt)
                rw [Nat.succ_mul] at this
                exact this
              have hcap : xs.length * es ≤ cap * es := Nat.mul_le_mul_right es g3
              have hrun := run_storeVar_ok (P := P) (ty := ty) ht (off := i * es + off) g2 hvs hone (by rw [hvs, ← hdl]; omega)
              refine ⟨_, h, fin _ _ trivial hl (grown_setRow _ _ _) hrun ?_⟩
              have hmono := write_ok g1 (s := s) hl (w' := w.setRow gg (cur.toList.take (i * es + off) ++ (a.eval y).cells.toList ++ cur.toList.drop (i * es + off + (a.eval y).cells.size)).toArray) (by rw [hk]; exact grown_setRow _ _ _) (be := .ar e es (xs.set i (fillL z off d.cells))) trivial
              refine ⟨h0, fun q hq => ?_, cs.take (i * es + off) ++ (a.eval y).cells.toList ++ cs.drop (i * es + off + (a.eval y).cells.size), ?_, ?_⟩
              · rcases List.mem_or_eq_of_mem_set hq with hq | rfl
                · exact h1 q hq
                · rw [fillL_length hle']; exact hzes
              · rw [List.length_set]
                have hcsl : cs.length = xs.length * es := h2
                refine ⟨by simp [hcsl, hvs, ← hdl]; omega, .inr ⟨gg, cap, _, e2, g1', setRow_heap w gg _ _ _ _ g2, g3, g4, ?_, ?_⟩⟩
                · simp [g5, hvs, ← hdl]; omega
                · have hcurl : cur.toList.length = cap * es := by simpa using g5
                  simp only [List.toList_toArray]
                  rw [← g6]
                  have hc1 : (a.eval y).cells.toList.length = (a.eval y).cells.size := by simp
                  have hc2 : (a.eval y).cells.size = d.cells.length := by simp [hvs, hdl]
                  rw [← hc1]
                  exact splice_take _ _ _ _ (by rw [hc1, hc2]; omega) (by rw [hcurl]; exact hcap)
              · rw [flat_set xs i z (fillL z off d.cells) h1 hz (by rw [fillL_length hle']; exact hzes)]
                have hfl := flat_len xs h1
                have key : xs.flatten.take (i * es) ++ fillL z off d.cells ++ xs.flatten.drop (i * es + es) = fillL xs.flatten (i * es + off) d.cells :=
                  splice_row (flat_slice xs i z h1 hz) (by omega) (by omega)
                rw [key]
                have := (h4.fill hdc (i * es + off)).mono (w' := w.setRow gg (cur.toList.take (i * es + off) ++ (a.eval y).cells.toList ++ cur.toList.drop (i * es + off + (a.eval y).cells.size)).toArray) (by simp) hmono
                simpa using this
      · exact h.elim
    · exact h.elim
end
end Go.Proofs.Ytpmlocilhhjifaa.Eng
