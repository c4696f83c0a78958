/- The other operations. -/
import Derived.Test.YtpmlocilhhjifaaEngNew
set_option linter.unusedSimpArgs false
set_option linter.unusedVariables false
namespace Go.Proofs.Ytpmlocilhhjifaa.Eng
open Go.RowKit
section
variable {P : Program} {ty : Nat → TI} {T : Nat → List DV → List DV → Prop} {C : Ctx} {S : AS} {ρ : Nat → Value} {a : Act} {w : World}

theorem slc_of (hW : World1 P ty T) {t e : Nat} (h : (ty t).kd = .slc e) : P.underlying t = some (.slice e) ∧ 0 < (ty e).size ∧ TyOk P ty e :=
  run_underlying_slc hW (by unfold elem?; rw [h])
theorem elem_kd {t e : Nat} (h : elem? ty t = some e) : (ty t).kd = .slc e := by
  unfold elem? at h
  split at h
  · rename_i he; cases h; exact he
  · cases h
theorem str_of (hW : World1 P ty T) {t : Nat} (h : (ty t).kd = .str) : P.underlying t = some .string := by
  have := (hW.types t (hW.known t (by rw [h]; simp))).kd
  rw [h] at this
  exact this
theorem alen_ok (hW : World1 P ty T) (g : Gam C S ρ a w) {o : Oper} {t : Nat} {x : Operand} (hop : o.op = .call { callee := .builtin .len, args := #[x], argTypes := #[t] }) {K : Eff → Prop} (h : alen (real T) ty S t (ev ty S t x) K) :
    ∃ E, K E ∧ Done P C S a w o E := by
  have hx := ev_ok (ty := ty) g t x
  unfold alen at h
  split at h
  · rename_i hk
    split at h
    · rename_i s he
      rw [he] at hx
      have e1 : a.eval x = .string s := RD.sc_inv hx
      refine ⟨_, h, Done.pure (v := .int .i64 s.size) g ?_ (RD.sc _ rfl)⟩
      unfold execOp
      rw [hop]
      simp [resolve, invoke, builtin, e1, Builtin.len_, run_underlying (str_of hW hk), goInt]
    · exact h.elim
  · rename_i e hk
    obtain ⟨xs, r, h, hl, A, cap, e1, _⟩ := sum_ok g hx h
    refine ⟨_, h, Done.pure (v := .int .i64 xs.length) g ?_ (RD.sc _ rfl)⟩
    unfold execOp
    rw [hop]
    simp [resolve, invoke, builtin, e1, Builtin.len_, run_underlying (slc_of hW hk).1, goInt]
  · exact h.elim
theorem flat_inv {es : Nat} : ∀ (ys : List (List D)) (q : Nat) (d : D), (∀ y ∈ ys, y.length = es) → ys.flatten[q]? = some d → ∃ i j z, ys[i]? = some z ∧ z[j]? = some d ∧ q = i * es + j
  | [], q, d, _, h => by simp at h
  | y :: ys, q, d, hy, h => by
    have hl := hy y (by simp)
    by_cases hq : q < y.length
    · rw [List.flatten_cons, List.getElem?_append_left hq] at h
      exact ⟨0, q, y, rfl, h, by omega⟩
    · rw [List.flatten_cons, List.getElem?_append_right (by omega)] at h
      obtain ⟨i, j, z, h1, h2, h3⟩ := flat_inv ys _ d (fun z hz => hy z (by simp [hz])) h
      exact ⟨i + 1, j, z, by simpa using h1, h2, by rw [Nat.succ_mul]; omega⟩
theorem own_blk {base : Nat} {e es : Nat} {v : Value} {n : Nat} {cs : List Value} (h : w.ownsRow base e es v n cs) : blkOf v = v.ownBlock := by
  rcases h.2 with ⟨rfl, _⟩ | ⟨_, _, _, rfl, _⟩ <;> rfl
/-- The row moved, or was written behind its end. -/
theorem Gam.moved (g : Gam C S ρ a w) {w' : World} {s d : Nat} (hl : (S.b s).live) (hd : S.b d = .no) {be : BE} (hbe : be.live) {v : Value} (hg : w.grownBy w' (blkOf (ρ s))) (hv : blkOf v = blkOf (ρ s) ∨ blkOf v = some w.heap.size)
    (hbr : BR C w' (C.ok (upd (upd S.b s .dead) d be) (upd ρ d v)) be v) : Gam C { t := S.t, b := upd (upd S.b s .dead) d be } (upd ρ d v) a w' := by
  have hsd : s ≠ d := by rintro rfl; rw [hd] at hl; exact hl
  have lv : ∀ r, r ≠ d → ((upd (upd S.b s .dead) d be) r).live → r ≠ s ∧ (S.b r).live := fun r hr h => by
    rw [upd_ne _ _ hr] at h
    by_cases hrs : r = s
    · subst hrs; rw [upd_same] at h; exact h.elim
    · rw [upd_ne _ _ hrs] at h; exact ⟨hrs, h⟩
  have hocc : ∀ k, Occ (upd (upd S.b s .dead) d be) (upd ρ d v) k → Occ S.b ρ k ∨ w.heap.size ≤ k := fun k ⟨r, h1, h2⟩ => by
    by_cases hr : r = d
    · subst hr
      rw [upd_same] at h2
      rcases hv with hv | hv
      · rw [hv] at h2; exact .inl ⟨s, hl, h2⟩
      · rw [hv] at h2; cases h2; exact .inr (Nat.le_refl _)
    · rw [upd_ne _ _ hr] at h2; exact .inl ⟨r, (lv r hr h1).2, h2⟩
  have hfr : ∀ k, k < w.heap.size → ¬ Occ S.b ρ k → w'.heap[k]? = w.heap[k]? := fun k hk ho => hg.block k hk (fun e => ho ⟨s, hl, e.symm⟩)
  have hbel : Below C.n0 w w' := ⟨hg.os, hg.tape, hg.output, hg.size, fun k hk => hg.block k (by have := g.size_le; omega) (fun e => by have := (g.lt hl e.symm).2; omega)⟩
  refine g.step (S' := { t := S.t, b := upd (upd S.b s .dead) d be }) hbel hocc hfr (fun r hr => ?_) (fun r => ?_) (fun r r' k h1 h2 h3 h4 => ?_) rfl
  · have hrd : r ≠ d := by rintro rfl; exact hr hd
    refine ⟨?_, upd_ne _ _ hrd⟩
    simp only [upd_ne _ _ hrd]
    by_cases hrs : r = s
    · subst hrs; simp [upd_same]
    · simp only [upd_ne _ _ hrs]; exact hr
  · by_cases hr : r = d
    · subst hr; simp only [upd_same]; exact hbr
    · simp only [upd_ne _ _ hr]
      by_cases hrs : r = s
      · subst hrs; simp only [upd_same]; trivial
      · simp only [upd_ne _ _ hrs]
        exact (g.blocks r).mono hg.size (ok_step hocc hfr) (fun hl' k hk => hg.block k (g.lt hl' hk).1 (fun e => hrs (g.apart r s k hl' hl hk e.symm)))
  · simp only at h1 h2
    have key : ∀ r k, r ≠ d → ((upd (upd S.b s .dead) d be) r).live → blkOf (upd ρ d v r) = some k → blkOf v = some k → False := fun r k hr h1 h3 h4 => by
      obtain ⟨hrs, h5⟩ := lv r hr h1
      rw [upd_ne _ _ hr] at h3
      rcases hv with hv | hv
      · rw [hv] at h4; exact hrs (g.apart r s k h5 hl h3 h4)
      · rw [hv] at h4; cases h4; have := (g.lt h5 h3).1; omega
    by_cases hr : r = d <;> by_cases hr' : r' = d
    · rw [hr, hr']
    · subst hr; rw [upd_same] at h3; exact (key r' k hr' h2 h4 h3).elim
    · subst hr'; rw [upd_same] at h4; exact (key r k hr h1 h3 h4).elim
    · have a1 := lv r hr h1
      have a2 := lv r' hr' h2
      rw [upd_ne _ _ hr] at h3
      rw [upd_ne _ _ hr'] at h4
      exact g.apart r r' k a1.2 a2.2 h3 h4
theorem moved_ok (g : Gam C S ρ a w) {w' : World} {s d : Nat} (hl : (S.b s).live) (hd : S.b d = .no) {be : BE} {v : Value} (hg : w.grownBy w' (blkOf (ρ s))) (hv : blkOf v = blkOf (ρ s) ∨ blkOf v = some w.heap.size) :
    ∀ t k, C.ok S.b ρ t k → k < w.heap.size → w'.heap[k]? = w.heap[k]? ∧ C.ok (upd (upd S.b s .dead) d be) (upd ρ d v) t k := by
  refine ok_step (fun k ⟨r, h1, h2⟩ => ?_) (fun k hk ho => hg.block k hk (fun e => ho ⟨s, hl, e.symm⟩))
  by_cases hr : r = d
  · subst hr
    rw [upd_same] at h2
    rcases hv with hv | hv
    · rw [hv] at h2; exact .inl ⟨s, hl, h2⟩
    · rw [hv] at h2; cases h2; exact .inr (Nat.le_refl _)
  · rw [upd_ne _ _ hr] at h1 h2
    by_cases hrs : r = s
    · subst hrs; rw [upd_same] at h1; exact h1.elim
    · rw [upd_ne _ _ hrs] at h1; exact .inl ⟨r, h1, h2⟩

theorem aappend_ok (hW : World1 P ty T) (g : Gam C S ρ a w) {o : Oper} {t : Nat} {x y : Operand} (hop : o.op = .call { callee := .builtin .append, args := #[x, y], argTypes := #[t, t] }) {K : Eff → Prop}
    (h : aappend (real T) ty S o.dst t (ev ty S t x) (ev ty S t y) K) : ∃ E, K E ∧ Done P C S a w o E := by
  have hx := ev_ok (ty := ty) g t x
  unfold aappend at h
  split at h
  case h_2 => exact h.elim
  rename_i e he
  obtain ⟨hu, hes, hte⟩ := run_underlying_slc hW he
  obtain ⟨i, z, hi, hsz, hby, hz, hzero⟩ := hte.info
  have hzs : z.cells.size = (ty e).size := by
    have h1 := (hzero w (C.ok S.b ρ)).cells.length
    rw [← hte.zero.1]
    cases hag : (ty e).agg with
    | true => rw [hag] at h1; simpa [DV.cells] using h1
    | false =>
      rw [hag] at h1
      have := hte.zero.2 hag
      rw [hte.zero.1, this]
      simpa [DV.cells] using h1
  obtain ⟨ys, r, h, hyl, A, cap, e2, hnone, hsome⟩ := sum_ok g (ev_ok (ty := ty) g t y) h
  obtain ⟨d, hd, hno, h⟩ := anew_ok h
  -- both arms: what the append does to a row v of the call's own
  have main : ∀ (v : Value) (xs : List (List D)), a.eval x = v → BR C w (C.ok S.b ρ) (.ar e (ty e).size xs) v → (real T).app (ty e).bytes (ty e).size xs ys (fun _ => True) →
      ∃ v' w', (execOp a.eval o).run P w = .ok (.value v') w' ∧ w.grownBy w' (blkOf v) ∧ (blkOf v' = blkOf v ∨ blkOf v' = some w.heap.size) ∧
        ∀ ok', (∀ t k, C.ok S.b ρ t k → k < w.heap.size → w'.heap[k]? = w.heap[k]? ∧ ok' t k) → BR C w' ok' (.ar e (ty e).size (xs ++ ys)) v' := by
    intro v xs e1 hbr ⟨_, hyes, hmax, hbytes, _⟩
    obtain ⟨_, hxes, cs, hown, hrd⟩ := hbr
    have hxy : ∀ q ∈ xs ++ ys, q.length = (ty e).size := fun q hq => by
      rcases List.mem_append.1 hq with hq | hq
      · exact hxes q hq
      · exact hyes q hq
    cases A with
    | none =>
      obtain ⟨rfl, rfl⟩ := hnone rfl
      have hr := run_append_owned_none (P := P) w C.n0 t o.type e i (ty e).size hu hi v xs.length cs hown
      refine ⟨v, w, ?_, ⟨rfl, rfl, rfl, Nat.le_refl _, fun _ _ _ => rfl⟩, .inl rfl, fun ok' hok => ?_⟩
      · unfold execOp
        rw [hop]
        simp [resolve, invoke, builtin, e1, e2, hr]
      · rw [List.append_nil]
        exact ⟨hes, hxes, cs, hown, hrd.mono (Nat.le_refl _) hok⟩
    | some ad =>
      obtain ⟨hspot, sz, hsz2, hcell⟩ := hsome ad rfl
      have hcell' : ∀ (q : Nat) dd, ys.flatten[q]? = some dd → ∃ c, w.cell? (ad.add q) = some c ∧ RD w (C.ok S.b ρ) dd c := fun q dd hq => by
        obtain ⟨ii, j, zz, h1, h2, h3⟩ := flat_inv ys q dd hyes hq
        have hne : ys ≠ [] := by rintro rfl; simp at h1
        have : sz = (ty e).size := (hsz2 ii zz h1).symm.trans (hyes zz (List.mem_of_getElem? h1))
        subst this
        obtain ⟨c, h4, h5⟩ := hcell ii j zz dd h1 h2
        exact ⟨c, by rw [addr_add (hspot hne), h3, ← Nat.add_assoc]; exact h4, h5⟩
      obtain ⟨news, hnl, hn⟩ : ∃ news : List Value, news.length = ys.flatten.length ∧ ∀ (q : Nat) dd, ys.flatten[q]? = some dd → ∃ c, news[q]? = some c ∧ w.cell? (ad.add q) = some c ∧ RD w (C.ok S.b ρ) dd c := by
        refine ⟨(List.range ys.flatten.length).map fun q => (w.cell? (ad.add q)).getD undef, by simp, fun q dd hq => ?_⟩
        obtain ⟨c, h1, h2⟩ := hcell' q dd hq
        have hlt : q < ys.flatten.length := (List.getElem?_eq_some_iff.1 hq).1
        exact ⟨c, by rw [List.getElem?_map, List.getElem?_range hlt]; simp [h1], h1, h2⟩
      have hnews : RDs w (C.ok S.b ρ) ys.flatten news := RDs.of hnl fun q dd c h1 h2 => by
        obtain ⟨c', h3, _, h4⟩ := hn q dd h1
        rw [h2] at h3
        cases h3
        exact h4
      obtain ⟨v', w', hr, hown', hgr, _, hblk⟩ := run_append_own_at (P := P) w C.n0 t o.type e i z (ty e).size (ty e).bytes hu hi hz hsz hby hzs hes v xs.length cs hown ad ys.length cap news
        (by rw [hnl, flat_len ys hyes]) (fun q u hq => by
          have hlt : q < ys.flatten.length := by rw [← hnl]; exact (List.getElem?_eq_some_iff.1 hq).1
          obtain ⟨c, h1, h2, _⟩ := hn q _ (List.getElem?_eq_getElem hlt)
          rw [hq] at h1
          cases h1
          exact h2) hnews.one hmax hbytes g.size_le
      have hb1 := own_blk hown
      have hb2 := own_blk hown'
      refine ⟨v', w', ?_, by rw [hb1]; exact hgr, by rw [hb1, hb2]; exact hblk, fun ok' hok => ⟨hes, hxy, cs ++ news, ?_, ?_⟩⟩
      · unfold execOp
        rw [hop]
        simp [resolve, invoke, builtin, e1, e2, hr]
      · rw [List.length_append]; exact hown'
      · rw [List.flatten_append]
        exact (hrd.app hnews).mono hgr.size hok
  split at h
  · rename_i sz hxe
    rw [hxe] at hx
    have e1 : a.eval x = .slice none 0 0 := by
      have hx' : RD w (C.ok S.b ρ) (.sl 3 sz []) (a.eval x) := hx
      generalize a.eval x = u at hx'
      cases hx' with
      | nil => rfl
      | sl _ _ _ _ _ _ ht => exact (ht rfl).elim
    obtain ⟨h1, h2, h3, h4, h5⟩ := h
    obtain ⟨v', w', hr, hgr, hblk, hbr⟩ := main _ [] e1 ⟨hes, by simp, [], World.ownsRow_nil w C.n0 e _, trivial⟩ ⟨h1, h2, h3, h4, trivial⟩
    have hbl : Below w.heap.size w w' := ⟨hgr.os, hgr.tape, hgr.output, hgr.size, fun k hk => hgr.block k hk (by simp [blkOf])⟩
    have hbk : ∀ k, blkOf v' = some k → w.heap.size ≤ k := fun k hk => by
      rcases hblk with hb | hb
      · rw [hb] at hk; cases hk
      · rw [hb] at hk; cases hk; exact Nat.le_refl _
    refine ⟨_, h5, _, v', w', upd ρ d v', hr, .inl rfl, g.new hno hbl hbk (hbr _ (new_ok hbl hbk)), by simp [setB, upd_same], by rw [upd_same]⟩
  · rename_i s hxe
    rw [hxe] at hx
    split at h
    · rename_i e' es' xs hs
      obtain ⟨_, e1⟩ := hx
      have hb := g.blocks s
      rw [hs] at hb
      cases hck : (Nat.beq e' e && Nat.beq es' (ty e).size) with
      | false => rw [hck] at h; exact h.elim
      | true =>
        rw [hck] at h
        simp only [Bool.and_eq_true] at hck
        have q1 := Nat.eq_of_beq_eq_true hck.1
        have q2 := Nat.eq_of_beq_eq_true hck.2
        subst q1
        subst q2
        obtain ⟨h1, h2, h3, h4, h5⟩ := h
        have hl : (S.b s).live := by rw [hs]; trivial
        obtain ⟨v', w', hr, hgr, hblk, hbr⟩ := main _ xs e1 hb ⟨h1, h2, h3, h4, trivial⟩
        exact ⟨_, h5, _, v', w', upd ρ d v', hr, .inl rfl, g.moved hl hno (by exact trivial) hgr hblk (hbr _ (moved_ok g hl hno hgr hblk)), by simp [setB, upd_same], by rw [upd_same]⟩
    · exact h.elim
  · exact h.elim
end
end Go.Proofs.Ytpmlocilhhjifaa.Eng
