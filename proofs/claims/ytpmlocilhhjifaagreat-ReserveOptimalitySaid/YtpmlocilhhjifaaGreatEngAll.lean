/- Addresses, conversions, calls; all operations together. -/
import Derived.Test.YtpmlocilhhjifaaGreatEngRest3
set_option linter.unusedSimpArgs false
set_option linter.unusedVariables false
namespace Go.Proofs.YtpmlocilhhjifaaGreat.Eng
open Go.RowKit
section
variable {P : Program} {ty : Nat → TI} {T : Nat → List DV → List DV → Prop} {C : Ctx} {S : AS} {ρ : Nat → Value} {a : Act} {w : World}

theorem st_of (hW : World1 P ty T) {t j off n ft : Nat} (h : field? ty t j = some (off, n, ft)) : ∃ (F : Array Field) (f : Field), P.underlying t = some (.struct F) ∧ F[j]? = some f ∧ f.offset = off ∧ f.type = ft ∧ (ty ft).size = n ∧ 0 < n ∧ TyOk P ty ft := by
  unfold field? at h
  split at h
  · rename_i fs hkd
    rw [nth_eq] at h
    have hst := (hW.types t (hW.known t (by rw [hkd]; simp))).kd
    rw [hkd] at hst
    obtain ⟨F, hu, hFl, hF⟩ := hst
    have hlt : j < F.toList.length := by rw [hFl]; exact (List.getElem?_eq_some_iff.1 h).1
    have hf : F[j]? = some (F.toList[j]) := by rw [← Array.getElem?_toList]; exact List.getElem?_eq_getElem hlt
    obtain ⟨h1, h2, h3, h4⟩ := hF j _ _ hf h
    exact ⟨F, _, hu, hf, h1, h2, h3, h4, hW.types _ (by simp only at h3 h4; omega)⟩
  · cases h
theorem fieldAddr_ok (hW : World1 P ty T) (g : Gam C S ρ a w) {o : Oper} {t j : Nat} {x : Operand} (hop : o.op = .fieldAddr t x j) {K : Eff → Prop}
    (h : match field? ty t j, ev ty S 0 x with
    | some (off, n, _), .p s es i o => bif Nat.ble 1 n then K ⟨.p s es i (o + off), [], []⟩ else False
    | some (off, n, _), .pd cs => bif Nat.ble 1 n then K ⟨.pd (cs.drop off), [], []⟩ else False
    | _, _ => False) : ∃ E, K E ∧ Done P C S a w o E := by
  have hx := ev_ok (ty := ty) g 0 x
  revert h
  generalize ev ty S 0 x = ex at hx ⊢
  intro h
  have run : ∀ (off n ft : Nat) (ad : Addr), field? ty t j = some (off, n, ft) → a.eval x = .pointer (some ad) → (execOp a.eval o).run P w = .ok (.value (.pointer (some (ad.add off)))) w := by
    intro off n ft ad hf e1
    obtain ⟨F, f, hu, hFf, h1, h2, h3, h4, hft⟩ := st_of hW hf
    unfold execOp
    rw [hop]
    have hz : ¬ (ty ft).size = 0 := by omega
    simp [Instr.fieldAt, run_underlying hu, hFf, Instr.sureAddr, e1, fieldPlace, h2, run_size hft, hz, h1]
  split at h
  · rename_i off n ft s es i o' hf
    obtain ⟨hno, k, hk, e1⟩ := hx
    cases hb : Nat.ble 1 n with
    | false => rw [hb] at h; exact h.elim
    | true =>
      rw [hb] at h
      refine ⟨_, h, Done.pure (v := .pointer (some ⟨k, i * es + (o' + off), none⟩)) g ?_ ⟨hno, k, hk, rfl⟩⟩
      rw [run off n ft _ hf e1, addr_add rfl]
      simp [Nat.add_assoc]
  · rename_i off n ft cs hf
    obtain ⟨ad, e1, hs, h1, h2⟩ := hx
    cases hb : Nat.ble 1 n with
    | false => rw [hb] at h; exact h.elim
    | true =>
      rw [hb] at h
      refine ⟨_, h, Done.pure (v := .pointer (some (ad.add off))) g (run off n ft _ hf e1) ⟨ad.add off, rfl, by rw [addr_add hs], fun hc => ?_, fun jj d hj => ?_⟩⟩
      · rw [addr_add hs]
        exact h1 (by rintro rfl; simp at hc)
      · rw [List.getElem?_drop] at hj
        obtain ⟨c, h3, h4⟩ := h2 _ d hj
        exact ⟨c, by rw [addr_add hs]; simpa [Nat.add_assoc] using h3, h4⟩
  · exact h.elim
theorem RDs.agg_part {ok : Nat → Nat → Prop} {cs : List D} {vs : Array Value} (h : RDs w ok cs vs.toList) {t off : Nat} (ht : TyOk P ty t) (hl : off + (ty t).size ≤ cs.length) {d : DV} (hd : mkV (ty t).agg ((cs.drop off).take (ty t).size) = some d) :
    ∃ v, (part t vs off).run P w = .ok v w ∧ RV w ok d v := by
  have hlen := h.length
  cases hag : (ty t).agg with
  | true =>
    rw [hag] at hd
    simp only [mkV, Option.some.injEq] at hd
    subst hd
    refine ⟨.agg (vs.extract off (off + (ty t).size)), ?_, _, rfl, ?_⟩
    · unfold part
      rw [Sem.run_bind, run_isAgg ht w, hag]
      simp [run_size ht]
    · have := (h.drop off).take (ty t).size
      simpa [Array.toList_extract, List.extract_eq_take_drop] using this
  | false =>
    rw [hag] at hd
    have h1 := ht.zero.2 hag
    rw [h1] at hd hl
    have hlt : off < cs.length := by omega
    obtain ⟨v, hv, hr⟩ := h.get off cs[off] (List.getElem?_eq_getElem hlt)
    have e1 : (cs.drop off).take 1 = [cs[off]] := by
      rw [List.drop_eq_getElem_cons hlt]; rfl
    rw [e1] at hd
    simp only [mkV, Option.some.injEq] at hd
    subst hd
    refine ⟨v, ?_, hr⟩
    unfold part
    rw [Sem.run_bind, run_isAgg ht w, hag]
    have : vs[off]? = some v := by simpa using hv
    simp [this]
theorem field_ok (hW : World1 P ty T) (g : Gam C S ρ a w) {o : Oper} {t j : Nat} {x : Operand} (hop : o.op = .field t x j) {K : Eff → Prop}
    (h : match field? ty t j, ev ty S t x with
    | some (off, n, ft), .v (.ag cs) => bif Nat.ble (off + n) cs.length then (match mkV (ty ft).agg ((cs.drop off).take n) with | some d => K ⟨.v d, [], []⟩ | none => False) else False
    | _, _ => False) : ∃ E, K E ∧ Done P C S a w o E := by
  have hx := ev_ok (ty := ty) g t x
  revert h
  generalize ev ty S t x = ex at hx ⊢
  intro h
  split at h
  · rename_i off n ft cs hf
    obtain ⟨vs, e1, hvs⟩ := hx
    obtain ⟨F, f, hu, hFf, h1, h2, h3, h4, hft⟩ := st_of hW hf
    cases hb : Nat.ble (off + n) cs.length with
    | false => rw [hb] at h; exact h.elim
    | true =>
      rw [hb] at h
      simp only [cond_true] at h
      split at h
      · rename_i d hd
        subst h3
        obtain ⟨v, h5, h6⟩ := hvs.agg_part hft (Nat.le_of_ble_eq_true hb) hd
        refine ⟨_, h, Done.pure (v := v) g ?_ h6⟩
        unfold execOp
        rw [hop]
        simp [Instr.field, run_underlying hu, hFf, e1, asAgg, h1, h2, h5]
      · exact h.elim
  · exact h.elim
theorem indexAddr_ok (hW : World1 P ty T) (g : Gam C S ρ a w) {o : Oper} {t : Nat} {x y : Operand} (hop : o.op = .indexAddr t x y) {K : Eff → Prop}
    (h : match elem? ty t, asI (ev ty S 3 y), ev ty S t x with
    | some e, some i, .v (.one (.sl _ sz xs)) => bif Nat.beq sz (ty e).size then (real T).get xs i fun x => K ⟨.pd x, [], []⟩ else False
    | some e, some i, .ow s => match S.b s with
      | .ar _ es xs => bif Nat.beq es (ty e).size then (real T).inb xs i fun j => K ⟨.p s es j 0, [], [s]⟩ else False
      | _ => False
    | _, _, _ => False) : ∃ E, K E ∧ Done P C S a w o E := by
  have hx := ev_ok (ty := ty) g t x
  split at h
  · rename_i e n tg sz xs he hn hxe
    rw [hxe] at hx
    obtain ⟨hu, hes, hte⟩ := run_underlying_slc hW he
    obtain ⟨k, e2⟩ := asI_ok (ev_ok (ty := ty) g 3 y) hn
    cases hsz : Nat.beq sz (ty e).size with
    | false => rw [hsz] at h; exact h.elim
    | true =>
      rw [hsz] at h
      have hsz := Nat.eq_of_beq_eq_true hsz
      subst hsz
      obtain ⟨i, z, rfl, hz, h⟩ := h
      have hx' : RD w (C.ok S.b ρ) (.sl tg (ty e).size xs) (a.eval x) := hx
      revert hx'
      generalize hvx : a.eval x = vx
      intro hx'
      cases hx' with
      | nil => simp at hz
      | sl _ _ _ ad cap cs ht h1 h2 h3 h4 h5 h6 =>
        have hne : xs ≠ [] := by rintro rfl; simp at hz
        have hlt : i < xs.length := (List.getElem?_eq_some_iff.1 hz).1
        obtain ⟨g1, g2, g3⟩ := h1 hne
        refine ⟨_, h, Done.pure (v := .pointer (some (ad.add (i * (ty e).size)))) g ?_ ⟨_, rfl, by rw [addr_add g1], fun _ => ?_, fun j d hj => ?_⟩⟩
        · unfold execOp
          rw [hop]
          have : (0 : Int) ≤ i ∧ (i : Int) < xs.length := ⟨by omega, by omega⟩
          simp only [Instr.indexAt, Sem.run_bind, e2, asIntOf, Sem.run_pure, Result.andThen, run_underlying hu, hvx, if_pos this, run_size hte]
          rfl
        · rw [addr_add g1]; exact ⟨⟨_, g2⟩, g3⟩
        · exact ⟨cs i j, by rw [addr_add g1]; exact h5 i j z d hz hj, h6 i j z d hz hj⟩
  · rename_i e n s he hn hxe
    rw [hxe] at hx
    obtain ⟨hu, hes, hte⟩ := run_underlying_slc hW he
    obtain ⟨k, e2⟩ := asI_ok (ev_ok (ty := ty) g 3 y) hn
    split at h
    · rename_i e' es xs hs
      cases hsz : Nat.beq es (ty e).size with
      | false => rw [hsz] at h; exact h.elim
      | true =>
        rw [hsz] at h
        have hsz := Nat.eq_of_beq_eq_true hsz
        subst hsz
        obtain ⟨i, rfl, hi, h⟩ := h
        obtain ⟨hno, e1⟩ := hx
        have hb := g.blocks s
        rw [hs] at hb
        obtain ⟨h0, h1, cs, ⟨h2, h3⟩, h4⟩ := hb
        rcases h3 with ⟨h3, h5⟩ | ⟨gg, cap, cur, e3, g1, g2, g3, g4, g5, g6⟩
        · omega
        · refine ⟨_, h, Done.pure (v := .pointer (some ⟨gg, i * (ty e).size + 0, none⟩)) g ?_ ⟨hno, gg, by rw [e3]; rfl, rfl⟩⟩
          unfold execOp
          rw [hop]
          have : (0 : Int) ≤ i ∧ (i : Int) < xs.length := ⟨by omega, by omega⟩
          simp only [Instr.indexAt, Sem.run_bind, e2, asIntOf, Sem.run_pure, Result.andThen, run_underlying hu, e1, e3, if_pos this, run_size hte]
          rw [addr_add rfl]
          simp
    · exact h.elim
  · exact h.elim
theorem index_ok (hW : World1 P ty T) (g : Gam C S ρ a w) {o : Oper} {t : Nat} {x y : Operand} (hop : o.op = .index t x y) {K : Eff → Prop}
    (h : match (ty t).kd, asI (ev ty S 3 y), ev ty S t x with
    | .str, some i, .v (.one (.sc (.string s))) => (real T).sidx s i fun c => K ⟨.v (.one (.sc (.int .u8 c))), [], []⟩
    | _, _, _ => False) : ∃ E, K E ∧ Done P C S a w o E := by
  have hx := ev_ok (ty := ty) g t x
  split at h
  · rename_i n s hkd hn hxe
    rw [hxe] at hx
    have e1 : a.eval x = .string s := RD.sc_inv hx
    obtain ⟨k, e2⟩ := asI_ok (ev_ok (ty := ty) g 3 y) hn
    obtain ⟨i, c, rfl, hc, h⟩ := h
    refine ⟨_, h, Done.pure (v := .int .u8 c.toNat) g ?_ (RD.sc _ rfl)⟩
    unfold execOp
    rw [hop]
    simp [Instr.index, e1, e2, asIntOf, run_underlying (str_of hW hkd), hc]
  · exact h.elim
theorem convert_ok (hW : World1 P ty T) (g : Gam C S ρ a w) {o : Oper} {s t : Nat} {x : Operand} (hop : o.op = .convert s t x) {K : Eff → Prop}
    (h : match (ty t).kd with
    | .int k => match ev ty S s x with
      | .v (.one (.sc (.int _ a))) => bif Nat.ble 1 (ty s).size then (real T).conv k a fun c => K ⟨.v (.one (.sc (.int k c))), [], []⟩ else False
      | _ => False
    | .str => match elem? ty s with
      | some e => match (ty e).kd with
        | .int .u8 => sumB (ev ty S s x) S fun xs r => (real T).ofb xs fun s => K ⟨.v (.one (.sc (.string s))), [], r⟩
        | _ => False
      | none => False
    | _ => False) : ∃ E, K E ∧ Done P C S a w o E := by
  have hx := ev_ok (ty := ty) g s x
  split at h
  · rename_i k hkd
    have ht := (hW.types t (hW.known t (by rw [hkd]; simp))).kd
    rw [hkd] at ht
    split at h
    · rename_i k' n hxe
      rw [hxe] at hx
      have e1 : a.eval x = .int k' n := RD.sc_inv hx
      cases hb : Nat.ble 1 (ty s).size with
      | false => rw [hb] at h; exact h.elim
      | true =>
        rw [hb] at h
        have hts := hW.types s (Nat.le_of_ble_eq_true hb)
        have hus : ∃ d, P.underlying s = some d := by
          have := hts.agg
          cases hq : P.underlying s with
          | none => rw [hq] at this; cases this
          | some d => exact ⟨d, rfl⟩
        obtain ⟨d, hus⟩ := hus
        refine ⟨_, h, Done.pure (v := .int k (k.wrap n)) g ?_ (RD.sc _ rfl)⟩
        unfold execOp
        rw [hop]
        simp [convert, run_underlying hus, run_underlying ht, e1, Conv.intToInt]
    · exact h.elim
  · rename_i hkd
    have ht := str_of hW hkd
    split at h
    · rename_i e he
      obtain ⟨hu, hes, hte⟩ := run_underlying_slc hW he
      split at h
      · rename_i hke
        have hue := hte.kd
        rw [hke] at hue
        obtain ⟨xs, r, h, hl, A, cap, e1, hnone, hsome⟩ := sum_ok g hx h
        obtain ⟨l, rfl, h⟩ := h
        refine ⟨_, h, Done.pure (v := .string ⟨l.toArray⟩) g ?_ (RD.sc _ rfl)⟩
        unfold execOp
        rw [hop]
        cases A with
        | none =>
          obtain ⟨h1, rfl⟩ := hnone rfl
          have : l = [] := by cases l with | nil => rfl | cons _ _ => simp at h1
          subst this
          have hr := run_convert_bytes_nil (P := P) w s e hu hue 0 0 t ht
          simp only [List.map_nil, List.length_nil] at e1
          simp only [Sem.run_bind, e1, hr, Result.andThen]
          rfl
        | some ad =>
          obtain ⟨hspot, sz, hsz, hcell⟩ := hsome ad rfl
          simp only [List.length_map] at e1
          have hr := run_convert_bytes_back (P := P) w s t e ad cap l hu hue ht (fun j hj => by
            have hj1 : (l.map byteD)[j]? = some (byteD l[j]) := by simp [hj]
            have hne : l.map byteD ≠ [] := by intro hq; rw [hq] at hj1; simp at hj1
            obtain ⟨c, h1, h2⟩ := hcell j 0 (byteD l[j]) _ hj1 rfl
            have hz1 := hsz j _ hj1
            have : sz = 1 := hz1.symm
            subst this
            have h3 := RD.sc_inv h2
            subst h3
            rw [addr_add (hspot hne)]
            simpa using h1)
          simp only [Sem.run_bind, e1, hr, Result.andThen]
          rfl
      · exact h.elim
    · exact h.elim
  · exact h.elim
theorem RVs.get {ok : Nat → Nat → Prop} : ∀ {ds : List DV} {vs : List Value}, RVs w ok ds vs → ∀ (i : Nat) d, ds[i]? = some d → ∃ v, vs[i]? = some v ∧ RV w ok d v
  | [], [], _, i, d, h => by simp at h
  | d :: ds, v :: vs, h, 0, e, he => by simp at he; subst he; exact ⟨v, rfl, h.1⟩
  | d :: ds, v :: vs, h, i + 1, e, he => by simp at he; simpa using RVs.get h.2 i e he
theorem extract_ok (g : Gam C S ρ a w) {o : Oper} {j : Nat} {x : Operand} (hop : o.op = .extract x j) {K : Eff → Prop}
    (h : match ev ty S 0 x with
    | .tp ds => match nth ds j with | some d => K ⟨.v d, [], []⟩ | none => False
    | _ => False) : ∃ E, K E ∧ Done P C S a w o E := by
  have hx := ev_ok (ty := ty) g 0 x
  split at h
  · rename_i ds hxe
    rw [hxe] at hx
    obtain ⟨vs, e1, hvs⟩ := hx
    rw [nth_eq] at h
    split at h
    · rename_i d hd
      obtain ⟨v, h1, h2⟩ := hvs.get j d hd
      refine ⟨_, h, Done.pure (v := v) g ?_ h2⟩
      unfold execOp
      rw [hop]
      simp [Instr.extract, e1, h1]
    · exact h.elim
  · exact h.elim
/-- The operation leads on to what the effect says. -/
def Fine (P : Program) (C : Ctx) (S : AS) (a : Act) (w : World) (o : Oper) (E : Eff) : Prop :=
  ∀ (next : Act → World → Prop) (Q : Exit → Act → World → Prop), (∀ ρ' a' w', Gam C (S.app o.dst E) ρ' a' w' → next a' w') → o.wp P a w next Q
theorem zip_args : ∀ (ts : List Nat) (xs : List Operand), ts.length = xs.length → (ts.zip xs).map (fun q => a.eval q.2) = xs.map a.eval
  | [], [], _ => rfl
  | [], _ :: _, h => by simp at h
  | _ :: _, [], h => by simp at h
  | _ :: ts, x :: xs, h => by simp [zip_args ts xs (by simpa using h)]
theorem call_ok (hW : World1 P ty T) (g : Gam C S ρ a w) {o : Oper} (hd : ∀ d, o.dst = some d → d < C.N) {c : Call} {f : Nat} (hop : o.op = .call c) (hcv : ∃ x, c.callee = .value x ∧ a.eval x = .func (.func f) #[] #[]) (hmu : mutF f = false) {K : Eff → Prop}
    (h : bif Nat.beq c.argTypes.size c.args.size then gdvs ty S (c.argTypes.toList.zip c.args.toList) fun ds k r => (real T).call f ds fun rs => K ⟨rets rs, k, r⟩ else False) : ∃ E, K E ∧ Fine P C S a w o E := by
  obtain ⟨x, hc, hxe⟩ := hcv
  cases hsz : Nat.beq c.argTypes.size c.args.size with
  | false => rw [hsz] at h; exact h.elim
  | true =>
    rw [hsz] at h
    simp only [cond_true] at h
    have hsz := Nat.eq_of_beq_eq_true hsz
    obtain ⟨ds, k, r, h, g1, hds, hno, hok⟩ := gdvs_ok _ g h
    obtain ⟨rs, hT, h⟩ := h
    rw [zip_args _ _ (by simpa using hsz)] at hds
    refine ⟨_, h, fun next Q hn => ?_⟩
    obtain ⟨⟨fn, hf, hname, hbody⟩, hcall⟩ := hW.funcs f ds rs hmu hT
    have hrun : (execOp a.eval o).run P w = .ok (.enter f (c.args.map a.eval)) w := by
      have h1 : fn.name ≠ "runtime.NumGoroutine" := by simpa using hname
      obtain ⟨cc, hcc⟩ := Option.isSome_iff_exists.1 hbody
      unfold execOp
      rw [hop]
      simp [resolve, hc, hxe, Deferred.ofValue, invoke, callFunc, hf, h1, hcc]
    unfold Oper.wp
    rw [hrun, Oper.upon_enter]
    have hvs : RVs w (C.ok (setB S.b k) ρ) ds (c.args.map a.eval).toList := by
      have : (c.args.map a.eval).toList = c.args.toList.map a.eval := by simp
      rw [this]
      exact hds
    refine (hcall _ w _ hvs).mono ?_
    rintro e w' ⟨v, rfl, hbel, us, hus, hv⟩
    have g2 := g1.later hbel
    have hokk : ∀ t b, C.ok (setB S.b k) ρ t b ∨ w.heap.size ≤ b → C.ok (setB S.b k) ρ t b := fun t b hb => by
      rcases hb with hb | hq
      · exact hb
      · exact ⟨.inr (by have := g.size_le; omega), fun ⟨s, h1, h2⟩ => by have := (g1.lt (s := s) h1 h2).1; omega⟩
    have hus' := hus.mono (w' := w') (Nat.le_refl _) (ok' := C.ok (setB S.b k) ρ) (fun t b hb _ => ⟨rfl, hokk t b hb⟩)
    have har : AR w' (C.ok (setB S.b k) ρ) (setB S.b k) ρ (rets rs) v := by
      match rs, us, hus', hv with
      | [], [], _, hv => exact ⟨[], hv, trivial⟩
      | [d], [u], h1, hv => subst hv; exact h1.1
      | d :: d' :: rs, u :: u' :: us, h1, hv => exact ⟨_, hv, h1⟩
      | [d], u :: u' :: us, h1, _ => exact h1.2.elim
      | d :: d' :: rs, [u], h1, _ => exact h1.2.elim
    exact hn ρ _ w' (g2.put hd har)
theorem mut_ok (hW : World1 P ty T) (g : Gam C S ρ a w) {o : Oper} (hd : ∀ d, o.dst = some d → d < C.N) {c : Call} {f : Nat} (hop : o.op = .call c) (hc : c.callee = .value (.func f)) (hmu : mutF f = true) {K : Eff → Prop}
    (h : amut (real T) ty S f c.argTypes.toList c.args.toList K) : ∃ E, K E ∧ Fine P C S a w o E := by
  unfold amut at h
  split at h
  case h_2 => exact h.elim
  rename_i t x hts hxs
  split at h
  case h_2 => exact h.elim
  rename_i s hs
  split at h
  case h_2 => exact h.elim
  rename_i e es xs hbs
  obtain ⟨ys, hT, h⟩ := h
  refine ⟨_, h, fun next Q hn => ?_⟩
  obtain ⟨⟨fn, hf, hname, hbody⟩, hcall⟩ := hW.muts f xs ys hmu hT
  have hargs : c.args.map a.eval = #[a.eval x] := by
    have : c.args = #[x] := Array.ext' (by simpa using hxs)
    rw [this]; simp
  have hrun : (execOp a.eval o).run P w = .ok (.enter f (c.args.map a.eval)) w := by
    have h1 : fn.name ≠ "runtime.NumGoroutine" := by simpa using hname
    obtain ⟨cc, hcc⟩ := Option.isSome_iff_exists.1 hbody
    unfold execOp
    rw [hop]
    simp [resolve, hc, Deferred.ofValue, Act.eval, invoke, callFunc, hf, h1, hcc]
  unfold Oper.wp
  rw [hrun, hargs, Oper.upon_enter]
  have hx := ev_ok (ty := ty) g t x
  rw [hs] at hx
  obtain ⟨_, hv⟩ := hx
  have hl : (S.b s).live := by rw [hbs]; trivial
  have hb := g.blocks s
  rw [hbs] at hb
  rw [hv]
  refine (hcall C (C.ok S.b ρ) w e es (ρ s) g.size_le hb (fun k hk => ⟨(g.lt hl hk).1, fun t hok => hok.2 ⟨s, hl, hk⟩⟩)).mono ?_
  rintro e' w' ⟨rfl, hg, hbr⟩
  have hbr' : BR C w' (C.ok (upd S.b s (.ar e es ys)) ρ) (.ar e es ys) (ρ s) := hbr.mono (Nat.le_refl _) (fun t k hk hlt => by
    refine ⟨rfl, hk.1, fun ⟨r, h1, h2⟩ => hk.2 ?_⟩
    by_cases hr : r = s
    · subst hr; exact ⟨r, hl, h2⟩
    · rw [upd_ne _ _ hr] at h1; exact ⟨r, h1, h2⟩) (fun _ _ _ => rfl)
  have g2 := g.write hl hg (be := .ar e es ys) trivial hbr'
  exact hn ρ _ w' (g2.put hd ⟨[], rfl, trivial⟩)
theorem wrap_done {o : Oper} (hd : ∀ d, o.dst = some d → d < C.N) {K : Eff → Prop} (h : ∃ E, K E ∧ Done P C S a w o E) : ∃ E, K E ∧ Fine P C S a w o E := by
  obtain ⟨E, h1, h2⟩ := h
  exact ⟨E, h1, fun next Q hn => h2.wp hd hn⟩
theorem call_eq {c : Call} {b : Builtin} {ts : List Nat} {xs : List Operand} (hc : c.callee = .builtin b) (h1 : c.argTypes.toList = ts) (h2 : c.args.toList = xs) : c = { callee := .builtin b, args := xs.toArray, argTypes := ts.toArray } := by
  cases c
  simp only at hc h1 h2
  subst hc h1 h2
  simp
theorem maxmin_ok (g : Gam C S ρ a w) {o : Oper} {x y : Operand} {k k' : IntKind} {p q : Int} (hx : ev ty S 3 x = .v (.one (.sc (.int k p)))) (hy : ev ty S 3 y = .v (.one (.sc (.int k' q)))) {r : Int}
    (hop : ∃ ts, (o.op = .call { callee := .builtin .max, args := #[x, y], argTypes := ts } ∧ r = if q > p then q else p) ∨ (o.op = .call { callee := .builtin .min, args := #[x, y], argTypes := ts } ∧ r = if q < p then q else p)) :
    Done P C S a w o ⟨.v (.one (.sc (.int k r))), [], []⟩ := by
  have h1 := ev_ok (ty := ty) g 3 x
  have h2 := ev_ok (ty := ty) g 3 y
  rw [hx] at h1
  rw [hy] at h2
  have e1 : a.eval x = .int k p := RD.sc_inv h1
  have e2 : a.eval y = .int k' q := RD.sc_inv h2
  refine Done.pure (v := .int k r) g ?_ (RD.sc _ rfl)
  unfold execOp
  obtain ⟨ts, ⟨hop, rfl⟩ | ⟨hop, rfl⟩⟩ := hop
  · rw [hop]
    simp [resolve, invoke, builtin, e1, e2, Builtin.max_, Builtin.max2]
  · rw [hop]
    simp [resolve, invoke, builtin, e1, e2, Builtin.min_, Builtin.min2]
theorem aop_ok (hW : World1 P ty T) (g : Gam C S ρ a w) {o : Oper} (hd : ∀ d, o.dst = some d → d < C.N) {K : Eff → Prop} (h : aop (real T) ty S o K) : ∃ E, K E ∧ Fine P C S a w o E := by
  unfold aop at h
  cases hop : o.op with
  | move x =>
    rw [hop] at h
    refine wrap_done hd ⟨_, h, Done.pure (v := a.eval x) g ?_ (ev_ok g _ x)⟩
    unfold execOp; rw [hop]; rfl
  | assign x =>
    rw [hop] at h
    refine wrap_done hd ⟨_, h, Done.pure (v := a.eval x) g ?_ (ev_ok g _ x)⟩
    unfold execOp; rw [hop]; rfl
  | pick c x y =>
    rw [hop] at h
    simp only at h
    have hc := ev_ok (ty := ty) g 4 c
    split at h
    · rename_i hce
      rw [hce] at hc
      have e1 : a.eval c = .bool true := RD.sc_inv hc
      refine wrap_done hd ⟨_, h, Done.pure (v := a.eval x) g ?_ (ev_ok g _ x)⟩
      unfold execOp; rw [hop]; simp [e1, asBool]
    · rename_i hce
      rw [hce] at hc
      have e1 : a.eval c = .bool false := RD.sc_inv hc
      refine wrap_done hd ⟨_, h, Done.pure (v := a.eval y) g ?_ (ev_ok g _ y)⟩
      unfold execOp; rw [hop]; simp [e1, asBool]
    · exact h.elim
  | alloc t => rw [hop] at h; exact wrap_done hd (alloc_ok hW g hop h)
  | box t x => rw [hop] at h; exact wrap_done hd (box_ok g hop h)
  | build t ps => rw [hop] at h; exact wrap_done hd (build_ok hW g hop h)
  | buildSlice t n ps => rw [hop] at h; exact wrap_done hd (buildSlice_ok hW g hop h)
  | load t x => rw [hop] at h; exact wrap_done hd (aload_ok hW g hop h)
  | store t x y => rw [hop] at h; exact wrap_done hd (astore_ok hW g hop h)
  | nilCheck x =>
    rw [hop] at h
    have hx := ev_ok (ty := ty) g 0 x
    simp only at h
    split at h
    · rename_i s es i off hxe
      rw [hxe] at hx
      obtain ⟨h1, k, h2, e1⟩ := hx
      refine wrap_done hd ⟨_, h, Done.pure (v := a.eval x) g ?_ ⟨h1, k, h2, e1⟩⟩
      unfold execOp; rw [hop]; simp [e1]
    · rename_i cs hxe
      rw [hxe] at hx
      obtain ⟨ad, e1, h2⟩ := hx
      refine wrap_done hd ⟨_, h, Done.pure (v := a.eval x) g ?_ ⟨ad, e1, h2⟩⟩
      unfold execOp; rw [hop]; simp [e1]
    · exact h.elim
  | binOp op t x y t' => rw [hop] at h; exact wrap_done hd (abin_ok g hop hW h)
  | unOp op t x =>
    rw [hop] at h
    have hx := ev_ok (ty := ty) g t x
    simp only at h
    split at h
    · rename_i hxe
      rw [hxe] at hx
      have e1 : a.eval x = .bool true := RD.sc_inv hx
      refine wrap_done hd ⟨_, h, Done.pure (v := .bool false) g ?_ (RD.sc _ rfl)⟩
      unfold execOp; rw [hop]; simp [e1, Op.unary]
    · rename_i hxe
      rw [hxe] at hx
      have e1 : a.eval x = .bool false := RD.sc_inv hx
      refine wrap_done hd ⟨_, h, Done.pure (v := .bool true) g ?_ (RD.sc _ rfl)⟩
      unfold execOp; rw [hop]; simp [e1, Op.unary]
    · rename_i k n hxe
      rw [hxe] at hx
      have e1 : a.eval x = .int k n := RD.sc_inv hx
      obtain ⟨c, hc, h⟩ := h
      simp only [arithF, Option.some.injEq] at hc
      subst hc
      refine wrap_done hd ⟨_, h, Done.pure (v := .int k (k.wrap (0 - n))) g ?_ (RD.sc _ rfl)⟩
      unfold execOp; rw [hop]; simp [e1, Op.unary, Op.intArith]
    · exact h.elim
  | convert s t x => rw [hop] at h; exact wrap_done hd (convert_ok hW g hop h)
  | makeSlice t x y => rw [hop] at h; exact wrap_done hd (mks_ok hW g hop h)
  | slice t x lo hi mx =>
    rw [hop] at h
    cases mx with
    | none => exact wrap_done hd (str_slice_ok hW g hop h)
    | some _ => exact h.elim
  | fieldAddr t x j => rw [hop] at h; exact wrap_done hd (fieldAddr_ok hW g hop h)
  | field t x j => rw [hop] at h; exact wrap_done hd (field_ok hW g hop h)
  | indexAddr t x y => rw [hop] at h; exact wrap_done hd (indexAddr_ok hW g hop h)
  | index t x y => rw [hop] at h; exact wrap_done hd (index_ok hW g hop h)
  | extract x j => rw [hop] at h; exact wrap_done hd (extract_ok g hop h)
  | call c =>
    rw [hop] at h
    simp only [acall] at h
    split at h
    · rename_i f hc
      cases hmu : mutF f with
      | true => rw [hmu] at h; exact mut_ok hW g hd hop hc hmu h
      | false => rw [hmu] at h; exact call_ok hW g hd hop ⟨_, hc, rfl⟩ hmu h
    · rename_i k hc
      split at h
      · rename_i f hk
        cases hmu : mutF f with
        | true => rw [hmu] at h; exact h.elim
        | false =>
          rw [hmu] at h
          have hx := g.slots k
          rw [hk] at hx
          exact call_ok hW g hd hop ⟨_, hc, RD.sc_inv hx⟩ hmu h
      · exact h.elim
    · exact h.elim
    · exact h.elim
    · rename_i b hc
      split at h
      · rename_i ts xs t x hts hxs
        have := call_eq hc hts hxs
        subst this
        exact wrap_done hd (alen_ok hW g hop h)
      · rename_i ts xs t t' x y hts hxs
        have := call_eq hc hts hxs
        subst this
        cases htt : Nat.beq t t' with
        | false => rw [htt] at h; exact h.elim
        | true =>
          rw [htt] at h
          have := Nat.eq_of_beq_eq_true htt
          subst this
          exact wrap_done hd (aappend_ok hW g hop h)
      · rename_i ts xs t t' x y hts hxs
        have := call_eq hc hts hxs
        subst this
        split at h
        · rename_i k p k' q hx hy
          obtain ⟨c, hcc, h⟩ := h
          simp only [cmpF, Option.some.injEq] at hcc
          subst hcc
          by_cases hq : q > p
          · simp only [hq, decide_true] at h
            exact wrap_done hd ⟨_, h, maxmin_ok g hx hy ⟨_, .inl ⟨hop, by rw [if_pos hq]⟩⟩⟩
          · simp only [hq, decide_false] at h
            exact wrap_done hd ⟨_, h, maxmin_ok g hx hy ⟨_, .inl ⟨hop, by rw [if_neg hq]⟩⟩⟩
        · exact h.elim
      · rename_i ts xs t t' x y hts hxs
        have := call_eq hc hts hxs
        subst this
        split at h
        · rename_i k p k' q hx hy
          obtain ⟨c, hcc, h⟩ := h
          simp only [cmpF, Option.some.injEq] at hcc
          subst hcc
          by_cases hq : q < p
          · simp only [hq, decide_true] at h
            exact wrap_done hd ⟨_, h, maxmin_ok g hx hy ⟨_, .inr ⟨hop, by rw [if_pos hq]⟩⟩⟩
          · simp only [hq, decide_false] at h
            exact wrap_done hd ⟨_, h, maxmin_ok g hx hy ⟨_, .inr ⟨hop, by rw [if_neg hq]⟩⟩⟩
        · exact h.elim
      · exact h.elim
  | _ => rw [hop] at h; exact h.elim
end
end Go.Proofs.YtpmlocilhhjifaaGreat.Eng
