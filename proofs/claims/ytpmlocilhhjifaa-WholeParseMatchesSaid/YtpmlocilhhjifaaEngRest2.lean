/- The other operations, second part. -/
import Derived.Test.YtpmlocilhhjifaaEngRest
set_option linter.unusedSimpArgs false
set_option linter.unusedVariables false
namespace Go.Proofs.Ytpmlocilhhjifaa.Eng
open Go.RowKit
section
variable {P : Program} {ty : Nat → TI} {T : Nat → List DV → List DV → Prop} {C : Ctx} {S : AS} {ρ : Nat → Value} {a : Act} {w : World}

theorem asI_ok {ok : Nat → Nat → Prop} {b : Nat → BE} {x : AT} {v : Value} (hx : AR w ok b ρ x v) {n : Int} (h : asI x = some n) : ∃ k, v = .int k n := by
  unfold asI at h
  split at h
  · cases h; exact ⟨_, RD.sc_inv hx⟩
  · cases h
theorem replicate_flat {es : Nat} {zs : List D} {vs : List Value} {ok : Nat → Nat → Prop} (h : RDs w ok zs vs) : ∀ n, RDs w ok (List.replicate n zs).flatten (List.replicate n vs).flatten
  | 0 => trivial
  | n + 1 => by simp only [List.replicate_succ, List.flatten_cons]; exact h.app (replicate_flat (es := es) h n)
theorem madeCells_eq (z : Array Value) (hz : 0 < z.size) (n : Nat) : (madeCells z (n * z.size)).toList = (List.replicate n z.toList).flatten := by
  apply List.ext_getElem?
  intro q
  have hf : ∀ n : Nat, ∀ q, (List.replicate n z.toList).flatten[q]? = if q < n * z.size then some z[q % z.size]! else none := by
    intro n
    induction n with
    | zero => intro q; simp
    | succ n ih =>
      intro q
      simp only [List.replicate_succ, List.flatten_cons]
      by_cases hq : q < z.size
      · rw [List.getElem?_append_left (by simpa using hq), if_pos (by rw [Nat.succ_mul]; omega), Nat.mod_eq_of_lt hq]
        simp [hq]
      · rw [List.getElem?_append_right (by simp; omega), ih]
        simp only [Array.length_toList]
        have e1 : (q - z.size) % z.size = q % z.size := by rw [← Nat.mod_eq_sub_mod (by omega)]
        rw [e1]
        by_cases h2 : q < (n + 1) * z.size
        · rw [if_pos h2, if_pos (by rw [Nat.succ_mul] at h2; omega)]
        · rw [if_neg h2, if_neg (by rw [Nat.succ_mul] at h2; omega)]
  rw [hf]
  unfold madeCells
  by_cases hq : q < n * z.size
  · simp [hq]
  · simp [hq]
theorem zero_cells {t : Nat} (hte : TyOk P ty t) {i : TypeInfo} {z : Value} (hz : ∀ w ok, RV w ok (match (ty t).agg with | true => .ag (ty t).zero | false => .one ((ty t).zero.headD (.sc undef))) z) (ok : Nat → Nat → Prop) :
    RDs w ok (ty t).zero z.cells.toList ∧ z.cells.size = (ty t).size := by
  have := (hz w ok).cells
  have hl := hte.zero.1
  have key : RDs w ok (ty t).zero z.cells.toList := by
    cases hag : (ty t).agg with
    | true => rw [hag] at this; exact this
    | false =>
      rw [hag] at this
      have h1 := hte.zero.2 hag
      cases hq : (ty t).zero with
      | nil => rw [hq, h1] at hl; cases hl
      | cons x r =>
        rw [hq] at this
        rw [hq, h1] at hl
        have : r = [] := List.eq_nil_of_length_eq_zero (by simpa using hl)
        subst this
        assumption
  exact ⟨key, by rw [← hl, ← key.length]; simp⟩
theorem mks_ok (hW : World1 P ty T) (g : Gam C S ρ a w) {o : Oper} {t : Nat} {x y : Operand} (hop : o.op = .makeSlice t x y) {K : Eff → Prop}
    (h : match elem? ty t, asI (ev ty S 3 x), asI (ev ty S 3 y) with
      | some e, some n, some c => anew S o.dst fun d => (real T).mks (ty e).bytes n c (ty e).zero fun xs => K ⟨.ow d, [(d, .ar e (ty e).size xs)], []⟩
      | _, _, _ => False) : ∃ E, K E ∧ Done P C S a w o E := by
  split at h
  · rename_i e n c he hn hc
    obtain ⟨kl, e1⟩ := asI_ok (ev_ok (ty := ty) g 3 x) hn
    obtain ⟨kc, e2⟩ := asI_ok (ev_ok (ty := ty) g 3 y) hc
    obtain ⟨d, hd, hno, h⟩ := anew_ok h
    obtain ⟨k, rfl, rfl, h1, h2, h3, h⟩ := h
    obtain ⟨hu, hes, hte⟩ := run_underlying_slc hW he
    obtain ⟨i, z, hi, hsz, hby, hz, hzero⟩ := hte.info
    obtain ⟨hzd, hzs⟩ := zero_cells (w := w) hte (i := i) hzero (C.ok S.b ρ)
    obtain ⟨w', hr, hown, hgr⟩ := run_make_full (P := P) w C.n0 t e i z (ty e).size hu hi hz hsz kl kc k (by rw [hby]; exact h1) h2 g.size_le
    have hbl : Below w.heap.size w w' := ⟨hgr.os, hgr.tape, hgr.output, hgr.size, fun k hk => hgr.block k hk (by simp)⟩
    have hbk : ∀ j, blkOf (.slice (some (⟨w.heap.size, 0, none⟩ : Addr)) k k) = some j → w.heap.size ≤ j := fun j hj => by cases hj; exact Nat.le_refl _
    have hcs : (madeCells z.cells (k * (ty e).size)).toList = (List.replicate k z.cells.toList).flatten := by
      have := madeCells_eq z.cells (by omega) k
      rwa [hzs] at this
    rw [hcs] at hown
    refine ⟨_, h, arr_done g hno hes (fun q hq => by rw [(List.mem_replicate.1 hq).2]; exact hte.zero.1) hbl hbk (cs := (List.replicate k z.cells.toList).flatten) (by rw [List.length_replicate]; exact hown) ?_ ?_ []⟩
    · exact (replicate_flat (es := 0) hzd k).mono hgr.size (new_ok hbl hbk)
    · unfold execOp
      rw [hop]
      simp [e1, e2, hr]
  · exact h.elim
theorem foldl_set (off : Nat) : ∀ (cs : List Value) (k : Nat) (arr : Array Value), off + k + cs.length ≤ arr.size →
    ((cs.zipIdx k).foldl (fun (r : Array Value) (x : Value × Nat) => r.setIfInBounds (off + x.2) x.1) arr).toList = arr.toList.take (off + k) ++ cs ++ arr.toList.drop (off + k + cs.length)
  | [], k, arr, h => by simp
  | c :: cs, k, arr, h => by
    simp only [List.length_cons] at h
    simp only [List.zipIdx_cons, List.foldl_cons]
    rw [foldl_set off cs (k + 1) _ (by simp; omega)]
    apply List.ext_getElem?
    intro p
    simp only [List.getElem?_append, List.length_append, List.length_take, List.getElem?_take, List.getElem?_drop, Array.toList_setIfInBounds, List.length_set, Array.length_toList, Array.size_setIfInBounds, List.length_cons, List.getElem?_set]
    grind
/-- Parts laid into cells. -/
theorem fill_ok {ok : Nat → Nat → Prop} (pl : Nat → Option (Nat × Nat)) : ∀ (is : List Nat) (ds : List DV) (vs : List Value) (zs zs' : List D) (arr : Array Value), is.length = ds.length → RVs w ok ds vs → RDs w ok zs arr.toList →
    buildP pl (is.zip ds) zs = some zs' → ∃ arr', Instr.fill pl arr (is.zip vs) = some arr' ∧ RDs w ok zs' arr'.toList
  | [], ds, vs, zs, zs', arr, _, _, hz, h => by
    simp only [List.zip_nil_left, buildP, Option.some.injEq] at h
    subst h
    exact ⟨arr, rfl, hz⟩
  | i :: is, [], vs, zs, zs', arr, h, _, _, _ => by simp at h
  | i :: is, d :: ds, [], zs, zs', arr, _, h, _, _ => h.elim
  | i :: is, d :: ds, v :: vs, zs, zs', arr, hl, hv, hz, h => by
    simp only [List.zip_cons_cons, buildP] at h
    cases hp : pl i with
    | none => rw [hp] at h; cases h
    | some q =>
      obtain ⟨off, n⟩ := q
      rw [hp] at h
      simp only at h
      cases hc : (Nat.beq d.cells.length n && Nat.ble (off + n) zs.length) with
      | false => rw [hc] at h; cases h
      | true =>
        rw [hc] at h
        simp only [Bool.and_eq_true] at hc
        simp only [cond_true] at h
        have c1 := Nat.eq_of_beq_eq_true hc.1
        have c2 := Nat.le_of_ble_eq_true hc.2
        have hcl := hv.1.cells.length
        have hzl := hz.length
        have hvs : v.cells.size = n := by rw [← c1, ← hcl]; simp
        have has : arr.size = zs.length := by rw [← hzl]; simp
        simp only [List.zip_cons_cons, Instr.fill, hp]
        rw [if_neg (by simp [hvs, has]; omega)]
        have e1 : (v.cells.zipIdx.foldl (fun (cs : Array Value) (x : Value × Nat) => cs.setIfInBounds (off + x.2) x.1) arr).toList = arr.toList.take off ++ v.cells.toList ++ arr.toList.drop (off + v.cells.toList.length) := by
          rw [← Array.foldl_toList, Array.toList_zipIdx]
          have := foldl_set off v.cells.toList 0 arr (by simp [hvs, has]; omega)
          simpa using this
        have hz' : RDs w ok (fillL zs off d.cells) (v.cells.zipIdx.foldl (fun (cs : Array Value) (x : Value × Nat) => cs.setIfInBounds (off + x.2) x.1) arr).toList := by
          rw [e1]
          exact hz.fill hv.1.cells off
        exact fill_ok pl is ds vs _ zs' _ (by simpa using hl) hv.2 hz' h
theorem rows_fill {es : Nat} : ∀ (ds : List DV) (k : Nat) (pre rest : List D), (∀ d ∈ ds, d.cells.length = es) → pre.length = k * es → rest.length = ds.length * es →
    buildP (fun i => some (i * es, es)) ((List.range' k ds.length).zip ds) (pre ++ rest) = some (pre ++ (ds.map DV.cells).flatten)
  | [], k, pre, rest, _, _, h => by
    have : rest = [] := List.eq_nil_of_length_eq_zero (by simpa using h)
    subst this
    simp [buildP]
  | d :: ds, k, pre, rest, hd, hp, hr => by
    have h1 := hd d (by simp)
    simp only [List.length_cons, Nat.succ_mul] at hr
    have c1 : Nat.beq d.cells.length es = true := by rw [h1]; exact Nat.beq_refl _
    have c2 : Nat.ble (k * es + es) (pre ++ rest).length = true := Nat.ble_eq_true_of_le (by simp; omega)
    simp only [List.length_cons, List.range'_succ, List.zip_cons_cons, buildP, c1, c2, Bool.and_self, cond_true]
    have e1 : fillL (pre ++ rest) (k * es) d.cells = (pre ++ d.cells) ++ rest.drop es := by
      unfold fillL
      rw [← hp, List.take_append_of_le_length (Nat.le_refl _), List.take_of_length_le (Nat.le_refl _), h1, List.drop_length_add_append]
    rw [e1, rows_fill ds (k + 1) (pre ++ d.cells) (rest.drop es) (fun q hq => hd q (by simp [hq])) (by simp [hp, h1, Nat.succ_mul]) (by simp; omega)]
    simp [List.append_assoc]
theorem idxOk_eq : ∀ (l : List (Nat × Operand)) (k : Nat), idxOk l k = true → l.map (·.1) = List.range' k l.length
  | [], _, _ => rfl
  | (i, x) :: l, k, h => by
    simp only [idxOk, Bool.and_eq_true] at h
    have := Nat.eq_of_beq_eq_true h.1
    subst this
    simp [List.range'_succ, idxOk_eq l _ h.2]
theorem zip_map_eval (l : List (Nat × Operand)) : (l.map (·.1)).zip (l.map fun q => a.eval q.2) = l.map fun q => (q.1, a.eval q.2) := by
  induction l with
  | nil => rfl
  | cons q l ih => simp [ih]
theorem RVs.len_map {ok : Nat → Nat → Prop} {ds : List DV} {l : List (Nat × Operand)} {f : Nat × Operand → Value} (h : RVs w ok ds (l.map f)) : ds.length = l.length := by have := h.length; simpa using this.symm

theorem nth_eq {α : Type} : ∀ (l : List α) (j : Nat), nth l j = l[j]?
  | [], _ => by simp [nth]
  | _ :: _, 0 => rfl
  | _ :: l, j + 1 => by simp [nth, nth_eq l j]
theorem places_ok (hW : World1 P ty T) : ∀ (F : List Field) (fs : List (Nat × Nat × Nat)), F.length = fs.length →
    (∀ (j : Nat) f q, F[j]? = some f → fs[j]? = some q → f.offset = q.1 ∧ f.type = q.2.2 ∧ (ty q.2.2).size = q.2.1 ∧ 0 < q.2.1) →
    F.mapM (fun f => (P.info? f.type).map fun i => (f.offset, i.size)) = some (fs.map fun q => (q.1, q.2.1))
  | [], [], _, _ => rfl
  | [], _ :: _, h, _ => by simp at h
  | _ :: _, [], h, _ => by simp at h
  | f :: F, q :: fs, h, hf => by
    obtain ⟨h1, h2, h3, h4⟩ := hf 0 f q rfl rfl
    obtain ⟨i, z, hi, hsz, _⟩ := (hW.types q.2.2 (by omega)).info
    have ih := places_ok hW F fs (by simpa using h) (fun j f' q' a1 a2 => hf (j + 1) f' q' (by simpa using a1) (by simpa using a2))
    rw [List.mapM_cons, ih, h2, hi]
    simp [h1, hsz, h3]
theorem build_ok (hW : World1 P ty T) (g : Gam C S ρ a w) {o : Oper} {t : Nat} {ps : Array (Nat × Operand)} (hop : o.op = .build t ps) {K : Eff → Prop}
    (h : match (ty t).kd with
      | .st _ => gdvs ty S (ps.toList.map fun q => (((field? ty t q.1).map (·.2.2)).getD 0, q.2)) fun ds k r =>
        match buildL ty t ((ps.toList.map (·.1)).zip ds) (ty t).zero with
        | some cs => K ⟨.v (.ag cs), k, r⟩
        | none => False
      | _ => False) : ∃ E, K E ∧ Done P C S a w o E := by
  split at h
  case h_2 => exact h.elim
  rename_i fs hkd
  have ht := hW.types t (hW.known t (by rw [hkd]; simp))
  have hst := ht.kd
  rw [hkd] at hst
  obtain ⟨F, hu, hFl, hF⟩ := hst
  obtain ⟨ds, k, r, h, g1, hds, hno, hok⟩ := gdvs_ok _ g h
  split at h
  case h_2 => exact h.elim
  rename_i cs hcs
  obtain ⟨i, z, hi, hsz, hby, hz, hzero⟩ := ht.info
  obtain ⟨hzd, hzs⟩ := zero_cells (w := w) ht (i := i) hzero (C.ok (setB S.b k) ρ)
  have hds' : RVs w (C.ok (setB S.b k) ρ) ds (ps.toList.map fun q => a.eval q.2) := by simpa [List.map_map, Function.comp_def] using hds
  have hlen := RVs.len_map hds'
  have hpl := places_ok hW F.toList fs hFl (fun j f q h1 h2 => hF j f q (by simpa using h1) h2)
  have hfield : ∀ j, ((fs.map fun q => (q.1, q.2.1)).toArray[j]? : Option (Nat × Nat)) = (match field? ty t j with | some (off, n, _) => some (off, n) | none => none) := fun j => by
    unfold field?
    rw [hkd]
    simp only [List.getElem?_toArray, List.getElem?_map, nth_eq]
    cases fs[j]? with
    | none => rfl
    | some q => rfl
  obtain ⟨arr, hfill, harr⟩ := fill_ok (w := w) (fun j => ((fs.map fun q => (q.1, q.2.1)).toArray[j]? : Option (Nat × Nat))) (ps.toList.map (·.1)) ds (ps.toList.map fun q => a.eval q.2) (ty t).zero cs z.cells (by simp [hlen]) hds' hzd (by
    have : (fun j => ((fs.map fun q => (q.1, q.2.1)).toArray[j]? : Option (Nat × Nat))) = fun j => match field? ty t j with | some (off, n, _) => some (off, n) | none => none := funext hfield
    rw [this]; exact hcs)
  refine ⟨_, h, ?_⟩
  refine ⟨_, .agg arr, w, ρ, ?_, .inl rfl, g1, arr, rfl, harr⟩
  rw [zip_map_eval] at hfill
  have hbuilt : P.built t (ps.map fun x => match x with | (i, x) => (i, a.eval x)).toList = some arr := by
    have : (ps.map fun x => match x with | (i, x) => (i, a.eval x)).toList = ps.toList.map fun q => (q.1, a.eval q.2) := by simp
    rw [this]
    unfold Program.built
    rw [hi, hu]
    simp only [hz, hpl]
    exact hfill
  have := run_build (P := P) w t _ arr hbuilt
  unfold execOp
  rw [hop]
  simp only [Sem.run_bind, this, Result.andThen]
  rfl
end
end Go.Proofs.Ytpmlocilhhjifaa.Eng
