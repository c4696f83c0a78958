/- A law's row, once for all laws: what is trod reads as data; a contract then answers the row. -/
import Derived.Test.YtpmlocilhhjifaaGreatTac
import Derived.ChangeArms
import Derived.ChangeOld
import Derived.WideShapes
import Derived.DataElems
import Derived.Test.YtpmlocilhhjifaaGreatRef1
section
set_option maxRecDepth 100000
set_option linter.unusedSimpArgs false
set_option linter.unusedVariables false
namespace Go.Proofs.YtpmlocilhhjifaaGreat.Eng
open Go.RowKit Go.ChangeShapes Go.WideShapes
/-- The fields lie one behind the other. -/
def tiles : List (Nat × Nat × Nat) → Nat → Nat → Bool
  | [], i, n => Nat.beq i n
  | q :: fs, i, n => Nat.beq q.1 i && tiles fs (i + q.2.1) n
def supp : Nat → Nat → Bool
  | 0, _ => false
  | m + 1, t => match (ty t).kd with
    | .int _ => true
    | .bool => true
    | .str => true
    | .slc e => supp m e
    | .st fs => tiles fs 0 (ty t).size && fs.all fun q => supp m q.2.2
    | _ => false
/-- The data of a type. -/
def TyD : Nat → Nat → List D → Prop
  | 0, _, _ => False
  | m + 1, t, ds => match (ty t).kd with
    | .int k => ∃ n, ds = [.sc (.int k n)] ∧ (Lit.int k n).wf = true
    | .bool => ∃ b, ds = [.sc (.bool b)]
    | .str => ∃ s, ds = [.sc (.string s)] ∧ s.size ≤ maxLen
    | .slc e => ∃ xs : List (List D), ds = [.sl 0 (ty e).size xs] ∧ xs.length ≤ maxLen ∧ (∀ x ∈ xs, x.length = (ty e).size) ∧ ∀ x ∈ xs, TyD m e x
    | .st fs => ds.length = (ty t).size ∧ ∀ q ∈ fs, TyD m q.2.2 ((ds.drop q.1).take q.2.1)
    | _ => False
theorem cells_of {w : World} {a : Addr} {n : Nat} {cs : List Value} (h : w.cells? 0 a n = some cs) : cs.length = n ∧ ∀ j, j < n → ∃ c, cs[j]? = some c ∧ w.cell? (a.add j) = some c := by
  unfold World.cells? at h
  rw [if_pos (Nat.zero_le _)] at h
  refine ⟨by simpa using mapM_some_length h, fun j hj => ?_⟩
  have h1 := mapM_some_get h j j (by simp [hj])
  have h2 : j < cs.length := by rw [mapM_some_length h]; simpa using hj
  exact ⟨_, List.getElem?_eq_getElem h2, by rw [h1, List.getElem?_eq_getElem h2]⟩
theorem pick {α : Type} {n : Nat} {p : Nat → α → Prop} (h : ∀ i, i < n → ∃ x, p i x) : ∃ xs : List α, xs.length = n ∧ ∀ i x, xs[i]? = some x → p i x := by
  induction n with
  | zero => exact ⟨[], rfl, fun i x hx => by simp at hx⟩
  | succ n ih =>
    obtain ⟨xs, h1, h2⟩ := ih fun i hi => h i (by omega)
    obtain ⟨x, hx⟩ := h n (by omega)
    refine ⟨xs ++ [x], by simp [h1], fun i y hy => ?_⟩
    by_cases hi : i < n
    · rw [List.getElem?_append_left (by omega)] at hy
      exact h2 i y hy
    · have : i = n := by have := (List.getElem?_eq_some_iff.1 hy).1; simp at this; omega
      subst this
      rw [List.getElem?_append_right (by omega), h1] at hy
      simp at hy
      exact hy ▸ hx
def okB (w : World) (t b : Nat) : Prop := b < w.heap.size
theorem cellsOf_ty {t : Nat} (h : 0 < (ty t).size) : Tryz.prog.cellsOf t = (ty t).size := by
  obtain ⟨i, z, h1, h2, _⟩ := (types_ok t h).info
  simp [Program.cellsOf, h1, h2]
theorem adr_none {a : Addr} (h : a.spot = none) (i j : Nat) : (a.add i).add j = ⟨a.block, a.off + i + j, none⟩ := by
  obtain ⟨b, o, s⟩ := a
  simp only at h
  subst h
  unfold Addr.add
  by_cases hi : i = 0 <;> by_cases hj : j = 0 <;> simp [hi, hj]
theorem tiles_le : ∀ (fs : List (Nat × Nat × Nat)) (i n : Nat), tiles fs i n = true → i ≤ n ∧ ∀ q ∈ fs, q.1 + q.2.1 ≤ n
  | [], i, n, h => ⟨Nat.le_of_eq (Nat.eq_of_beq_eq_true h), fun q hq => by cases hq⟩
  | q :: fs, i, n, h => by
    simp only [tiles, Bool.and_eq_true] at h
    have e : q.1 = i := Nat.eq_of_beq_eq_true h.1
    obtain ⟨h1, h2⟩ := tiles_le fs _ n h.2
    refine ⟨by omega, fun r hr => ?_⟩
    rcases List.mem_cons.1 hr with rfl | hr
    · omega
    · exact h2 r hr
/-- The struct's cells, field for field. -/
theorem fields_rd {w : World} {ok : Nat → Nat → Prop} {G : Nat → List D → Prop} : ∀ (fs : List (Nat × Nat × Nat)) (i n : Nat) (cs : List Value), tiles fs i n = true → cs.length = n →
    (∀ q ∈ fs, ∃ ds, RDs w ok ds ((cs.drop q.1).take q.2.1) ∧ G q.2.2 ds) →
    ∃ ds, RDs w ok ds (cs.drop i) ∧ ∀ q ∈ fs, i ≤ q.1 ∧ G q.2.2 ((ds.drop (q.1 - i)).take q.2.1)
  | [], i, n, cs, ht, hl, _ => by
    have : i = n := Nat.eq_of_beq_eq_true ht
    refine ⟨[], ?_, fun q hq => by cases hq⟩
    rw [List.drop_eq_nil_of_le (by omega)]
    trivial
  | q :: fs, i, n, cs, ht, hl, h => by
    have hq0 := (tiles_le _ i n ht).2 q (by simp)
    simp only [tiles, Bool.and_eq_true] at ht
    have e : q.1 = i := Nat.eq_of_beq_eq_true ht.1
    obtain ⟨ds, h1, h2⟩ := h q (by simp)
    obtain ⟨ds', h3, h4⟩ := fields_rd fs (i + q.2.1) n cs ht.2 hl (fun r hr => h r (by simp [hr]))
    have hlen : ds.length = q.2.1 := by rw [← h1.length, List.length_take, List.length_drop]; omega
    refine ⟨ds ++ ds', ?_, fun r hr => ?_⟩
    · have : cs.drop i = (cs.drop q.1).take q.2.1 ++ cs.drop (i + q.2.1) := by rw [e, ← List.drop_drop, List.take_append_drop]
      rw [this]
      exact h1.app h3
    · rcases List.mem_cons.1 hr with rfl | hr
      · refine ⟨by omega, ?_⟩
        rw [e, Nat.sub_self, List.drop_zero, ← hlen, List.take_left]
        exact h2
      · obtain ⟨h5, h6⟩ := h4 r hr
        refine ⟨by omega, ?_⟩
        rw [List.drop_append, List.drop_eq_nil_of_le (by omega), List.nil_append, hlen, show r.1 - i - q.2.1 = r.1 - (i + q.2.1) by omega]
        exact h6
theorem trod_tyd {H : Type} {enc : TypeId × Value → H} {w : World} : ∀ (m t fuel : Nat) (cs : List Value) (x : DataW H × List MemPlace), supp m t = true →
    DataW.trod enc Tryz.prog w 0 (fun _ => true) true fuel t cs = some x → ∃ ds, RDs w (okB w) ds cs ∧ TyD m t ds
  | 0, t, fuel, cs, x, hs, _ => by cases hs
  | m + 1, t, fuel, cs, x, hs, h => by
    have hk : (ty t).kd ≠ .other := fun e => by simp [supp, e] at hs
    have hz := known_ok t hk
    have T := types_ok t hz
    have hkd := T.kd
    unfold supp at hs
    unfold TyD
    split at hs
    · next k e =>
      rw [e] at hkd
      obtain ⟨n, rfl, _, hw⟩ := DataW.trod_int hkd h
      exact ⟨[.sc (.int k n)], ⟨.sc _ rfl, trivial⟩, n, rfl, hw⟩
    · next e =>
      rw [e] at hkd
      obtain ⟨b, rfl, _⟩ := DataW.trod_bool hkd h
      exact ⟨[.sc (.bool b)], ⟨.sc _ rfl, trivial⟩, b, rfl⟩
    · next e =>
      rw [e] at hkd
      obtain ⟨s, rfl, _, hw⟩ := DataW.trod_string hkd h
      exact ⟨[.sc (.string s)], ⟨.sc _ rfl, trivial⟩, s, rfl, hw⟩
    · next e he =>
      rw [he] at hkd
      obtain ⟨hkd, hz'⟩ := hkd
      rcases DataW.trod_slice hkd h with ⟨rfl, _⟩ | ⟨a, len, cap, elems, rest, n, _, rfl, _, _, hl, hm, hlen, hel, _, _⟩
      · exact ⟨[.sl 0 (ty e).size []], ⟨.nil _ _, trivial⟩, [], rfl, Nat.zero_le _, fun x hx => by (cases hx), fun x hx => by (cases hx)⟩
      · have hce := cellsOf_ty hz'
        rw [hce] at hel
        have key : ∀ i, i < len → ∃ p : List D × List Value, RDs w (okB w) p.1 p.2 ∧ TyD m e p.1 ∧ p.2.length = (ty e).size ∧ ∀ j, j < (ty e).size → ∃ c, p.2[j]? = some c ∧ w.cell? ((a.add (i * (ty e).size)).add j) = some c := by
          intro i hi
          have h1 := hel i hi
          rw [List.getElem?_eq_getElem (show i < elems.length by omega), Option.bind_eq_some_iff] at h1
          obtain ⟨cs', h2, h3⟩ := h1
          obtain ⟨ds, h4, h5⟩ := trod_tyd m e n cs' _ hs h3
          obtain ⟨h6, h7⟩ := cells_of h2
          exact ⟨(ds, cs'), h4, h5, h6, h7⟩
        obtain ⟨ps, hp1, hp2⟩ := pick key
        have hx1 : ∀ (i : Nat) (x : List D), (ps.map (·.1))[i]? = some x → ∃ p, ps[i]? = some p ∧ x = p.1 := fun i x hx => by
          rw [List.getElem?_map] at hx
          cases hpi : ps[i]? with
          | none => rw [hpi] at hx; cases hx
          | some p => rw [hpi] at hx; exact ⟨p, rfl, by simpa using hx.symm⟩
        have hlx : ∀ (i : Nat) (x : List D), (ps.map (·.1))[i]? = some x → x.length = (ty e).size := fun i x hx => by
          obtain ⟨p, hpi, rfl⟩ := hx1 i x hx
          obtain ⟨g1, _, g3, _⟩ := hp2 i p hpi
          rw [← g1.length, g3]
        refine ⟨[.sl 0 (ty e).size (ps.map (·.1))], ⟨?_, trivial⟩, ps.map (·.1), rfl, by simp; omega, fun x hx => ?_, fun x hx => ?_⟩
        · have hcv : (ps.map (·.1)).length = len := by simp [hp1]
          have hcell : ∀ (i j : Nat) x d, (ps.map (·.1))[i]? = some x → x[j]? = some d → ∃ p c, ps[i]? = some p ∧ p.2[j]? = some c ∧ w.cell? ((a.add (i * (ty e).size)).add j) = some c ∧ RD w (okB w) d c := fun i j x d hi hj => by
            obtain ⟨p, hpi, rfl⟩ := hx1 i x hi
            obtain ⟨g1, _, g3, g4⟩ := hp2 i p hpi
            have hjl : j < (ty e).size := by
              have h1 := (List.getElem?_eq_some_iff.1 hj).1
              have h2 := g1.length
              omega
            obtain ⟨c, k1, k2⟩ := g4 j hjl
            obtain ⟨c', k3, k4⟩ := g1.get j d hj
            rw [k1] at k3; cases k3
            exact ⟨p, c, hpi, k1, k2, k4⟩
          have hsp : ps.map (·.1) ≠ [] → a.spot = none ∧ a.block < w.heap.size := fun hne => by
            obtain ⟨p, hp⟩ : ∃ p, ps[0]? = some p := by
              cases ps with
              | nil => exact absurd rfl hne
              | cons p _ => exact ⟨p, rfl⟩
            obtain ⟨g1, _, g3, g4⟩ := hp2 0 p hp
            obtain ⟨c, _, k2⟩ := g4 0 hz'
            rw [show ((a.add (0 * (ty e).size)).add 0) = a by simp [Addr.add]] at k2
            unfold World.cell? at k2
            split at k2
            · next hb =>
              refine ⟨?_, (Array.getElem?_eq_some_iff.1 hb).1⟩
              cases hsp : a.spot with
              | none => rfl
              | some _ => rw [hsp] at k2; cases k2
            · cases k2
          rw [← hcv]
          refine .sl 0 _ _ a cap (fun i j => ((ps[i]?.bind fun p => p.2[j]?)).getD undef) (by decide) (fun hne => ⟨(hsp hne).1, (hsp hne).2, (hsp hne).2⟩) (by omega) hm (fun i x hi => hlx i x hi) (fun i j x d hi hj => ?_) (fun i j x d hi hj => ?_)
          · obtain ⟨p, c, k1, k2, k3, _⟩ := hcell i j x d hi hj
            have hne : ps.map (·.1) ≠ [] := fun e' => by rw [e'] at hi; simp at hi
            simp only [k1, Option.bind_some, k2, Option.getD_some]
            rw [← k3]
            rw [adr_none (hsp hne).1]
          · obtain ⟨p, c, k1, k2, _, k4⟩ := hcell i j x d hi hj
            simp only [k1, Option.bind_some, k2, Option.getD_some]
            exact k4
        · obtain ⟨i, hi⟩ := List.getElem?_of_mem hx
          exact hlx i x hi
        · obtain ⟨i, hi⟩ := List.getElem?_of_mem hx
          obtain ⟨p, hpi, rfl⟩ := hx1 i x hi
          exact (hp2 i p hpi).2.1
    · next fs he =>
      rw [he] at hkd
      obtain ⟨F, hu, hfl, hfs⟩ := hkd
      rw [Bool.and_eq_true, List.all_eq_true] at hs
      obtain ⟨xs, n, _, _, hlen, hxl, hx⟩ := DataW.trod_struct hu h
      rw [cellsOf_ty hz] at hlen
      have hq : ∀ q ∈ fs, ∃ f : Field, q ∈ fs ∧ f.offset = q.1 ∧ f.type = q.2.2 ∧ (ty q.2.2).size = q.2.1 ∧ 0 < q.2.1 ∧ ∃ y, DataW.trod enc Tryz.prog w 0 (fun _ => true) true n q.2.2 ((cs.drop q.1).take q.2.1) = some y := fun q hq => by
        obtain ⟨j, hj⟩ := List.getElem?_of_mem hq
        have hjl := (List.getElem?_eq_some_iff.1 hj).1
        obtain ⟨f, hf⟩ : ∃ f, F[j]? = some f := ⟨_, Array.getElem?_eq_getElem (by simpa using (by omega : j < F.toList.length))⟩
        obtain ⟨g1, g2, g3, g4⟩ := hfs j f q hf hj
        have h1 := hx j f hf
        rw [g1, g2, cellsOf_ty (by omega), g3] at h1
        have hjx : j < xs.length := by rw [hxl]; simpa using (by omega : j < F.toList.length)
        rw [List.getElem?_eq_getElem hjx] at h1
        exact ⟨f, hq, g1, g2, g3, g4, _, h1⟩
      obtain ⟨ds, h1, h2⟩ := fields_rd (w := w) (ok := okB w) (G := TyD m) fs 0 (ty t).size cs hs.1 hlen (fun q hq' => by
        obtain ⟨f, _, _, _, _, _, y, hy⟩ := hq q hq'
        exact trod_tyd m q.2.2 n _ y (hs.2 q hq') hy)
      rw [List.drop_zero] at h1
      exact ⟨ds, h1, by rw [← h1.length]; exact hlen, fun q hq' => by simpa using (h2 q hq').2⟩
    · cases hs
/-- A parameter's value, out of what is trod. -/
theorem trod_rv {H : Type} {enc : TypeId × Value → H} {w W : World} {m t : Nat} {v : Value} {d : DataW H} {ps : List MemPlace} (hs : supp m t = true) (hv : Value.okWide Tryz.prog W .any 0 t v)
    (h : DataW.Trod enc Tryz.prog w 0 (fun _ => true) true t v d ps) : ∃ ds, TyD m t ds ∧ RV w (okB w) (match (ty t).agg with | true => .ag ds | false => .one (ds.headD (.sc undef))) v := by
  obtain ⟨fuel, h⟩ := h
  obtain ⟨ds, h1, h2⟩ := trod_tyd m t fuel _ _ hs h
  refine ⟨ds, h2, ?_⟩
  have hk : (ty t).kd ≠ .other := fun e => by cases m <;> simp [supp, e] at hs
  have hz := known_ok t hk
  have T := types_ok t hz
  have ha := T.agg
  cases hagg : (ty t).agg with
  | true =>
    rw [hagg] at ha
    cases hu : Tryz.prog.underlying t with
    | none => rw [hu] at ha; cases ha
    | some u =>
      rw [hu] at ha
      have hv' := hv
      unfold Value.okWide at hv'
      rw [hu] at hv'
      cases u <;> simp at ha <;> (obtain ⟨cs, rfl, _⟩ := hv'; exact ⟨cs, rfl, h1⟩)
  | false =>
    have hl := (T.zero.2 hagg)
    cases m with
    | zero => cases hs
    | succ m =>
      unfold TyD at h2
      have hvc : v.cells = #[v] := by
        have hkd := T.kd
        cases hk : (ty t).kd with
        | int k => rw [hk] at hkd; obtain ⟨n, rfl⟩ := okWide_int hkd hv; rfl
        | bool => rw [hk] at hkd; obtain ⟨n, rfl⟩ := okWide_bool hkd hv; rfl
        | str => rw [hk] at hkd; obtain ⟨n, rfl⟩ := okWide_string hkd hv; rfl
        | slc e => rw [hk] at hkd; obtain ⟨_, _, _, rfl⟩ := okWide_slice hkd.1 hv; rfl
        | st fs => rw [hk] at hkd; obtain ⟨F, hu, _⟩ := hkd; rw [hagg, hu] at ha; cases ha
        | _ => simp [supp, hk] at hs
      rw [hvc] at h1
      have hd : ∃ d, ds = [d] := by
        have := h1.length
        cases ds with
        | nil => simp at this
        | cons d ds => cases ds with
          | nil => exact ⟨d, rfl⟩
          | cons _ _ => simp at this
      obtain ⟨d, rfl⟩ := hd
      exact h1.1
/-- A law's contract, as its row wants it. -/
theorem law_calls {f : Nat} (hm : mutF f = false) {args : List DV} (h : TT f args [.one (.sc (.bool true))]) {W : World} {vs : Array Value} (hv : RVs W (okB W) args vs.toList) :
    Calls Tryz.prog f vs W fun e W' => e = .returned (.bool true) ∧ Below W.heap.size W W' := by
  have h2 := h.2
  rw [hm] at h2
  refine (h2 (okB W) W vs hv).mono fun e W' ⟨v, he, hb, us, hu, e2⟩ => ⟨?_, hb⟩
  have hl := hu.length
  cases us with
  | nil => cases hl
  | cons u us =>
    cases us with
    | nil =>
      have : u = .bool true := RD.sc_inv hu.1
      subst this
      rw [he, e2]
      rfl
    | cons _ _ => cases hl
end Go.Proofs.YtpmlocilhhjifaaGreat.Eng
end
section
set_option maxRecDepth 100000
set_option linter.unusedSimpArgs false
set_option linter.unusedVariables false
namespace Go.Proofs.YtpmlocilhhjifaaGreat.Eng
open Go.RowKit
theorem inR_of {k : IntKind} {n : Int} (h : (Lit.int k n).wf = true) : inR k n := by
  simp only [Lit.wf, Bool.and_eq_true, decide_eq_true_eq] at h
  cases k <;> simp [inR, IntKind.min, IntKind.max, IntKind.signed, IntKind.bits] at h ⊢ <;> omega
def wOf (x : List D) : Nat := match x with
  | [.sc (.int _ n)] => n.toNat
  | _ => 0
theorem ws_of {m : Nat} {xs : List (List D)} (h : ∀ x ∈ xs, TyD (m + 1) 56 x) : xs = wl (xs.map wOf) ∧ Ok BW (xs.map wOf) := by
  have key : ∀ x ∈ xs, x = [.sc (.int .u32 (wOf x : Int))] ∧ wOf x < BW := fun x hx => by
    obtain ⟨n, rfl, hw⟩ := h x hx
    have := inR_of hw
    simp only [inR] at this
    refine ⟨?_, ?_⟩
    · simp only [wOf]
      rw [Int.toNat_of_nonneg (by omega)]
    · simp only [wOf]
      rw [BW_eq]
      omega
  refine ⟨?_, fun x hx => ?_⟩
  · apply List.ext_getElem
    · simp [wl]
    · intro i h1 h2
      simp only [wl, List.getElem_map]
      exact (key _ (List.getElem_mem h1)).1
  · obtain ⟨y, hy, rfl⟩ := List.mem_map.1 hx
    exact (key y hy).2
theorem w_of {m : Nat} {ds : List D} (h : TyD (m + 2) 27 ds) : ∃ xs ws, ds = [.sl 0 1 xs] ∧ xs = wl ws ∧ Ok BW ws := by
  obtain ⟨xs, rfl, _, _, h2⟩ := h
  obtain ⟨h3, h4⟩ := ws_of h2
  exact ⟨xs, _, rfl, h3, h4⟩
theorem z_of {m : Nat} {ds : List D} (h : TyD (m + 3) 29 ds) : ∃ s xs ws, ds = [.sc (.bool s), .sl 0 1 xs] ∧ xs = wl ws ∧ Ok BW ws := by
  obtain ⟨hl, hf⟩ := h
  obtain ⟨b, h0⟩ := hf _ (List.mem_cons_self ..)
  obtain ⟨xs, ws, h1, h2, h3⟩ := w_of (hf _ (List.mem_cons_of_mem _ (List.mem_cons_self ..)))
  refine ⟨b, xs, ws, ?_, h2, h3⟩
  have hl : ds.length = 2 := hl
  cases ds with
  | nil => cases hl
  | cons d ds => cases ds with
    | nil => cases hl
    | cons e ds => cases ds with
      | cons _ _ => simp at hl
      | nil =>
        simp at h0 h1
        rw [h0, h1]
theorem q_of {m : Nat} {ds : List D} (h : TyD (m + 4) 31 ds) : ∃ s xs ws s' ys vs, ds = [.sc (.bool s), .sl 0 1 xs, .sc (.bool s'), .sl 0 1 ys] ∧ (xs = wl ws ∧ Ok BW ws) ∧ ys = wl vs ∧ Ok BW vs := by
  obtain ⟨hl, hf⟩ := h
  obtain ⟨s, xs, ws, h1, h2, h3⟩ := z_of (hf _ (List.mem_cons_self ..))
  obtain ⟨s', ys, vs, g1, g2, g3⟩ := z_of (hf _ (List.mem_cons_of_mem _ (List.mem_cons_self ..)))
  refine ⟨s, xs, ws, s', ys, vs, ?_, ⟨h2, h3⟩, g2, g3⟩
  have e : ds = ((ds.drop 0).take 2) ++ ((ds.drop 2).take 2) := by
    rw [List.drop_zero, show (ds.drop 2).take 2 = ds.drop 2 from List.take_of_length_le (by rw [List.length_drop]; have : ds.length = 4 := hl; omega), List.take_append_drop]
  rw [e, h1, g1]
  rfl
end Go.Proofs.YtpmlocilhhjifaaGreat.Eng
end
