/- A function's body, told by the abstract machine, is the function's contract. -/
import Derived.Test.YtpmlocilhhjifaaEngCode
import Derived.LoopN
set_option linter.unusedSimpArgs false
set_option linter.unusedVariables false
namespace Go.Proofs.Ytpmlocilhhjifaa.Eng
open Go.RowKit
section
variable {P : Program} {ty : Nat → TI} {T : Nat → List DV → List DV → Prop} {C : Ctx} {S : AS} {ρ : Nat → Value} {a : Act} {w : World}

theorem Wk.gam {L : AL} (h : Wk S L) (g : Gam C S ρ a w) : ∃ ρ', Gam C L.as ρ' a w := by
  obtain ⟨ren, hinj, hB, hT⟩ := h
  let ρ' : Nat → Value := fun s => match ren s with | some r => ρ r | none => .slice none 0 0
  have hρ : ∀ s r, ren s = some r → ρ' s = ρ r := fun s r h => by simp only [ρ', h]
  have hρn : ∀ s, ren s = none → ρ' s = .slice none 0 0 := fun s h => by simp only [ρ', h]
  -- what lives here lived there
  have hlive : ∀ s k, (L.as.b s).live → blkOf (ρ' s) = some k → ∃ r, ren s = some r ∧ (S.b r).live ∧ blkOf (ρ r) = some k := by
    intro s k hl hk
    have hb := hB s
    simp only [AL.as] at hl
    cases hbe : lkb L.b s with
    | no => rw [hbe] at hl; exact hl.elim
    | dead => rw [hbe] at hl; exact hl.elim
    | bx cs =>
      rw [hbe] at hb
      obtain ⟨r, h1, h2⟩ := hb
      exact ⟨r, h1, by rw [h2]; trivial, by rw [← hρ s r h1]; exact hk⟩
    | ar e es xs =>
      rw [hbe] at hb
      rcases hb with ⟨r, h1, h2⟩ | ⟨h1, _⟩
      · exact ⟨r, h1, by rw [h2]; trivial, by rw [← hρ s r h1]; exact hk⟩
      · rw [hρn s h1] at hk; cases hk
  have hok : ∀ t k, C.ok S.b ρ t k → C.ok L.as.b ρ' t k := fun t k h => ⟨h.1, fun ⟨s, h1, h2⟩ => by
    obtain ⟨r, _, h3, h4⟩ := hlive s k h1 h2
    exact h.2 ⟨r, h3, h4⟩⟩
  have hmono : ∀ t b, C.ok S.b ρ t b → b < w.heap.size → w.heap[b]? = w.heap[b]? ∧ C.ok L.as.b ρ' t b := fun t b h _ => ⟨rfl, hok t b h⟩
  refine ⟨ρ', ⟨g.size, g.defers, g.below, fun s => ?_, fun s s' k h1 h2 h3 h4 => ?_, fun k => ?_⟩⟩
  · have hb := hB s
    show BR C w (C.ok L.as.b ρ') (lkb L.b s) (ρ' s)
    cases hbe : lkb L.b s with
    | no => trivial
    | dead => trivial
    | bx cs =>
      rw [hbe] at hb
      obtain ⟨r, h1, h2⟩ := hb
      have := g.blocks r
      rw [h2] at this
      rw [hρ s r h1]
      exact this.mono (Nat.le_refl _) hmono (fun _ _ _ => rfl)
    | ar e es xs =>
      rw [hbe] at hb
      rcases hb with ⟨r, h1, h2⟩ | ⟨h1, rfl, h3⟩
      · have := g.blocks r
        rw [h2] at this
        rw [hρ s r h1]
        exact this.mono (Nat.le_refl _) hmono (fun _ _ _ => rfl)
      · rw [hρn s h1]
        exact ⟨h3, by simp, [], World.ownsRow_nil w C.n0 e es, trivial⟩
  · obtain ⟨r, a1, a2, a3⟩ := hlive s k h1 h3
    obtain ⟨r', b1, b2, b3⟩ := hlive s' k h2 h4
    have := g.apart r r' k a2 b2 a3 b3
    subst this
    have n1 : lkb L.b s ≠ .no := by intro e; simp only [AL.as, e] at h1; exact h1
    have n2 : lkb L.b s' ≠ .no := by intro e; simp only [AL.as, e] at h2; exact h2
    exact hinj s s' r a1 b1 n1 n2
  · have ht := hT k
    have hx := g.slots k
    show AR w (C.ok L.as.b ρ') L.as.b ρ' (lk L.t k) _
    cases hlk : lk L.t k with
    | u => trivial
    | v d =>
      rw [hlk] at ht
      rcases ht with ht | ⟨r, e, es, xs, h1, h2, rfl, h3⟩
      · have ht : S.t k = .v d := ht
        rw [ht] at hx
        exact RV.mono (Nat.le_refl _) hmono hx
      · rw [h1] at hx
        obtain ⟨_, hv⟩ := hx
        rw [hv]
        have hl : (S.b r).live := by rw [h2]; trivial
        have hb := g.blocks r
        rw [h2] at hb
        refine hb.data (fun t b hb _ => hok t b hb) (fun q hq => ⟨⟨.inr (g.lt hl hq).2, fun ⟨s, a1, a2⟩ => ?_⟩, (g.lt hl hq).1⟩)
        obtain ⟨r', b1, b2, b3⟩ := hlive s q a1 a2
        have := g.apart r r' q hl b2 hq b3
        subst this
        exact h3 s b1
    | tp ds =>
      rw [hlk] at ht
      have ht : S.t k = .tp ds := ht
      rw [ht] at hx
      obtain ⟨vs, e, h1⟩ := hx
      exact ⟨vs, e, h1.mono (Nat.le_refl _) hmono⟩
    | pd cs =>
      rw [hlk] at ht
      have ht : S.t k = .pd cs := ht
      rw [ht] at hx
      exact hx.mono (b' := L.as.b) (ρ' := ρ') (b := fun _ => .no) (ρ := ρ) (x := .pd cs) (Nat.le_refl _) hmono (fun s h => absurd rfl h)
    | p s es i off =>
      rw [hlk] at ht
      obtain ⟨r, h1, h2, h3⟩ := ht
      rw [h2] at hx
      obtain ⟨_, q, h4, h5⟩ := hx
      exact ⟨h3, q, by rw [hρ s r h1]; exact h4, h5⟩
    | ow s =>
      rw [hlk] at ht
      obtain ⟨h3, ⟨r, h1, h2⟩ | ⟨h1, sz, h2⟩⟩ := ht
      · rw [h2] at hx
        exact ⟨h3, by rw [hρ s r h1]; exact hx.2⟩
      · rw [h2] at hx
        refine ⟨h3, ?_⟩
        rw [hρn s h1]
        have hx' : RD w (C.ok S.b ρ) (.sl 3 sz []) (a.tmps.getD k undef) := hx
        generalize a.tmps.getD k undef = u at hx'
        cases hx' with
        | nil => rfl
        | sl _ _ _ _ _ _ ht => exact (ht rfl).elim

theorem acode_ok (hW : World1 P ty T) : ∀ (c : Code) {K : Exit → AS → Prop} {S : AS} {ρ : Nat → Value} {a : Act} {w : World}, codeOk C.N c = true → acode (real T) ty c K S → Gam C S ρ a w →
    c.wp P (fun e a' w' => ∃ S' ρ', K e S' ∧ Gam C S' ρ' a' w') a w := by
  intro c
  induction c with
  | skip => intro K S ρ a w _ h g; exact wp_skip ⟨S, ρ, h, g⟩
  | label l => intro K S ρ a w _ h g; exact wp_label ⟨S, ρ, h, g⟩
  | exit id => intro K S ρ a w _ h g; exact wp_exit ⟨S, ρ, h, g⟩
  | ret => intro K S ρ a w _ h g; exact wp_ret ⟨S, ρ, h, g⟩
  | region id ops draw =>
    intro K S ρ a w hok h g
    simp only [codeOk, regOk, Bool.and_eq_true] at hok
    simp only [acode] at h
    cases draw with
    | false =>
      refine wp_region ?_
      have := areg_text hW hok.1 (Q := fun e a' w' => ∃ S' ρ', K e S' ∧ Gam C S' ρ' a' w') (K := K .normal) (fun S' ρ' a' w' hk g' => ⟨S', ρ', hk, g'⟩) ops.toList 0 [] S ρ a w rfl h g
      rwa [← List.range_eq_range', Array.length_toList] at this
    | true =>
      refine wp_region_any hW.mixed ?_
      exact areg_any hW hok.1 (by simpa using hok.2) (K := K .normal) (fun S' ρ' a' w' hk g' => ⟨S', ρ', hk, g'⟩) h g.drew
  | seq x y ihx ihy =>
    intro K S ρ a w hok h g
    simp only [codeOk, Bool.and_eq_true] at hok
    simp only [acode] at h
    refine wp_seq (wp_mono (ihx hok.1 h g) fun e a' w' hh => ?_)
    obtain ⟨S', ρ', hk, g'⟩ := hh
    cases e with
    | normal => exact ihy hok.2 hk g'
    | _ => exact ⟨S', ρ', hk, g'⟩
  | cond c x y ihx ihy =>
    intro K S ρ a w hok h g
    simp only [codeOk, Bool.and_eq_true] at hok
    simp only [acode] at h
    have hc := ev_ok (ty := ty) g 4 c
    split at h
    · rename_i hce
      rw [hce] at hc
      exact wp_cond_true (RD.sc_inv hc) (ihx hok.1 h g)
    · rename_i hce
      rw [hce] at hc
      exact wp_cond_false (RD.sc_inv hc) (ihy hok.2 h g)
    · exact h.elim
  | block id x ih =>
    intro K S ρ a w hok h g
    simp only [codeOk] at hok
    simp only [acode] at h
    refine wp_block (wp_mono (ih hok h g) fun e a' w' hh => ?_)
    obtain ⟨S', ρ', hk, g'⟩ := hh
    cases e with
    | exit j =>
      simp only [Exit.inBlock]
      simp only at hk
      cases hj : Nat.beq j id with
      | true =>
        rw [hj] at hk
        have := Nat.eq_of_beq_eq_true hj
        subst this
        rw [if_pos rfl]
        exact ⟨S', ρ', hk, g'⟩
      | false =>
        rw [hj] at hk
        rw [if_neg (by rintro rfl; simp [Nat.beq_refl] at hj)]
        exact ⟨S', ρ', hk, g'⟩
    | _ => exact ⟨S', ρ', hk, g'⟩
  | loop x ih =>
    intro K S ρ a w hok h g
    simp only [codeOk] at hok
    obtain ⟨ι, I, m, i₀, hwk, hround⟩ := h
    have key : ∀ n i (ρ : Nat → Value) (a : Act) (w : World), m i < n → Gam C (I i).as ρ a w → Code.rounds P x (fun e a' w' => ∃ S' ρ', K e S' ∧ Gam C S' ρ' a' w') n a w := by
      intro n
      induction n with
      | zero => intro i ρ a w h; omega
      | succ n ihn =>
        intro i ρ a w hlt g
        rw [rounds_succ]
        refine wp_mono (ih hok (hround i) g) fun e a' w' hh => ?_
        obtain ⟨S', ρ', hk, g'⟩ := hh
        cases e with
        | normal =>
          obtain ⟨j, hj, hwk'⟩ := hk
          obtain ⟨ρ'', g''⟩ := hwk'.gam g'
          exact ihn j ρ'' a' w' (by omega) g''
        | _ => exact ⟨S', ρ', hk, g'⟩
    obtain ⟨ρ', g'⟩ := hwk.gam g
    exact wp_loop_rounds (m i₀ + 1) (key _ i₀ ρ' a w (by omega) g')
  | _ => intro K S ρ a w _ h _; exact h.elim

/-- A world of contracts as the abstract machine may lean on it. -/
structure Good (T : Nat → List DV → List DV → Prop) (π : Pi) : Prop where
  arith : ∀ op k a b K, (real T).arith op k a b K → π.arith op k a b K
  cmp : ∀ op a b K, (real T).cmp op a b K → π.cmp op a b K
  conv : ∀ k a K, (real T).conv k a K → π.conv k a K
  beq : ∀ n a b K, (real T).beq n a b K → π.beq n a b K
  call : ∀ f args K, (real T).call f args K → π.call f args K
  turn : ∀ f xs K, (real T).turn f xs K → π.turn f xs K
  get : ∀ xs i K, (real T).get xs i K → π.get xs i K
  getN : ∀ xs i K, (real T).getN xs i K → π.getN xs i K
  inb : ∀ xs i K, (real T).inb xs i K → π.inb xs i K
  put : ∀ xs i f K, (real T).put xs i f K → π.put xs i f K
  app : ∀ b s xs ys K, (real T).app b s xs ys K → π.app b s xs ys K
  len : ∀ xs K, (real T).len xs K → π.len xs K
  mks : ∀ b n c z K, (real T).mks b n c z K → π.mks b n c z K
  sli : ∀ xs l h K, (real T).sli xs l h K → π.sli xs l h K
  slen : ∀ s K, (real T).slen s K → π.slen s K
  sidx : ∀ s i K, (real T).sidx s i K → π.sidx s i K
  ssli : ∀ s l h K, (real T).ssli s l h K → π.ssli s l h K
  scat : ∀ a b K, (real T).scat a b K → π.scat a b K
  scmp : ∀ n a b K, (real T).scmp n a b K → π.scmp n a b K
  ofb : ∀ xs K, (real T).ofb xs K → π.ofb xs K
  chk : ∀ b K, (real T).chk b K → π.chk b K
  loop : ∀ F K S, (real T).loop F K S → π.loop F K S
theorem good_real : Good T (real T) := by constructor <;> intros <;> assumption

def resSem (tmps : Array Value) : ResultVar → Sem Value
  | .tmp t => pure (tmps.getD t undef)
  | .cell a t => do loadVar t (← asAddr (tmps.getD a undef))
theorem resOne_ok (hW : World1 P ty T) (g : Gam C S ρ a w) {x : ResultVar} {K : DV → Prop} (h : resOne ty S x K) : ∃ d v, K d ∧ (resSem a.tmps x).run P w = .ok v w ∧ RV w (fun t b => C.okx t b ∨ C.n0 ≤ b) d v := by
  cases x with
  | tmp t =>
    simp only [resOne] at h
    obtain ⟨d, k, r, h, g1, hd, _⟩ := gdv_ok g (g.slots t) h
    exact ⟨d, _, h, rfl, RV.mono (Nat.le_refl _) (fun t b hb _ => ⟨rfl, hb.1⟩) hd⟩
  | cell a' t =>
    simp only [resOne] at h
    have hx := g.slots a'
    split at h
    · rename_i s es i off hs
      rw [hs] at hx
      obtain ⟨_, k, hk, e1⟩ := hx
      have hb := g.blocks s
      split at h
      · rename_i cs hcs
        rw [hcs] at hb
        obtain ⟨b, arr, TT, e2, h1, h2, h3⟩ := hb
        rw [e2] at hk
        cases hk
        cases hc : (Nat.beq i 0 && Nat.beq off 0 && Nat.beq cs.length (ty t).size && (ty t).agg && Nat.ble 1 (ty t).size) with
        | false => rw [hc] at h; exact h.elim
        | true =>
          rw [hc] at h
          simp only [Bool.and_eq_true] at hc
          obtain ⟨⟨⟨⟨c1, c2⟩, c3⟩, c4⟩, c5⟩ := hc
          have c1 := Nat.eq_of_beq_eq_true c1
          have c2 := Nat.eq_of_beq_eq_true c2
          have c3 := Nat.eq_of_beq_eq_true c3
          subst c1
          subst c2
          have hlen := h3.length
          have ht := hW.types t (Nat.le_of_ble_eq_true c5)
          obtain ⟨v, h4, h5⟩ := run_loadVar_ok (P := P) (w := w) (ok := C.ok S.b ρ) ht (ad := ⟨b, 0, none⟩) rfl (cs := cs) c3 (fun j d hj => by
            obtain ⟨c, a1, a2⟩ := h3.get j d hj
            exact ⟨c, by rw [cell_of_row w b _ arr TT (0, 0) h2]; simpa using a1, a2⟩) (d := .ag cs) (by rw [c4]; rfl)
          refine ⟨_, v, h, ?_, RV.mono (Nat.le_refl _) (fun t b hb _ => ⟨rfl, hb.1⟩) h5⟩
          simp [resSem, e1, asAddr, h4]
      · exact h.elim
    · exact h.elim
theorem resAll_ok (hW : World1 P ty T) (g : Gam C S ρ a w) : ∀ (l : List ResultVar) {K : List DV → Prop}, resAll ty S l K → ∃ ds vs, K ds ∧ (l.mapM (resSem a.tmps)).run P w = .ok vs w ∧ RVs w (fun t b => C.okx t b ∨ C.n0 ≤ b) ds vs
  | [], K, h => ⟨[], [], h, rfl, trivial⟩
  | x :: l, K, h => by
    simp only [resAll] at h
    obtain ⟨d, v, h, h1, h2⟩ := resOne_ok hW g h
    obtain ⟨ds, vs, h, h3, h4⟩ := resAll_ok hW g l h
    refine ⟨d :: ds, v :: vs, h, ?_, h2, h4⟩
    rw [List.mapM_cons]
    simp only [Sem.run_bind, h1, Result.andThen, h3]
    rfl
theorem start_gam {okx : Nat → Nat → Prop} {w : World} {args : List DV} {vs : Array Value} {n : Nat} (hvs : RVs w (fun t b => okx t b ∨ w.heap.size ≤ b) args vs.toList) (hn : args.length ≤ n) :
    Gam ⟨w, okx, n⟩ (start args) (fun _ => .slice none 0 0) { tmps := vs ++ Array.replicate (n - vs.size) undef, defers := [] } w := by
  have hl := hvs.length
  have hno : ∀ k, ¬ Occ (start args).b (fun _ => .slice none 0 0) k := fun k ⟨s, h, _⟩ => h
  refine ⟨by simp at hl; simp; omega, rfl, Below.refl _ _, fun s => trivial, fun s s' k h => h.elim, fun k => ?_⟩
  have hat : ∀ (args : List DV) (vs : List Value) (k : Nat), RVs w (fun t b => okx t b ∨ w.heap.size ≤ b) args vs → (argT args k = .u) ∨ ∃ d v, argT args k = .v d ∧ vs[k]? = some v ∧ RV w (fun t b => okx t b ∨ w.heap.size ≤ b) d v := by
    intro args
    induction args with
    | nil => intro vs k _; exact .inl rfl
    | cons d args ih =>
      intro vs k h
      cases vs with
      | nil => exact h.elim
      | cons v vs =>
        cases k with
        | zero => exact .inr ⟨d, v, rfl, rfl, h.1⟩
        | succ k =>
          rcases ih vs k h.2 with h1 | ⟨d', v', h1, h2, h3⟩
          · exact .inl h1
          · exact .inr ⟨d', v', h1, by simpa using h2, h3⟩
  show AR w _ _ _ (argT args k) _
  rcases hat args vs.toList k hvs with h1 | ⟨d, v, h1, h2, h3⟩
  · rw [h1]; trivial
  · rw [h1]
    have h2' : vs[k]? = some v := by simpa using h2
    have hk : k < vs.size := (Array.getElem?_eq_some_iff.1 h2').1
    have : (vs ++ Array.replicate (n - vs.size) undef).getD k undef = v := by
      rw [Array.getD_eq_getD_getElem?, Array.getElem?_append_left hk, h2']
      rfl
    rw [this]
    exact RV.mono (Nat.le_refl _) (fun t b hb _ => ⟨rfl, hb, hno b⟩) h3
/-- The function's contract, out of its body. -/
theorem fn_ok (hW : World1 P ty T) {f : Nat} {fn : Func} (hf : P.funcs[f]? = some fn) {c : Code} (hb : fn.body = some c) {args rs : List DV} (hok : (codeOk fn.ntmps c && Nat.ble args.length fn.ntmps) = true)
    (h : ∀ π, Good T π → abody π ty fn args (fun rs' => SubVs rs' rs)) : CallOk P f args rs := by
  intro okx w vs hvs
  simp only [Bool.and_eq_true] at hok
  have hvs' := hvs.mono (w' := w) (Nat.le_refl _) (ok' := fun t b => okx t b ∨ w.heap.size ≤ b) (fun t b h _ => ⟨rfl, .inl h⟩)
  have hl := hvs.length
  have g := start_gam (n := fn.ntmps) hvs' (Nat.le_of_ble_eq_true hok.2)
  have hbody := h (real T) good_real
  unfold abody at hbody
  rw [hb] at hbody
  unfold abodyC at hbody
  refine calls_of_wp hf hb ?_
  refine wp_mono (acode_ok hW c hok.1 hbody g) ?_
  rintro e a' w' ⟨S', ρ', hk, g'⟩
  have fin : ∀ {K : List DV → Prop}, resAll ty S' fn.results.toList (fun rs' => SubVs rs' rs) → a'.defers = [] ∧ ∃ v, (results fn a'.tmps).run P w' = .ok v w' ∧ (∃ v', Ending.returned v = .returned v' ∧ Below w.heap.size w w' ∧
      ∃ us : List Value, RVs w' (fun t b => okx t b ∨ w.heap.size ≤ b) rs us ∧ v' = tupV us) := by
    intro K hr
    obtain ⟨ds, us, hsub, h1, h2⟩ := resAll_ok hW g' _ hr
    refine ⟨g'.defers, tupV us, ?_, _, rfl, g'.below, us, hsub.rv h2, rfl⟩
    have hres : results fn a'.tmps = (do let vs ← fn.results.mapM (resSem a'.tmps); pure (if h : vs.size = 1 then vs[0] else .tuple vs)) := by
      unfold results
      congr 1
    rw [hres, Array.mapM_eq_mapM_toList]
    simp only [Sem.run_bind, Sem.run_map, h1, Result.andThen]
    match us with
    | [] => rfl
    | [u] => rfl
    | u :: u' :: us => rfl
  cases e with
  | normal => exact fin (K := fun _ => True) hk
  | ret => exact fin (K := fun _ => True) hk
  | _ => exact hk.elim
end
end Go.Proofs.Ytpmlocilhhjifaa.Eng
