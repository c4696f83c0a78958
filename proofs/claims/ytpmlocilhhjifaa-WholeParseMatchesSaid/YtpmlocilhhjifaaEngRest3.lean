/- The other operations, third part. -/
import Derived.Test.YtpmlocilhhjifaaEngRest2
set_option linter.unusedSimpArgs false
set_option linter.unusedVariables false
namespace Go.Proofs.Ytpmlocilhhjifaa.Eng
open Go.RowKit
section
variable {P : Program} {ty : Nat → TI} {T : Nat → List DV → List DV → Prop} {C : Ctx} {S : AS} {ρ : Nat → Value} {a : Act} {w : World}

theorem buildSlice_ok (hW : World1 P ty T) (g : Gam C S ρ a w) {o : Oper} {t n : Nat} {ps : Array (Nat × Operand)} (hop : o.op = .buildSlice t n ps) {K : Eff → Prop}
    (h : match elem? ty t with
    | some e => bif Nat.beq n ps.size && idxOk ps.toList 0 && Nat.ble n 1000 && Nat.ble (ty e).size 1000 then gdvs ty S (ps.toList.map fun q => (e, q.2)) fun ds k r => anew S o.dst fun d =>
        bif (ds.all fun x => Nat.beq x.cells.length (ty e).size) then K ⟨.ow d, k ++ [(d, .ar e (ty e).size (ds.map DV.cells))], r⟩ else False
      else False
    | none => False) : ∃ E, K E ∧ Done P C S a w o E := by
  split at h
  case h_2 => exact h.elim
  rename_i e he
  obtain ⟨hu, hes, hte⟩ := run_underlying_slc hW he
  cases hc : (Nat.beq n ps.size && idxOk ps.toList 0 && Nat.ble n 1000 && Nat.ble (ty e).size 1000) with
  | false => rw [hc] at h; exact h.elim
  | true =>
    rw [hc] at h
    simp only [cond_true] at h
    simp only [Bool.and_eq_true] at hc
    obtain ⟨⟨⟨c1, c2⟩, c3⟩, c4⟩ := hc
    have c1 := Nat.eq_of_beq_eq_true c1
    have c2 := idxOk_eq _ _ c2
    have c3 := Nat.le_of_ble_eq_true c3
    have c4 := Nat.le_of_ble_eq_true c4
    obtain ⟨ds, k, r, h, g1, hds, hno1, hok⟩ := gdvs_ok _ g h
    obtain ⟨d, hd, hno, h⟩ := anew_ok h
    cases hal : (ds.all fun x => Nat.beq x.cells.length (ty e).size) with
    | false => rw [hal] at h; exact h.elim
    | true =>
      rw [hal] at h
      simp only [cond_true] at h
      have hrow : ∀ x ∈ ds, x.cells.length = (ty e).size := fun x hx => Nat.eq_of_beq_eq_true (List.all_eq_true.1 hal x hx)
      have hds' : RVs w (C.ok (setB S.b k) ρ) ds (ps.toList.map fun q => a.eval q.2) := by simpa [List.map_map, Function.comp_def] using hds
      have hlen := RVs.len_map hds'
      have hn : ds.length = n := by rw [hlen, c1]; simp
      obtain ⟨i, z, hi, hsz, hby, hz, hzero⟩ := hte.info
      obtain ⟨hzd, hzs⟩ := zero_cells (w := w) hte (i := i) hzero (C.ok (setB S.b k) ρ)
      have hmade : (madeCells z.cells (n * (ty e).size)).toList = (List.replicate n z.cells.toList).flatten := by
        have := madeCells_eq z.cells (by omega) n
        rwa [hzs] at this
      have hrd0 : RDs w (C.ok (setB S.b k) ρ) (List.replicate n (ty e).zero).flatten (madeCells z.cells (n * (ty e).size)).toList := by
        rw [hmade]; exact replicate_flat (es := 0) hzd n
      have hrf := rows_fill (es := (ty e).size) ds 0 [] (List.replicate n (ty e).zero).flatten hrow (by simp) (by
        rw [flat_len (es := (ty e).size) _ (fun x hx => by rw [(List.mem_replicate.1 hx).2]; exact hte.zero.1)]; simp [hn])
      obtain ⟨arr, hfill, harr⟩ := fill_ok (w := w) (fun i => some (i * (ty e).size, (ty e).size)) (ps.toList.map (·.1)) ds (ps.toList.map fun q => a.eval q.2) _ _ (madeCells z.cells (n * (ty e).size)) (by simp [hlen]) hds' hrd0 (by
        rw [c2, ← hlen]; simpa using hrf)
      rw [zip_map_eval] at hfill
      have hsz2 : arr.size = n * (ty e).size := by
        have h1 := harr.length
        rw [flat_len (es := (ty e).size) _ (fun x hx => by obtain ⟨y, hy, rfl⟩ := List.mem_map.1 hx; exact hrow y hy)] at h1
        simpa [hn] using h1
      have hb : Below w.heap.size w (w.alloc (.cells arr e (0, 0))) := (Below.refl _ w).alloc (Nat.le_refl _) _
      have hbk : ∀ j, blkOf (.slice (some (⟨w.heap.size, 0, none⟩ : Addr)) n n) = some j → w.heap.size ≤ j := fun j hj => by cases hj; exact Nat.le_refl _
      have hown := World.ownsRow_lit (base := C.n0) (e := e) (size := (ty e).size) w arr n g.size_le (by unfold maxLen; omega) hsz2
      have hrun : (execOp a.eval o).run P w = .ok (.value (.slice (some ⟨w.heap.size, 0, none⟩) n n)) (w.alloc (.cells arr e (0, 0))) := by
        unfold execOp
        rw [hop]
        have hps : (ps.map fun x => match x with | (i, x) => (i, a.eval x)).toList = ps.toList.map fun q => (q.1, a.eval q.2) := by simp
        have hnn : n * (ty e).size ≤ 16777216 := by
          have : n * (ty e).size ≤ 1000 * 1000 := Nat.mul_le_mul c3 c4
          omega
        have hnn' : ¬ (16777216 < n * (ty e).size) := by omega
        by_cases h0 : n * (ty e).size = 0
        · have : madeCells z.cells (n * (ty e).size) = #[] := by rw [h0]; simp [madeCells]
          rw [this] at hfill
          rcases Nat.mul_eq_zero.1 h0 with h00 | h00
          · have hr0 : (Array.range 0 : Array Nat) = #[] := by simp
            simp [Instr.buildSlice, run_underlying hu, run_size hte, h00, hps, hfill, newRow, hr0]
          · omega
        · have hn0 : ¬ n = 0 := by rintro rfl; simp at h0
          have hs0 : ¬ (ty e).size = 0 := by omega
          unfold madeCells at hfill
          simp [Instr.buildSlice, run_underlying hu, run_size hte, hnn', h0, zeroValue, typeInfo, hi, hz, hps, hfill, newRow]
      have := arr_done (S := { t := S.t, b := setB S.b k }) g1 (o := o) (hno1 d hno) (e := e) (es := (ty e).size) (xs := ds.map DV.cells) hes (fun x hx => by obtain ⟨y, hy, rfl⟩ := List.mem_map.1 hx; exact hrow y hy) hb hbk
        (by rw [List.length_map, hn]; exact hown) ((show RDs w _ _ _ from by simpa using harr).mono hb.size (new_ok hb hbk)) hrun r
      obtain ⟨nn, v, w', ρ', h1, h2, h3, h4⟩ := this
      exact ⟨_, h, nn, v, w', ρ', h1, h2, by rw [setB_append]; exact h3, by rw [setB_append]; exact h4⟩
theorem optI_ok (g : Gam C S ρ a w) {x : Option Operand} {K : Option Int → Prop} (h : optI ty S x K) : (x = none ∧ K none) ∨ ∃ o n k, x = some o ∧ K (some n) ∧ a.eval o = .int k n := by
  unfold optI at h
  split at h
  · exact .inl ⟨rfl, h⟩
  · rename_i o
    split at h
    · rename_i n hn
      obtain ⟨k, e⟩ := asI_ok (ev_ok (ty := ty) g 3 o) hn
      exact .inr ⟨o, n, k, rfl, h, e⟩
    · exact h.elim
theorem bounds_ok {isS : Bool} {len cap : Nat} {lo hi : Option Operand} {l h : Nat} {lI hI : Option Int} (hlo : (lo = none ∧ lI = none) ∨ ∃ o n k, lo = some o ∧ lI = some n ∧ a.eval o = .int k n)
    (hhi : (hi = none ∧ hI = none) ∨ ∃ o n k, hi = some o ∧ hI = some n ∧ a.eval o = .int k n) (h1 : loOk lI l) (h2 : hiOk hI len h) (h3 : l ≤ h) (h4 : h ≤ len) (h5 : len ≤ cap) :
    (Instr.sliceBounds isS len cap (lo.map a.eval) (hi.map a.eval) none).run P w = .ok (l, h, cap) w := by
  have sb : ∀ (k : IntKind) (n y : Nat) (code : BoundsCode), n ≤ y → (Instr.sliceBound (.int k (n : Int)) y code).run P w = .ok n w := fun k n y code hn => by
    have : (0 : Int) ≤ n ∧ (n : Int) ≤ y := ⟨by omega, by omega⟩
    simp only [Instr.sliceBound, asIntOf, Sem.run_bind, Sem.run_pure, Result.andThen]
    rw [if_pos this]
    simp
  rcases hlo with ⟨rfl, rfl⟩ | ⟨ol, nl, kl, rfl, rfl, el⟩ <;> rcases hhi with ⟨rfl, rfl⟩ | ⟨oh, nh, kh, rfl, rfl, eh⟩ <;> simp only [loOk, hiOk] at h1 h2 <;> subst h1 <;> subst h2
  · simp [Instr.sliceBounds]
  · simp [Instr.sliceBounds, eh, sb kh h cap _ (by omega)]
  · simp [Instr.sliceBounds, el, sb kl l _ _ h3]
  · simp [Instr.sliceBounds, el, eh, sb kh h cap _ (by omega), sb kl l h _ h3]
theorem str_slice_ok (hW : World1 P ty T) (g : Gam C S ρ a w) {o : Oper} {t : Nat} {x : Operand} {lo hi : Option Operand} (hop : o.op = .slice t x lo hi none) {K : Eff → Prop}
    (h : match (ty t).kd with
    | .str => match ev ty S t x with
      | .v (.one (.sc (.string s))) => optI ty S lo fun l => optI ty S hi fun h => (real T).ssli s l h fun s' => K ⟨.v (.one (.sc (.string s'))), [], []⟩
      | _ => False
    | .slc e => gdv S (ev ty S t x) fun d k r => match d with
      | .one (.sl tg sz xs) => bif Nat.beq sz (ty e).size then optI ty S lo fun l => optI ty S hi fun h => (real T).sli xs l h fun ys => K ⟨.v (.one (.sl tg sz ys)), k, r⟩ else False
      | _ => False
    | _ => False) : ∃ E, K E ∧ Done P C S a w o E := by
  have hx := ev_ok (ty := ty) g t x
  split at h
  · rename_i hkd
    have hu := str_of hW hkd
    split at h
    · rename_i s he
      rw [he] at hx
      have e1 : a.eval x = .string s := RD.sc_inv hx
      rcases optI_ok g h with ⟨q1, h⟩ | ⟨ol, nl, kl, q1, h, el⟩ <;> rcases optI_ok g h with ⟨q2, h⟩ | ⟨oh, nh, kh, q2, h, eh⟩ <;> obtain ⟨l, hh, b1, b2, b3, b4, h⟩ := h <;>
        refine ⟨_, h, Done.pure (v := .string (s.extract l hh)) g ?_ (RD.sc _ rfl)⟩
      all_goals
        have hb := bounds_ok (P := P) (w := w) (a := a) (isS := false) (cap := s.size) (lo := lo) (hi := hi) (by first | exact .inl ⟨q1, rfl⟩ | exact .inr ⟨_, _, _, q1, rfl, el⟩) (by first | exact .inl ⟨q2, rfl⟩ | exact .inr ⟨_, _, _, q2, rfl, eh⟩) b1 b2 b3 b4 (Nat.le_refl _)
        unfold execOp
        rw [hop]
        simp [Instr.sliceAt, Instr.slice, run_underlying hu, e1, hb]
    · exact h.elim
  · rename_i e hkd
    obtain ⟨hu, hes, hte⟩ := slc_of hW hkd
    obtain ⟨d, k, r, h, g1, hd, hkf⟩ := gdv_ok g hx h
    split at h
    · rename_i tg sz xs
      cases hsz : Nat.beq sz (ty e).size with
      | false => rw [hsz] at h; exact h.elim
      | true =>
        rw [hsz] at h
        simp only [cond_true] at h
        have hsz := Nat.eq_of_beq_eq_true hsz
        subst hsz
        -- the value, and a part of it
        have main : ∀ (lI hI : Option Int) (l hh : Nat), ((lo = none ∧ lI = none) ∨ ∃ o n k, lo = some o ∧ lI = some n ∧ a.eval o = .int k n) → ((hi = none ∧ hI = none) ∨ ∃ o n k, hi = some o ∧ hI = some n ∧ a.eval o = .int k n) →
            loOk lI l → hiOk hI xs.length hh → l ≤ hh → hh ≤ xs.length → Done P C S a w o ⟨.v (.one (.sl tg (ty e).size ((xs.take hh).drop l))), k, r⟩ := by
          intro lI hI l hh c1 c2 c3 c4 c5 c6
          have hd' : RD w (C.ok (setB S.b k) ρ) (.sl tg (ty e).size xs) (a.eval x) := hd
          revert hd'
          generalize hvx : a.eval x = vx
          intro hd'
          cases hd' with
          | nil =>
            have hh0 : hh = 0 := by simpa using c6
            have hl0 : l = 0 := by omega
            subst hh0
            subst hl0
            have hb := bounds_ok (P := P) (w := w) (a := a) (isS := true) (len := 0) (cap := 0) c1 c2 c3 c4 c5 c6 (Nat.le_refl _)
            refine ⟨_, .slice none 0 0, w, ρ, ?_, .inl rfl, g1, RD.nil _ _⟩
            unfold execOp
            rw [hop]
            simp [Instr.sliceAt, Instr.slice, run_underlying hu, hvx, hb, run_size hte]
          | sl _ _ _ ad cap cs ht h1 h2 h3 h4 h5 h6 =>
            have hb := bounds_ok (P := P) (w := w) (a := a) (isS := true) (len := xs.length) (cap := cap) c1 c2 c3 c4 c5 c6 h2
            refine ⟨_, .slice (some (if cap = l then ad else ad.add (l * (ty e).size))) (hh - l) (cap - l), w, ρ, ?_, .inl rfl, g1, ?_⟩
            · unfold execOp
              rw [hop]
              simp only [Instr.sliceAt, Instr.slice, Sem.run_bind, run_underlying hu, hvx, hb, run_size hte, Result.andThen]
              by_cases hcl : cap = l
              · subst hcl; simp [hb]
              · simp [hcl, hb]
            · have hlen : ((xs.take hh).drop l).length = hh - l := by simp; omega
              show RD w (C.ok (setB S.b k) ρ) (.sl tg (ty e).size ((xs.take hh).drop l)) _
              rw [← hlen]
              have hget : ∀ (i : Nat) z, ((xs.take hh).drop l)[i]? = some z → xs[l + i]? = some z := fun i z hz => by
                rw [List.getElem?_drop, List.getElem?_take] at hz
                split at hz
                · exact hz
                · cases hz
              refine .sl tg (ty e).size _ _ (cap - l) (fun i j => cs (l + i) j) ht (fun hne => ?_) (by omega) (by omega) (fun i z hz => h4 _ z (hget i z hz)) (fun i j z dd hz hj => ?_) (fun i j z dd hz hj => h6 _ j z dd (hget i z hz) hj)
              · have hxne : xs ≠ [] := by rintro rfl; simp at hne
                have hcl : cap ≠ l := by
                  intro hq
                  apply hne
                  apply List.eq_nil_of_length_eq_zero
                  omega
                rw [if_neg hcl, addr_add (h1 hxne).1]
                exact ⟨rfl, (h1 hxne).2⟩
              · have hxne : xs ≠ [] := by rintro rfl; simp at hz
                have hlt : i < ((xs.take hh).drop l).length := (List.getElem?_eq_some_iff.1 hz).1
                have hcl : cap ≠ l := by omega
                rw [if_neg hcl, addr_add (h1 hxne).1]
                have := h5 (l + i) j z dd (hget i z hz) hj
                rw [Nat.add_mul, ← Nat.add_assoc] at this
                exact this
        rcases optI_ok g h with ⟨q1, h⟩ | ⟨ol, nl, kl, q1, h, el⟩ <;> rcases optI_ok g h with ⟨q2, h⟩ | ⟨oh, nh, kh, q2, h, eh⟩ <;> obtain ⟨l, hh, b1, b2, b3, b4, h⟩ := h <;>
          refine ⟨_, h, main _ _ l hh (by first | exact .inl ⟨q1, rfl⟩ | exact .inr ⟨_, _, _, q1, rfl, el⟩) (by first | exact .inl ⟨q2, rfl⟩ | exact .inr ⟨_, _, _, q2, rfl, eh⟩) b1 b2 b3 b4⟩
    · exact h.elim
  · exact h.elim
end
end Go.Proofs.Ytpmlocilhhjifaa.Eng
