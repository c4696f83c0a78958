/- Package frac: does, by hand: closures in a map. -/
import Derived.Lib.LazyBuf
import Derived.Laws.EntriesVeiled
import Derived.MapKept
import Derived.Test.YtpmlocilhhjifaaGreatWClo
namespace Go.Proofs.YtpmlocilhhjifaaGreat.Eng
open Go.RowKit Go.Shelf Go.Proofs
set_option linter.unusedSimpArgs false
set_option linter.unusedVariables false
set_option maxRecDepth 100000
/-- Block r holds a map; whatever else lay is as it was. -/
theorem run_ins {P : Program} {W : World} {T k e : TypeId} {r : Nat} {es : Array MapEntry} {c : Nat} {s : ByteArray} {v : Value} (ht : P.underlying T = some (.map k e)) (hk : P.underlying k = some .string) (hr : W.heap[r]? = some (.map es c))
    (hf : Instr.findNow .string (.string s) es.toList 0 = some none) : ∃ W', (Instr.mapUpdate T (.map (some r)) (.string s) v).run P W = .ok () W' ∧ W'.heap[r]? = some (.map (es.push { key := .string s, val := v, born := c }) (c + 1)) ∧
      (∀ q, q ≠ r → W'.heap[q]? = W.heap[q]?) ∧ W'.heap.size = W.heap.size ∧ ∀ n₀, n₀ ≤ r → n₀ ≤ W.heap.size → Below n₀ W W' := by
  have hc : (Instr.checkKey false 10000 k (.string s)).run P W = .ok () W := MapKept.run_checkKey (k := .string s) hk (by simp [MapKept.IsKey]) false 9999
  have h2 := MapKept.heap_set (o' := .map (es.push { key := .string s, val := v, born := c }) (c + 1)) hr
  refine ⟨{ W with heap := W.heap.setIfInBounds r (.map (es.push { key := .string s, val := v, born := c }) (c + 1)) }, ?_, h2.1, h2.2, by simp, fun n₀ hn hs => ?_⟩
  · simp [Instr.mapUpdate, run_underlying ht, MapKept.run_getObj_map hr, hc, MapKept.run_findKey hk hf, MapKept.run_setObj_map _ hr, Result.andThen]
  · exact ⟨rfl, rfl, rfl, by simp, fun k hk => h2.2 k (by omega)⟩
theorem run_look {P : Program} {W : World} {T k e : TypeId} {r : Nat} {es : Array MapEntry} {c i : Nat} {s : ByteArray} {v : Value} (ht : P.underlying T = some (.map k e)) (hk : P.underlying k = some .string) (hr : W.heap[r]? = some (.map es c))
    (hf : Instr.findNow .string (.string s) es.toList 0 = some (some (i, v))) : (Instr.lookup T (.map (some r)) (.string s) false).run P W = .ok v W := by
  have hc : ∀ b, (Instr.checkKey b 10000 k (.string s)).run P W = .ok () W := fun b => MapKept.run_checkKey (k := .string s) hk (by simp [MapKept.IsKey]) b 9999
  simp [Instr.lookup, run_underlying ht, MapKept.run_getObj_map hr, hc, MapKept.run_findKey hk hf, Result.andThen]
theorem run_fld (f : Nat) (W : World) : (Instr.field 98 (.agg #[.func (.func f) #[] #[]]) 0).run Tryz.prog W = .ok (.func (.func f) #[] #[]) W := by
  simp [Instr.field, run_underlying Tryz.underlying98, part, isAgg, run_underlying Tryz.underlying96, asAgg, Result.andThen]
theorem cells4 {W : World} {b t : Nat} {a0 a1 a2 a3 : Value} (h : W.heap[b]? = some (.cells #[a0, a1, a2, a3] t (0, 0))) : W.cell? ⟨b, 0, none⟩ = some a0 ∧ W.cell? ⟨b, 1, none⟩ = some a1 ∧ W.cell? ⟨b, 2, none⟩ = some a2 ∧ W.cell? ⟨b, 3, none⟩ = some a3 := by
  simp [World.cell?, h]
theorem frozen4 {W : World} {b t : Nat} {a0 a1 a2 a3 : Value} (h : W.heap[b]? = some (.cells #[a0, a1, a2, a3] t (0, 0))) : ∀ j, W.frozen? ⟨b, j, none⟩ = false := fun j => by
  simp [World.frozen?, h]
/-- Facts that the walk is not to look at. -/
structure Hid (p : Prop) : Prop where
  out : p
set_option maxHeartbeats 4000000 in
theorem does_in (w : World) (a0 a1 a2 a3 b0 b1 b2 b3 : Value) (s : ByteArray) (f i : Nat) (pa pb pc pr : DV) (ok : Nat → Nat → Prop)
    (hs : Instr.findNow .string (.string s) [{ key := .string ⟨#[97, 100, 100]⟩, val := (.agg #[.func (.func 70) #[] #[]]), born := 0 }, { key := .string ⟨#[115, 117, 98]⟩, val := (.agg #[.func (.func 72) #[] #[]]), born := 0 + 1 }, { key := .string ⟨#[109, 117, 108]⟩, val := (.agg #[.func (.func 73) #[] #[]]), born := 0 + 1 + 1 }, { key := .string ⟨#[100, 105, 118]⟩, val := (.agg #[.func (.func 74) #[] #[]]), born := 0 + 1 + 1 + 1 }] 0 = some (some (i, .agg #[.func (.func f) #[] #[]])))
    (hok : ∀ t b, ok t b → b < w.heap.size ∨ w.heap.size + 4 ≤ b)
    (hcf : ∀ (args : Array Value) (W : World), (callFunc f args).run Tryz.prog W = .ok (.enter f args) W)
    (hA : ∀ W, Below w.heap.size w W → w.heap.size + 4 ≤ W.heap.size → Calls Tryz.prog 43 #[.agg #[a0, a1, a2, a3]] W fun e w' => ∃ v, e = .returned v ∧ Below W.heap.size W w' ∧ RV w' ok pa v)
    (hB : ∀ W, Below w.heap.size w W → w.heap.size + 4 ≤ W.heap.size → Calls Tryz.prog 43 #[.agg #[b0, b1, b2, b3]] W fun e w' => ∃ v, e = .returned v ∧ Below W.heap.size W w' ∧ RV w' ok pb v)
    (hC : ∀ W va vb, Below w.heap.size w W → w.heap.size + 4 ≤ W.heap.size → RV W ok pa va → RV W ok pb vb → Calls Tryz.prog f #[va, vb] W fun e w' => ∃ v, e = .returned v ∧ Below W.heap.size W w' ∧ RV w' ok pc v)
    (hD : ∀ W v, Below w.heap.size w W → w.heap.size + 4 ≤ W.heap.size → RV W ok pc v → Calls Tryz.prog 75 #[v] W fun e w' => ∃ (x0 : Bool) (ad : Option Addr) (n1 m1 : Nat) (x2 : Bool) (ad' : Option Addr) (n2 m2 : Nat), e = .returned (.agg #[.bool x0, .slice ad n1 m1, .bool x2, .slice ad' n2 m2]) ∧ Below W.heap.size W w' ∧ RV w' ok pr (.agg #[.bool x0, .slice ad n1 m1, .bool x2, .slice ad' n2 m2])) :
    Calls Tryz.prog 47 #[.string s, .agg #[a0, a1, a2, a3], .agg #[b0, b1, b2, b3]] w fun e w' => ∃ v, e = .returned v ∧ Below w.heap.size w w' ∧ RV w' ok pr v := by
  have hmm := @run_makeMap Tryz.prog
  obtain ⟨W3, hW3⟩ : ∃ W3, (((w.alloc (.cells #[a0, a1, a2, a3] 31)).alloc (.cells #[b0, b1, b2, b3] 31)).alloc (.cells #[.bool false, .slice none 0 0, .bool false, .slice none 0 0] 31)).alloc (.map #[] 0) = W3 := ⟨_, rfl⟩
  have hb3 : Below w.heap.size w W3 := by rw [← hW3]; exact ((((Below.refl _ w).alloc (Nat.le_refl _) _).alloc (by simp) _).alloc (by simp; omega) _).alloc (by simp; omega) _
  have hsz : W3.heap.size = w.heap.size + 4 := by rw [← hW3]; simp
  have m0 : W3.heap[(w.heap.size + 1 + 1 + 1)]? = some (.map #[] 0) := by rw [← hW3]; have := World.alloc_heap_new (((w.alloc (.cells #[a0, a1, a2, a3] 31)).alloc (.cells #[b0, b1, b2, b3] 31)).alloc (.cells #[.bool false, .slice none 0 0, .bool false, .slice none 0 0] 31)) (.map #[] 0); simpa using this
  have x0 : W3.heap[w.heap.size]? = some (.cells #[a0, a1, a2, a3] 31) := by rw [← hW3]; exact ((Below.heap_alloc _ _ _ (by simp <;> omega)).trans ((Below.heap_alloc _ _ _ (by simp <;> omega)).trans (Below.heap_alloc _ _ _ (by simp)))).trans (World.alloc_heap_new w _)
  have y0 : W3.heap[(w.heap.size + 1)]? = some (.cells #[b0, b1, b2, b3] 31) := by rw [← hW3]; have := World.alloc_heap_new (w.alloc (.cells #[a0, a1, a2, a3] 31)) (.cells #[b0, b1, b2, b3] 31); rw [World.size_alloc] at this; exact ((Below.heap_alloc _ _ _ (by simp <;> omega)).trans (Below.heap_alloc _ _ _ (by simp <;> omega))).trans this
  have r0 : W3.heap[(w.heap.size + 1 + 1)]? = some (.cells #[.bool false, .slice none 0 0, .bool false, .slice none 0 0] 31) := by rw [← hW3]; have := World.alloc_heap_new ((w.alloc (.cells #[a0, a1, a2, a3] 31)).alloc (.cells #[b0, b1, b2, b3] 31)) (.cells #[.bool false, .slice none 0 0, .bool false, .slice none 0 0] 31); simp only [World.size_alloc] at this; exact (Below.heap_alloc _ _ _ (by simp <;> omega)).trans this
  obtain ⟨W4, h1, m1, k1, z1, q1⟩ := run_ins (s := ⟨#[97, 100, 100]⟩) (v := (.agg #[.func (.func 70) #[] #[]])) Tryz.underlying99 Tryz.underlying9 m0 rfl
  obtain ⟨W5, h2, m2, k2, z2, q2⟩ := run_ins (s := ⟨#[115, 117, 98]⟩) (v := (.agg #[.func (.func 72) #[] #[]])) Tryz.underlying99 Tryz.underlying9 m1 rfl
  obtain ⟨W6, h3, m3, k3, z3, q3⟩ := run_ins (s := ⟨#[109, 117, 108]⟩) (v := (.agg #[.func (.func 73) #[] #[]])) Tryz.underlying99 Tryz.underlying9 m2 rfl
  obtain ⟨W7, h4, m4, k4, z4, q4⟩ := run_ins (s := ⟨#[100, 105, 118]⟩) (v := (.agg #[.func (.func 74) #[] #[]])) Tryz.underlying99 Tryz.underlying9 m3 rfl
  have hkeep : ∀ q, q ≠ (w.heap.size + 1 + 1 + 1) → W7.heap[q]? = W3.heap[q]? := fun q hq => (k4 q hq).trans ((k3 q hq).trans ((k2 q hq).trans (k1 q hq)))
  have hb7 : Below w.heap.size w W7 := (((hb3.trans (q1 _ (by omega) (by omega))).trans (q2 _ (by omega) (by omega))).trans (q3 _ (by omega) (by omega))).trans (q4 _ (by omega) (by omega))
  have x7 := (hkeep w.heap.size (by omega)).trans x0
  have y7 := (hkeep (w.heap.size + 1) (by omega)).trans y0
  have r7 := (hkeep (w.heap.size + 1 + 1) (by omega)).trans r0
  have hs7 : W7.heap.size = w.heap.size + 4 := by omega
  clear k1 k2 k3 k4 m0 m1 m2 m3 hkeep q1 q2 q3 q4 x0 y0 r0
  obtain ⟨M, hM⟩ : ∃ M : Array MapEntry, M = (((#[].push { key := .string ⟨#[97, 100, 100]⟩, val := (.agg #[.func (.func 70) #[] #[]]), born := 0 }).push { key := .string ⟨#[115, 117, 98]⟩, val := (.agg #[.func (.func 72) #[] #[]]), born := 0 + 1 }).push { key := .string ⟨#[109, 117, 108]⟩, val := (.agg #[.func (.func 73) #[] #[]]), born := 0 + 1 + 1 }).push { key := .string ⟨#[100, 105, 118]⟩, val := (.agg #[.func (.func 74) #[] #[]]), born := 0 + 1 + 1 + 1 } := ⟨_, rfl⟩
  rw [← hM] at m4
  have hf : Instr.findNow .string (.string s) M.toList 0 = some (some (i, .agg #[.func (.func f) #[] #[]])) := by rw [hM]; exact hs
  clear hM hs
  have hlk : ∀ W : World, W.heap[(w.heap.size + 1 + 1 + 1)]? = some (.map M (0 + 1 + 1 + 1 + 1)) → (Instr.lookup 99 (.map (some (w.heap.size + 1 + 1 + 1))) (.string s) false).run Tryz.prog W = .ok (.agg #[.func (.func f) #[] #[]]) W := fun W hW => run_look Tryz.underlying99 Tryz.underlying9 hW hf
  have hl7 := hlk W7.drew m4
  obtain ⟨xa, xb, xc, xd⟩ := cells4 x7
  obtain ⟨ya, yb, yc, yd⟩ := cells4 y7
  have hfl := run_fld f W7.drew
  have zA := hA W7.drew hb7.drew (by show _ ≤ W7.heap.size; omega)
  go_enter Tryz.func47, Tryz.ntmps47
  go_wp2
  have X := Hid.mk (And.intro hB (And.intro hC (And.intro hD (And.intro hlk (And.intro hb7 (And.intro r7 (And.intro y7 (And.intro m4 hs7))))))))
  have hfl := run_fld f
  clear hA hB hC hD hlk hb7 r7 y7 m4 hs7 h1 h2 h3 h4 hmm hW3 hb3 hsz z1 z2 z3 z4 x7 hf
  go_region_with (first
    | (go_at_call 43; refine zA.mono ?_; rintro e w1 ⟨va, rfl, hb1, hva⟩; clear zA xa xb xc xd ya yb yc yd; obtain ⟨hB, hC, hD, hlk, hb7, r7, y7, m4, hs7⟩ := X.out; have hbw1 : Below w.heap.size w w1 := hb7.drew.trans (hb1.mono (by show w.heap.size ≤ W7.heap.size; omega)); have hsz1 : W7.heap.size ≤ w1.heap.size := hb1.size; have y1 := (hb1.block (w.heap.size + 1) (by show _ < W7.heap.size; omega)).trans y7; have r1 := (hb1.block (w.heap.size + 1 + 1) (by show _ < W7.heap.size; omega)).trans r7; have m1 := (hb1.block (w.heap.size + 1 + 1 + 1) (by show _ < W7.heap.size; omega)).trans m4; have hl1 := hlk w1 m1; obtain ⟨ya1, yb1, yc1, yd1⟩ := cells4 y1; have zB := hB w1 hbw1 (by omega); have X1 := Hid.mk (And.intro hC (And.intro hD (And.intro hlk (And.intro hbw1 (And.intro r1 (And.intro m1 (And.intro hva (show w.heap.size + 4 ≤ w1.heap.size by omega)))))))); clear hB hC hD hlk hb7 r7 y7 m4 hs7 hb1 hbw1 hsz1 y1 r1 m1 hva X)
    | (go_at_call 43; refine zB.mono ?_; rintro e w2 ⟨vb, rfl, hb2, hvb⟩; clear zB ya1 yb1 yc1 yd1; obtain ⟨hC, hD, hlk, hbw1, r1, m1, hva, hs1⟩ := X1.out; have hbw2 : Below w.heap.size w w2 := hbw1.trans (hb2.mono (by omega)); have hsz2 : w1.heap.size ≤ w2.heap.size := hb2.size; have r2 := (hb2.block (w.heap.size + 1 + 1) (by omega)).trans r1; have m2 := (hb2.block (w.heap.size + 1 + 1 + 1) (by omega)).trans m1; have hl2 := hlk w2 m2; have hva2 := hva.mono hb2.size (fun t b h1 h2 => ⟨hb2.block b h2, h1⟩); have zC := hC w2 va vb hbw2 (by omega) hva2 hvb; have X2 := Hid.mk (And.intro hD (And.intro hbw2 (And.intro r2 (show w.heap.size + 4 ≤ w2.heap.size by omega)))); clear hC hD hlk hbw1 r1 m1 hva hs1 hb2 hvb hbw2 hsz2 r2 m2 hva2 X1)
    | (refine zC.mono ?_; rintro e w3 ⟨vc, rfl, hb3', hvc⟩; clear zC; obtain ⟨hD, hbw2, r2, hs2⟩ := X2.out; have hbw3 : Below w.heap.size w w3 := hbw2.trans (hb3'.mono (by omega)); have hsz3 : w2.heap.size ≤ w3.heap.size := hb3'.size; have r3 := (hb3'.block (w.heap.size + 1 + 1) (by omega)).trans r2; have zD := hD w3 vc hbw3 (by omega) hvc; have X3 := Hid.mk (And.intro hbw3 (And.intro r3 (show w.heap.size + 4 ≤ w3.heap.size by omega))); clear hD hbw2 r2 hs2 hb3' hvc hbw3 hsz3 r3 X2)
    | (go_at_call 75; refine zD.mono ?_; rintro e w4 ⟨c0, ad, n1, m1, c2, ad', n2, m2, rfl, hb4', hvr⟩; clear zD; obtain ⟨hbw3, r3, hs3⟩ := X3.out; have hbw4 : Below w.heap.size w w4 := hbw3.trans (hb4'.mono (by omega)); have r4 := (hb4'.block (w.heap.size + 1 + 1) (by omega)).trans r3; obtain ⟨ra, rb, rc, rd⟩ := cells4 r4; have rf := frozen4 r4; have X4 := Hid.mk (And.intro hbw4 (And.intro r4 hvr)); clear hbw3 r3 hs3 hbw4 r4 hb4' hvr X3))
  all_goals
    obtain ⟨hbw4, r4, hvr⟩ := X4.out
    have k1 := set_heap (off := 0) r4 (.bool c0)
    have k2 := set_heap (off := 1) k1 (.slice ad n1 m1)
    have k3 := set_heap (off := 2) k2 (.bool c2)
    have k4 := set_heap (off := 3) k3 (.slice ad' n2 m2)
    have hbz := (((hbw4.setCell (p := ⟨(w.heap.size + 1 + 1), 0, none⟩) (by show w.heap.size ≤ (w.heap.size + 1 + 1); omega) (.bool c0)).setCell (p := ⟨(w.heap.size + 1 + 1), 1, none⟩) (by show w.heap.size ≤ (w.heap.size + 1 + 1); omega) (.slice ad n1 m1)).setCell (p := ⟨(w.heap.size + 1 + 1), 2, none⟩) (by show w.heap.size ≤ (w.heap.size + 1 + 1); omega) (.bool c2)).setCell (p := ⟨(w.heap.size + 1 + 1), 3, none⟩) (by show w.heap.size ≤ (w.heap.size + 1 + 1); omega) (.slice ad' n2 m2)
    have hvz := hvr.mono (w' := (((w4.setCell ⟨(w.heap.size + 1 + 1), 0, none⟩ (.bool c0)).setCell ⟨(w.heap.size + 1 + 1), 1, none⟩ (.slice ad n1 m1)).setCell ⟨(w.heap.size + 1 + 1), 2, none⟩ (.bool c2)).setCell ⟨(w.heap.size + 1 + 1), 3, none⟩ (.slice ad' n2 m2)) (by simp [World.setCell]) (fun t b g1 g2 => ⟨by
      have hne : b ≠ (w.heap.size + 1 + 1) := by have := hok t b g1; omega
      exact (Below.heap_setCell _ _ _ b hne).trans ((Below.heap_setCell _ _ _ b hne).trans ((Below.heap_setCell _ _ _ b hne).trans (Below.heap_setCell _ _ _ b hne))), g1⟩)
    obtain ⟨qa, qb, qc, qd⟩ := cells4 (a0 := .bool c0) (a1 := .slice ad n1 m1) (a2 := .bool c2) (a3 := .slice ad' n2 m2) k4
    clear X4 hbw4 r4 hvr k1 k2 k3 k4 hok
    go_wp2
    refine bodyPost_ret (v := .agg #[.bool c0, .slice ad n1 m1, .bool c2, .slice ad' n2 m2]) ?_ rfl ⟨_, rfl, hbz, hvz⟩
    simp [results, Tryz.f47, go_sem, qa, qb, qc, qd]
end Go.Proofs.YtpmlocilhhjifaaGreat.Eng
