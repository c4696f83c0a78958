/- slices.Clone and slices.Reverse, by hand. -/
import Derived.Lib.LazyBuf
import Derived.Test.YtpmlocilhhjifaaClo6
namespace Go.Proofs.Ytpmlocilhhjifaa.Eng
open Go.RowKit Go.Shelf Go.Proofs
attribute [local go_sem] Oper.semAt_some
set_option linter.unusedSimpArgs false
set_option linter.unusedVariables false
set_option maxRecDepth 100000
set_option maxHeartbeats 1000000 in
theorem clone_in (F : Fence) (n : Nat) (h1f : F.fn 125) (hro : F.round = none) (a : List Nat) (va : Value) (hla : a.length ≤ 1000000) (w : World) (ma : Mag w.heap.size w va a) :
    CallsIn F n Try.prog 125 #[va] w fun e W' => ∃ v, e = .returned v ∧ Below w.heap.size w W' ∧ W'.ownsRow w.heap.size 106 1 v a.length (a.map fun (x : Nat) => Value.int .u32 (x : Int)) := by
  obtain ⟨i0, hi, hz0, hz1, hz2⟩ := info_parts infoW
  refine callsIn_of_wp Try.func125 rfl h1f ?_ hro
  simp only [Try.ntmps125, List.size_toArray, List.length_cons, List.length_nil, Nat.reduceAdd, Nat.reduceSub, Array.replicate_succ, Array.replicate_zero, List.push_toArray, List.append_toArray, List.nil_append, List.cons_append]
  obtain ⟨ad, cap, rfl, hc⟩ := ma
  have hnil : ∀ (ad : Option Addr) (m : Nat) (W : World), (binOp .eql 22 (.slice ad m cap) (.slice none 0 0)).run Try.prog W = .ok (.bool ad.isNone) W := fun ad m W => run_eql_slice_nil W _ _ ad m cap Try.underlying22
  cases ad with
  | none =>
    have hnil := fun m => hnil none m w
    have ha : a = [] := by
      cases a with
      | nil => rfl
      | cons x r => obtain ⟨b, off, e, _⟩ := hc 0 x rfl; cases e
    subst ha
    gi_wp2
    go_ret
    exact ⟨_, rfl, Below.refl _ _, rfl, .inl ⟨rfl, rfl⟩⟩
  | some ad =>
    have hnil := fun m => hnil (some ad) m w
    have hown : (w.alloc (.cells #[] 106)).ownsRow w.heap.size 106 1 (.slice (some ⟨w.heap.size, 0, none⟩) 0 0) 0 [] := ⟨rfl, .inr ⟨w.heap.size, 0, #[], rfl, Nat.le_refl _, World.alloc_heap_new w _, Nat.le_refl _, Nat.zero_le _, rfl, rfl⟩⟩
    have hnews : ∀ (j : Nat) u, (a.map fun (x : Nat) => Value.int .u32 (x : Int))[j]? = some u → (w.alloc (.cells #[] 106)).cell? (ad.add j) = some u := fun j u hj => by
      rw [List.getElem?_map] at hj
      cases hx : a[j]? with
      | none => rw [hx] at hj; cases hj
      | some x =>
        rw [hx] at hj
        obtain ⟨b, off, e, hb, hcc⟩ := hc j x hx
        cases e
        have e2 : (Addr.mk b off none).add j = ⟨b, off + j, none⟩ := by
          unfold Addr.add
          by_cases h0 : j = 0 <;> simp [h0]
        rw [e2]
        have : some (Value.int .u32 (x : Int)) = some u := hj
        rw [← this]
        exact (((Below.refl w.heap.size w).alloc (Nat.le_refl _) _).cell (p := ⟨b, off + j, none⟩) hb).trans hcc
    gi_wp2_with (gi_at_builtin; refine wpListIn_append_own _ rfl _ _ 22 rfl w.heap.size 106 i0 (.int .u32 0) 1 4 Try.underlying22 hi hz0 hz1 hz2 rfl (by decide) _ _ _ rfl hown ad a.length cap _ rfl (by simp) hnews (by intro u hu; obtain ⟨x, _, rfl⟩ := List.mem_map.1 hu; rfl) (by simp [maxLen]; omega) (by omega) (by simp) ?_; intro v' w1 hown' hgrow _)
    go_ret
    exact ⟨v', rfl, ((Below.refl w.heap.size w).alloc (Nat.le_refl _) _).grown hgrow (by simp) fun k e => by simp [Act.eval, Value.ownBlock] at e; omega, by simpa using hown'⟩
/-- What lies at place q when k swaps are over. -/
def revL (l : List UInt8) (k q : Nat) : UInt8 := if q < k ∨ l.length ≤ q + k then (l[l.length - 1 - q]?).getD 0 else (l[q]?).getD 0
theorem revL_k {l : List UInt8} {k j : Nat} (hj : j + k + 1 = l.length) (h : k < j) : revL l (k + 1) k = revL l k j := by
  unfold revL
  rw [if_pos (by omega), if_neg (by omega), show l.length - 1 - k = j by omega]
theorem revL_j {l : List UInt8} {k j : Nat} (hj : j + k + 1 = l.length) (h : k < j) : revL l (k + 1) j = revL l k k := by
  unfold revL
  rw [if_pos (by omega), if_neg (by omega), show l.length - 1 - j = k by omega]
theorem revL_o {l : List UInt8} {k j q : Nat} (hj : j + k + 1 = l.length) (h1 : q ≠ k) (h2 : q ≠ j) : revL l (k + 1) q = revL l k q := by
  unfold revL
  by_cases h : q < k ∨ l.length ≤ q + k
  · rw [if_pos (by omega), if_pos h]
  · rw [if_neg (by omega), if_neg h]
theorem revL_end {l : List UInt8} {k q : Nat} (hk : l.length ≤ 2 * k + 1) (hq : q < l.length) : revL l k q = (l[l.length - 1 - q]?).getD 0 := by
  unfold revL
  by_cases h : q < k ∨ l.length ≤ q + k
  · rw [if_pos h]
  · rw [if_neg h, show l.length - 1 - q = q by omega]
theorem set_heap {W : World} {g off e : Nat} {arr : Array Value} (h : W.heap[g]? = some (.cells arr e (0, 0))) (v : Value) : (W.setCell ⟨g, off, none⟩ v).heap[g]? = some (.cells (arr.setIfInBounds off v) e (0, 0)) := by
  obtain ⟨hlt, hk⟩ := Array.getElem?_eq_some_iff.1 h
  show (W.heap.modify g _)[g]? = _
  rw [Array.getElem?_eq_getElem (by rw [Array.size_modify]; exact hlt), Array.getElem_modify_self, hk]
  rfl
set_option maxHeartbeats 2000000 in
theorem rev_in (l : List UInt8) (g cap e : Nat) (cur : Array Value) (w : World) (hl : l.length ≤ cap) (hm : cap ≤ maxLen) (hg : w.heap[g]? = some (.cells cur e (0, 0))) (hcs : cur.size = cap)
    (hc : ∀ (q : Nat) x, l[q]? = some x → cur[q]? = some (.int .u8 (x.toNat : Int))) :
    Calls Try.prog 127 #[.slice (some ⟨g, 0, none⟩) l.length cap] w fun x w' => x = .returned (.tuple #[]) ∧ w.grownBy w' (some g) ∧ ∃ arr : Array Value, w'.heap[g]? = some (.cells arr e (0, 0)) ∧ arr.size = cap ∧
      ∀ (q : Nat) x, l.reverse[q]? = some x → arr[q]? = some (.int .u8 (x.toNat : Int)) := by
  have hm' : (l.length : Int) ≤ 9223372036854775807 := by simp only [maxLen] at hm; omega
  go_enter Try.func127, Try.ntmps127
  go_wp2
  go_loopw [2, 3] (fun i j wr => ∃ k : Nat, 2 * k ≤ l.length + 1 ∧ i = .int .i64 k ∧ j = .int .i64 ((l.length : Int) - 1 - k) ∧ w.grownBy wr (some g) ∧ ∃ arr : Array Value, wr.heap[g]? = some (.cells arr e (0, 0)) ∧ arr.size = cap ∧ ∀ q, q < l.length → arr[q]? = some (.int .u8 ((revL l k q).toNat : Int)))
    (fun i j _ => l.length - (intOf i).toNat)
  case atStart =>
    refine ⟨0, by omega, rfl, by simp, ⟨rfl, rfl, rfl, Nat.le_refl _, fun k _ _ => rfl⟩, cur, hg, hcs, fun q hq => ?_⟩
    rw [revL, if_neg (by omega)]
    have := hc q l[q] (List.getElem?_eq_getElem hq)
    rw [this, List.getElem?_eq_getElem hq]
    rfl
  case round =>
    obtain ⟨k, hk, rfl, rfl, hgr, arr, ha, has, hq⟩ := hrel
    by_cases hlt : 2 * k + 1 < l.length
    · obtain ⟨j, hj⟩ : ∃ j, j + k + 1 = l.length := ⟨l.length - 1 - k, by omega⟩
      have hj' : (l.length : Int) - 1 - k = (j : Int) := by omega
      rw [hj']
      clear hj'
      have hkj : k < j := by omega
      have hjl : j < l.length := by omega
      have hci : wr.cell? ⟨g, k, none⟩ = some (.int .u8 ((revL l k k).toNat : Int)) := by simp [World.cell?, ha, hq k (by omega)]
      have hcj : wr.cell? ⟨g, j, none⟩ = some (.int .u8 ((revL l k j).toNat : Int)) := by simp [World.cell?, ha, hq j (by omega)]
      have hfi : wr.frozen? ⟨g, k, none⟩ = false := by simp [World.frozen?, ha]
      have hfj : wr.frozen? ⟨g, j, none⟩ = false := by simp [World.frozen?, ha]
      go_wp2
      go_region
      go_wp2
      go_roundw
      case rel =>
        have h1 := set_heap (off := k) ha (.int .u8 ((revL l k j).toNat : Int))
        have h2 := set_heap (off := j) h1 (.int .u8 ((revL l k k).toNat : Int))
        refine ⟨k + 1, by omega, by simp, by simp; omega, ⟨hgr.1, hgr.2, hgr.3, ?_, fun q h3 h4 => ?_⟩, _, h2, by simp [has], fun q h3 => ?_⟩
        · have e1 := (KeepsWalks.setCell wr ⟨g, k, none⟩ (.int .u8 ((revL l k j).toNat : Int))).size
          have e2 := (KeepsWalks.setCell (wr.setCell ⟨g, k, none⟩ (.int .u8 ((revL l k j).toNat : Int))) ⟨g, j, none⟩ (.int .u8 ((revL l k k).toNat : Int))).size
          exact Nat.le_trans hgr.size (Nat.le_trans e1 e2)
        · have h5 : q ≠ g := fun e => h4 (by rw [e])
          exact ((Below.heap_setCell _ _ _ q h5).trans (Below.heap_setCell _ _ _ q h5)).trans (hgr.block q h3 h4)
        · rw [Array.getElem?_setIfInBounds, Array.getElem?_setIfInBounds]
          by_cases h5 : j = q
          · subst h5
            rw [if_pos rfl, if_pos (by simp; omega), revL_j hj hkj]
          · rw [if_neg h5]
            by_cases h6 : k = q
            · subst h6
              rw [if_pos rfl, if_pos (by omega), revL_k hj hkj]
            · rw [if_neg h6, revL_o hj (Ne.symm h6) (Ne.symm h5)]
              exact hq q h3
      case measure => simp [intOf]; omega
    · go_wp2
      go_end0
      refine ⟨rfl, hgr, arr, ha, has, fun q x hx => ?_⟩
      have hql : q < l.length := by have := (List.getElem?_eq_some_iff.1 hx).1; simpa using this
      rw [hq q hql]
      rw [List.getElem?_reverse hql] at hx
      rw [revL_end (by omega) hql, hx]
      rfl
set_option maxHeartbeats 1000000 in
theorem rev_zero (ad : Option Addr) (cap : Nat) (w : World) : Calls Try.prog 127 #[.slice ad 0 cap] w fun x w' => x = .returned (.tuple #[]) ∧ w' = w := by
  go_enter Try.func127, Try.ntmps127
  go_wp2
  go_loopw [2, 3] (fun i j wr => i = .int .i64 0 ∧ j = .int .i64 (-1) ∧ wr = w) (fun _ _ _ => 0)
  case atStart => exact ⟨rfl, rfl, rfl⟩
  case round =>
    obtain ⟨rfl, rfl, rfl⟩ := hrel
    go_wp2
    go_end0
    exact ⟨rfl, rfl⟩
end Go.Proofs.Ytpmlocilhhjifaa.Eng
