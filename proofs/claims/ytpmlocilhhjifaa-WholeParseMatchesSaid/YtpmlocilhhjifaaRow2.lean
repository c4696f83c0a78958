/- A law's parameters: the types of the chapters. -/
import Derived.Test.YtpmlocilhhjifaaRow1
import Derived.Test.YtpmlocilhhjifaaRef1
set_option maxRecDepth 100000
set_option linter.unusedSimpArgs false
set_option linter.unusedVariables false
namespace Go.Proofs.Ytpmlocilhhjifaa.Eng
open Go.RowKit
theorem inR_of {k : IntKind} {n : Int} (h : (Lit.int k n).wf = true) : inR k n := by
  simp only [Lit.wf, Bool.and_eq_true, decide_eq_true_eq] at h
  cases k <;> simp [inR, IntKind.min, IntKind.max, IntKind.signed, IntKind.bits] at h ⊢ <;> omega
def wOf (x : List D) : Nat := match x with
  | [.sc (.int _ n)] => n.toNat
  | _ => 0
theorem ws_of {m : Nat} {xs : List (List D)} (h : ∀ x ∈ xs, TyD (m + 1) 106 x) : xs = wl (xs.map wOf) ∧ Ok BW (xs.map wOf) := by
  have key : ∀ x ∈ xs, x = [.sc (.int .u32 (wOf x : Int))] ∧ wOf x < BW := fun x hx => by
    obtain ⟨n, rfl, hw⟩ := h x hx
    have := inR_of hw
    simp only [inR] at this
    refine ⟨?_, ?_⟩
    · simp only [wOf]
      rw [Int.toNat_of_nonneg (by omega)]
    · simp only [wOf]
      rw [BW_eq]
      omega
  refine ⟨?_, fun x hx => ?_⟩
  · apply List.ext_getElem
    · simp [wl]
    · intro i h1 h2
      simp only [wl, List.getElem_map]
      exact (key _ (List.getElem_mem h1)).1
  · obtain ⟨y, hy, rfl⟩ := List.mem_map.1 hx
    exact (key y hy).2
theorem w_of {m : Nat} {ds : List D} (h : TyD (m + 2) 22 ds) : ∃ xs ws, ds = [.sl 0 1 xs] ∧ xs = wl ws ∧ Ok BW ws := by
  obtain ⟨xs, rfl, _, _, h2⟩ := h
  obtain ⟨h3, h4⟩ := ws_of h2
  exact ⟨xs, _, rfl, h3, h4⟩
theorem z_of {m : Nat} {ds : List D} (h : TyD (m + 3) 24 ds) : ∃ s xs ws, ds = [.sc (.bool s), .sl 0 1 xs] ∧ xs = wl ws ∧ Ok BW ws := by
  obtain ⟨hl, hf⟩ := h
  obtain ⟨b, h0⟩ := hf _ (List.mem_cons_self ..)
  obtain ⟨xs, ws, h1, h2, h3⟩ := w_of (hf _ (List.mem_cons_of_mem _ (List.mem_cons_self ..)))
  refine ⟨b, xs, ws, ?_, h2, h3⟩
  have hl : ds.length = 2 := hl
  cases ds with
  | nil => cases hl
  | cons d ds => cases ds with
    | nil => cases hl
    | cons e ds => cases ds with
      | cons _ _ => simp at hl
      | nil =>
        simp at h0 h1
        rw [h0, h1]
end Go.Proofs.Ytpmlocilhhjifaa.Eng
