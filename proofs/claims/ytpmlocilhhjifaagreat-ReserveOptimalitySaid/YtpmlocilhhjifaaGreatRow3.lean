/- A law's parameters: the types of chapter 30. -/
import Derived.Test.YtpmlocilhhjifaaGreatRow2
import Derived.Test.YtpmlocilhhjifaaGreatRl0
set_option maxRecDepth 100000
set_option linter.unusedSimpArgs false
set_option linter.unusedVariables false
namespace Go.Proofs.YtpmlocilhhjifaaGreat.Eng
open Go.RowKit
/-- Elements, one by one. -/
theorem each {α : Type} {P : List D → Prop} {f : α → List D} {R : α → Prop} (h : ∀ x, P x → ∃ a, x = f a ∧ R a) : ∀ {xs : List (List D)}, (∀ x ∈ xs, P x) → ∃ l : List α, xs = l.map f ∧ ∀ a ∈ l, R a
  | [], _ => ⟨[], rfl, fun a ha => by cases ha⟩
  | x :: xs, hx => by
    obtain ⟨a, h1, h2⟩ := h x (hx x (by simp))
    obtain ⟨l, h3, h4⟩ := each h (xs := xs) fun y hy => hx y (List.mem_cons_of_mem _ hy)
    refine ⟨a :: l, by rw [h1, h3]; rfl, fun b hb => ?_⟩
    rcases List.mem_cons.1 hb with rfl | hb
    · exact h2
    · exact h4 b hb
theorem qraw_of {m : Nat} {ds : List D} (h : TyD (m + 4) 31 ds) : ∃ z : QD, ds = z.cell ∧ z.Raw := by
  obtain ⟨s, xs, ws, s', ys, vs, rfl, ⟨h1, h2⟩, h3, h4⟩ := q_of h
  exact ⟨⟨s, 0, xs, s', 0, ys⟩, rfl, ws, vs, h1, h3, h2, h4⟩
theorem qs_of {m : Nat} {ds : List D} (h : TyD (m + 5) 24 ds) : ∃ (gs : List (List D)) (zs : List QD), ds = [.sl 0 4 gs] ∧ gs = zs.map QD.cell ∧ ∀ z ∈ zs, z.Raw := by
  obtain ⟨xs, rfl, _, _, h2⟩ := h
  obtain ⟨l, h3, h4⟩ := each (fun x hx => qraw_of hx) h2
  exact ⟨xs, l, rfl, h3, h4⟩
theorem bools_of {m : Nat} {ds : List D} (h : TyD (m + 2) 23 ds) : ∃ bs os, ds = [.sl 0 1 bs] ∧ bs = bl os := by
  obtain ⟨xs, rfl, _, _, h2⟩ := h
  obtain ⟨l, h3, _⟩ := each (f := fun b => [D.sc (.bool b)]) (R := fun _ => True) (fun x (hx : TyD (m + 1) 4 x) => by obtain ⟨b, rfl⟩ := hx; exact ⟨b, rfl, trivial⟩) h2
  exact ⟨xs, l, rfl, h3⟩
theorem int_of {m : Nat} {ds : List D} (h : TyD (m + 1) 3 ds) : ∃ n, ds = [.sc (.int .i64 n)] ∧ inR .i64 n := by
  obtain ⟨n, rfl, hw⟩ := h
  exact ⟨n, rfl, inR_of hw⟩
theorem int64_of {m : Nat} {ds : List D} (h : TyD (m + 1) 2 ds) : ∃ n, ds = [.sc (.int .i64 n)] ∧ inR .i64 n := by
  obtain ⟨n, rfl, hw⟩ := h
  exact ⟨n, rfl, inR_of hw⟩
theorem two_of {ds : List D} {a b : D} (hl : ds.length = 2) (h0 : (ds.drop 0).take 1 = [a]) (h1 : (ds.drop 1).take 1 = [b]) : ds = [a, b] := by
  match ds, hl with
  | [x, y], _ => simp at h0 h1; rw [h0, h1]
theorem step_of {m : Nat} {ds : List D} (h : TyD (m + 2) 83 ds) : ∃ p : Int × Int, ds = [.sc (.int .i64 p.1), .sc (.int .i64 p.2)] ∧ inR .i64 p.1 ∧ inR .i64 p.2 := by
  obtain ⟨hl, hf⟩ := h
  obtain ⟨a, h0, r0⟩ := int64_of (hf (0, 1, 2) (by decide))
  obtain ⟨b, h1, r1⟩ := int64_of (hf (1, 1, 2) (by decide))
  exact ⟨(a, b), two_of hl h0 h1, r0, r1⟩
theorem steps_of {m : Nat} {ds : List D} (h : TyD (m + 3) 39 ds) : ∃ xs l, ds = [.sl 0 2 xs] ∧ xs = stl l ∧ StOk l := by
  obtain ⟨xs, rfl, _, _, h2⟩ := h
  obtain ⟨l, h3, h4⟩ := each (f := fun p : Int × Int => [D.sc (.int .i64 p.1), D.sc (.int .i64 p.2)]) (R := fun p => inR .i64 p.1 ∧ inR .i64 p.2) (fun x hx => step_of hx) h2
  exact ⟨xs, l, rfl, h3, h4⟩
theorem nine_of {ds : List D} {a b c d e f g h i : D} (hl : ds.length = 9) (h0 : (ds.drop 0).take 1 = [a]) (h1 : (ds.drop 1).take 1 = [b]) (h2 : (ds.drop 2).take 1 = [c]) (h3 : (ds.drop 3).take 1 = [d]) (h4 : (ds.drop 4).take 1 = [e]) (h5 : (ds.drop 5).take 1 = [f]) (h6 : (ds.drop 6).take 1 = [g]) (h7 : (ds.drop 7).take 1 = [h]) (h8 : (ds.drop 8).take 1 = [i]) : ds = [a, b, c, d, e, f, g, h, i] := by
  match ds, hl with
  | [x0, x1, x2, x3, x4, x5, x6, x7, x8], _ => simp at h0 h1 h2 h3 h4 h5 h6 h7 h8; rw [h0, h1, h2, h3, h4, h5, h6, h7, h8]
theorem unit_of {m : Nat} {ds : List D} (h : TyD (m + 4) 41 ds) : ∃ u : UD, ds = u.cell ∧ u.Ok0 := by
  obtain ⟨hl, hf⟩ := h
  obtain ⟨a, h0, r0⟩ := int_of (hf (0, 1, 3) (by decide))
  obtain ⟨b, h1, r1⟩ := int64_of (hf (1, 1, 2) (by decide))
  obtain ⟨xs, l, h2, e2, r2⟩ := steps_of (hf (2, 1, 39) (by decide))
  obtain ⟨c, h3, r3⟩ := int_of (hf (3, 1, 3) (by decide))
  obtain ⟨d, h4, r4⟩ := int_of (hf (4, 1, 3) (by decide))
  obtain ⟨e, h5, r5⟩ := int64_of (hf (5, 1, 2) (by decide))
  obtain ⟨f, h6, r6⟩ := int64_of (hf (6, 1, 2) (by decide))
  obtain ⟨g, h7, r7⟩ := int64_of (hf (7, 1, 2) (by decide))
  obtain ⟨i, h8, r8⟩ := int_of (hf (8, 1, 3) (by decide))
  subst e2
  exact ⟨⟨a, b, 0, l, c, d, e, f, g, i⟩, nine_of hl h0 h1 h2 h3 h4 h5 h6 h7 h8, r0, r1, r2, r3, r4, r5, r6, r7, r8⟩
theorem units_of {m : Nat} {ds : List D} (h : TyD (m + 5) 22 ds) : ∃ (es : List (List D)) (us : List UD), ds = [.sl 0 9 es] ∧ es = us.map UD.cell ∧ ∀ u ∈ us, u.Ok0 := by
  obtain ⟨xs, rfl, _, _, h2⟩ := h
  obtain ⟨l, h3, h4⟩ := each (fun x hx => unit_of hx) h2
  exact ⟨xs, l, rfl, h3, h4⟩
end Go.Proofs.YtpmlocilhhjifaaGreat.Eng
