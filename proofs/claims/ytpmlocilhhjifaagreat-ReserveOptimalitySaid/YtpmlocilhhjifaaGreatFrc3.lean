/- Package frac: does as a contract; the functions. -/
import Derived.Test.YtpmlocilhhjifaaGreatFrc0
import Derived.Test.YtpmlocilhhjifaaGreatFrc2
set_option maxRecDepth 100000
set_option linter.unusedSimpArgs false
set_option linter.unusedVariables false
set_option pp.maxSteps 200
namespace Go.Proofs.YtpmlocilhhjifaaGreat.Eng
open Go.RowKit Go.Proofs
theorem rv_qa {w : World} {ok : Nat → Nat → Prop} {s s' : Bool} {t t' : Nat} {xs ys : List (List D)} {v : Value} (h : RV w ok (qa s t xs s' t' ys) v) : ∃ (ad : Option Addr) (n m : Nat) (ad' : Option Addr) (n' m' : Nat), v = .agg #[.bool s, .slice ad n m, .bool s', .slice ad' n' m'] := by
  obtain ⟨⟨vs⟩, rfl, h⟩ := h
  have sl : ∀ {t : Nat} {xs : List (List D)} {v : Value}, RD w ok (.sl t 1 xs) v → ∃ (ad : Option Addr) (n m : Nat), v = .slice ad n m := fun h => by
    cases h with
    | nil => exact ⟨_, _, _, rfl⟩
    | sl => exact ⟨_, _, _, rfl⟩
  match vs, h with
  | [v0, v1, v2, v3], h =>
    obtain rfl := RD.sc_inv h.1
    obtain rfl := RD.sc_inv h.2.2.1
    obtain ⟨ad, n, m, rfl⟩ := sl h.2.1
    obtain ⟨ad', n', m', rfl⟩ := sl h.2.2.2.1
    exact ⟨_, _, _, _, _, _, rfl⟩
  | [], h => exact h.elim
  | [_], h => exact h.2.elim
  | [_, _], h => exact h.2.2.elim
  | [_, _, _], h => exact h.2.2.2.elim
  | _ :: _ :: _ :: _ :: _ :: _, h => exact h.2.2.2.2.elim
theorem tt_fin {f : Nat} {args : List DV} {r : DV} (hm : mutF f = false) (h : TT f args [r]) {ok : Nat → Nat → Prop} {W : World} {vs : Array Value} (hv : RVs W ok args vs.toList) {n0 : Nat} (hok : ∀ t b, n0 ≤ b → ok t b) (hn : n0 ≤ W.heap.size) :
    Calls Tryz.prog f vs W fun e w' => ∃ v', e = .returned v' ∧ Below W.heap.size W w' ∧ RV w' ok r v' := by
  have h2 := h.2
  rw [hm] at h2
  refine (h2 ok W vs hv).mono ?_
  rintro e w' ⟨v, rfl, hb, us, hu, rfl⟩
  match us, hu with
  | [u], hu => exact ⟨u, rfl, hb, hu.1.mono (Nat.le_refl _) fun t b h1 h2 => ⟨rfl, h1.elim id fun h3 => hok t b (Nat.le_trans hn h3)⟩⟩
  | [], hu => exact hu.elim
  | _ :: _ :: _, hu => exact hu.2.elim
theorem does_c {s : ByteArray} {f i : Nat} {a1 a2 a3 a4 b b' : Bool} {u1 u2 u3 u4 : Nat} {x1 x2 x3 x4 zs zs' : List (List D)} {pa pb pc : DV}
    (hs : Instr.findNow .string (.string s) [{ key := .string ⟨#[97, 100, 100]⟩, val := (.agg #[.func (.func 70) #[] #[]]), born := 0 }, { key := .string ⟨#[115, 117, 98]⟩, val := (.agg #[.func (.func 72) #[] #[]]), born := 0 + 1 }, { key := .string ⟨#[109, 117, 108]⟩, val := (.agg #[.func (.func 73) #[] #[]]), born := 0 + 1 + 1 }, { key := .string ⟨#[100, 105, 118]⟩, val := (.agg #[.func (.func 74) #[] #[]]), born := 0 + 1 + 1 + 1 }] 0 = some (some (i, .agg #[.func (.func f) #[] #[]])))
    (hcf : ∀ (args : Array Value) (W : World), (callFunc f args).run Tryz.prog W = .ok (.enter f args) W) (hm : mutF f = false)
    (h1 : TT 43 [qa a1 u1 x1 a2 u2 x2] [pa]) (h2 : TT 43 [qa a3 u3 x3 a4 u4 x4] [pb]) (h3 : TT f [pa, pb] [pc]) (h4 : TT 75 [pc] [qa b 1 zs b' 1 zs']) :
    TT 47 [.one (.sc (.string s)), qa a1 u1 x1 a2 u2 x2, qa a3 u3 x3 a4 u4 x4] [qa b 1 zs b' 1 zs'] := by
  refine tt_of Tryz.func47 (by kernel_rfl) (by kernel_rfl) (by kernel_rfl) fun okx w vs hvs => ?_
  obtain ⟨vs⟩ := vs
  match vs, hvs with
  | [v0, va, vb], hvs =>
    obtain rfl := RD.sc_inv hvs.1
    have ha := hvs.2.1
    have hb := hvs.2.2.1
    obtain ⟨p1, p2, p3, p4, p5, p6, rfl⟩ := rv_qa ha
    obtain ⟨q1, q2, q3, q4, q5, q6, rfl⟩ := rv_qa hb
    have up : ∀ {d : DV} {v : Value} {W : World}, RV w okx d v → Below w.heap.size w W → RV W (fun t b => (okx t b ∧ b < w.heap.size) ∨ w.heap.size + 4 ≤ b) d v := fun hd hW => hd.mono hW.size fun t b g1 g2 => ⟨hW.block b g2, .inl ⟨g1, g2⟩⟩
    refine (does_in w _ _ _ _ _ _ _ _ s f i pa pb pc (qa b 1 zs b' 1 zs') (fun t b => (okx t b ∧ b < w.heap.size) ∨ w.heap.size + 4 ≤ b) hs (fun t b g => g.elim (fun g => .inl g.2) .inr) hcf (fun W hW hs => tt_fin (by kernel_rfl) h1 ⟨up ha hW, trivial⟩ (fun t b g => .inr g) hs)
      (fun W hW hs => tt_fin (by kernel_rfl) h2 ⟨up hb hW, trivial⟩ (fun t b g => .inr g) hs) (fun W va vb hW hs g1 g2 => tt_fin hm h3 ⟨g1, g2, trivial⟩ (fun t b g => .inr g) hs) fun W v hW hs g1 => ?_).mono ?_
    · refine (tt_fin (by kernel_rfl) h4 (vs := #[v]) ⟨g1, trivial⟩ (fun t b g => .inr g) hs).mono ?_
      rintro e w' ⟨v', rfl, g2, g3⟩
      obtain ⟨r1, r2, r3, r4, r5, r6, rfl⟩ := rv_qa g3
      exact ⟨_, _, _, _, _, _, _, _, rfl, g2, g3⟩
    · rintro e w' ⟨v, rfl, g1, g2⟩
      exact ⟨v, rfl, g1, [v], ⟨g2.mono (Nat.le_refl _) fun t b k1 k2 => ⟨rfl, k1.elim (fun k => .inl k.1) fun k => .inr (by omega)⟩, trivial⟩, rfl⟩
  | [], hvs => exact hvs.elim
  | [_], hvs => exact hvs.2.elim
  | [_, _], hvs => exact hvs.2.2.elim
  | _ :: _ :: _ :: _ :: _, hvs => exact hvs.2.2.2.elim
variable {s1 s2 s3 s4 : Bool} {t1 t2 t3 t4 : Nat} {x1 x2 x3 x4 : List (List D)} {p q : Rat} {l : Nat} {b b' : Bool} {zs zs' : List (List D)}
theorem fadd_c (ha : Qr s1 x1 s2 x2 p l) (hb : Qr s3 x3 s4 x4 q l) (hl : l ≤ 1000) (hq : Qc b zs b' zs' (p + q)) : TT 20 [qa s1 t1 x1 s2 t2 x2, qa s3 t3 x3 s4 t4 x4] [qa b 1 zs b' 1 zs'] := by
  obtain ⟨c1, v1, z1, c2, v2, z2, n1, d1, g1, g2, g3, g4, g5⟩ := fof_e (t := t1) (t' := t2) ha (by omega)
  obtain ⟨c3, v3, z3, c4, v4, z4, n2, d2, k1, k2, k3, k4, k5⟩ := fof_e (t := t3) (t' := t4) hb (by omega)
  obtain ⟨bn, zn, hzn⟩ : ∃ b z, Zc b z (n1 * d2 + n2 * d1) := ⟨_, _, rfl, rfl⟩
  obtain ⟨bd, zd, hzd⟩ : ∃ b z, Zc b z (d1 * d2) := ⟨_, _, rfl, rfl⟩
  have e1 := g1.len
  have e2 := g2.len
  have e3 := k1.len
  have e4 := k2.len
  have m1 := ll_mul n1 d2
  have m2 := ll_mul n2 d1
  have m3 := ll_mul d1 d2
  have m4 := ll_add (n1 * d2) (n2 * d1)
  rw [g4, k4, Rat.divInt_add_divInt _ _ (by omega) (by omega)] at hq
  refine con Tryz.func20 rfl (by kernel_rfl) (by kernel_rfl) fun π Q h hQ => ?_
  cbv
  refine h.call' _ (does_c (f := 70) (i := 0) rfl (enters_of Tryz.func70 (by kernel_rfl) rfl) (by kernel_rfl) g5 k5 (dadd_c (l := max l 1) (g1.le (by omega)) g2 (k1.le (by omega)) k2 (by omega) hzn hzd) (fleast_c (l := 2 * l + 3) (hzn.r.le (by omega)) (hzd.r.le (by omega)) (by omega) (Int.mul_pos g3 k3) hq)) ?_
  cbv
  skip
  exact hQ
end Go.Proofs.YtpmlocilhhjifaaGreat.Eng
