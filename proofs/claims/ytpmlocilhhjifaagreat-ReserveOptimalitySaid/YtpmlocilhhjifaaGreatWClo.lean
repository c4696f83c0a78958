/- Package whole: the functions with closures; slices.Clone. -/
import Derived.Test.YtpmlocilhhjifaaGreatClo5
import Derived.Test.YtpmlocilhhjifaaGreatClo7
set_option maxRecDepth 100000
set_option linter.unusedSimpArgs false
set_option linter.unusedVariables false
set_option pp.maxSteps 200
namespace Go.Proofs.YtpmlocilhhjifaaGreat.Eng
open Go.RowKit
/-- A contract, out of a walk by hand. -/
theorem tt_of {f : Nat} {fn : Func} {args rs : List DV} (hf : Tryz.prog.funcs[f]? = some fn) (hname : (fn.name == "runtime.NumGoroutine") = false) (hbody : fn.body.isSome = true) (hm : mutF f = false) (h : CallOk Tryz.prog f args rs) : TT f args rs :=
  ⟨⟨fn, hf, hname, hbody⟩, by rw [hm]; exact h⟩
theorem two_args {w : World} {ok : Nat → Nat → Prop} {d e : DV} {vs : Array Value} (h : RVs w ok [d, e] vs.toList) : ∃ u v, vs = #[u, v] ∧ RV w ok d u ∧ RV w ok e v := by
  obtain ⟨l⟩ := vs
  match l, h with
  | [u, v], h => exact ⟨u, v, rfl, h.1, h.2.1⟩
  | [], h => exact h.elim
  | [_], h => exact h.2.elim
  | _ :: _ :: _ :: _, h => exact h.2.2.elim
theorem one_arg {w : World} {ok : Nat → Nat → Prop} {d : DV} {vs : Array Value} (h : RVs w ok [d] vs.toList) : ∃ u, vs = #[u] ∧ RV w ok d u := by
  obtain ⟨l⟩ := vs
  match l, h with
  | [u], h => exact ⟨u, rfl, h.1⟩
  | [], h => exact h.elim
  | _ :: _ :: _, h => exact h.2.elim
theorem rds_wl {w : World} {ok : Nat → Nat → Prop} : ∀ o : List Nat, RDs w ok (wl o).flatten (o.map fun (x : Nat) => Value.int .u32 (x : Int))
  | [] => trivial
  | x :: o => ⟨.sc _ rfl, rds_wl o⟩
/-- A row of words that the call owns reads as new memory. -/
theorem rd_own {w w' : World} {okx : Nat → Nat → Prop} {o : List Nat} {zs : List (List D)} {v : Value} {k : Nat} (hz : zs = wl o) (hk : k = o.length) (h : w'.ownsRow w.heap.size 56 1 v k (o.map fun (x : Nat) => Value.int .u32 (x : Int))) :
    RD w' (fun t b => okx t b ∨ w.heap.size ≤ b) (.sl 1 1 zs) v := by
  subst hz hk
  have hb : BR ⟨w, okx, 0⟩ w' (fun _ _ => False) (.ar 56 1 (wl o)) v := ⟨Nat.one_pos, fun x hx => wl_one hx, _, by rw [wl_len]; exact h, rds_wl o⟩
  refine hb.data (fun t b h => h.elim) fun k hk => ?_
  rcases h.2 with ⟨rfl, _⟩ | ⟨g, cap, cur, rfl, g1, g2, _⟩
  · cases hk
  · have : g = k := by simpa [blkOf] using hk
    subst this
    exact ⟨.inr g1, (Array.getElem?_eq_some_iff.1 g2).1⟩
theorem add_c {t t' : Nat} {a b : List Nat} {xs ys zs : List (List D)} (ha : Ok BW a) (hb : Ok BW b) (hla : a.length ≤ 1000000) (hlb : b.length ≤ 1000000) (hx : xs = wl a) (hy : ys = wl b) (hz : zs = wl (pd BW (max a.length b.length + 1) (val BW a + val BW b))) :
    TT 95 [.one (.sl t 1 xs), .one (.sl t' 1 ys)] [.one (.sl 1 1 zs)] := by
  refine tt_of Tryz.func95 (by kernel_rfl) (by kernel_rfl) (by kernel_rfl) fun okx w vs hvs => ?_
  obtain ⟨va, vb, rfl, h1, h2⟩ := two_args hvs
  refine ((callsIn_wide (n := 3)).1 (add_in Fence.wide 3 trivial trivial trivial trivial trivial trivial rfl (Nat.le_refl _) a b va vb hla hlb ha hb w (mag_of_rd hx h1) (mag_of_rd hy h2))).mono ?_
  rintro e w' ⟨v, rfl, hbl, hrow⟩
  exact ⟨v, rfl, hbl, [v], ⟨rd_own hz (pd_len _ _ _).symm hrow, trivial⟩, rfl⟩
theorem sub_c {t t' : Nat} {a b : List Nat} {xs ys zs : List (List D)} (ha : Ok BW a) (hb : Ok BW b) (hla : a.length ≤ 1000000) (hlb : b.length ≤ 1000000) (hx : xs = wl a) (hy : ys = wl b) (hle : val BW b ≤ val BW a) (hz : zs = wl (pd BW (max a.length b.length) (val BW a - val BW b))) :
    TT 97 [.one (.sl t 1 xs), .one (.sl t' 1 ys)] [.one (.sl 1 1 zs)] := by
  refine tt_of Tryz.func97 (by kernel_rfl) (by kernel_rfl) (by kernel_rfl) fun okx w vs hvs => ?_
  obtain ⟨va, vb, rfl, h1, h2⟩ := two_args hvs
  refine ((callsIn_wide (n := 3)).1 (sub_in Fence.wide 3 trivial trivial trivial trivial trivial trivial rfl (Nat.le_refl _) a b va vb hla hlb ha hb hle w (mag_of_rd hx h1) (mag_of_rd hy h2))).mono ?_
  rintro e w' ⟨v, g, cap, rfl, hbl, rfl, hc1, hc2, hg1, hg2, hcell⟩
  refine ⟨_, rfl, hbl, [_], ⟨?_, trivial⟩, rfl⟩
  have hzl : zs.length = max a.length b.length := by rw [hz, wl_len, pd_len]
  rw [← hzl]
  have hzi : ∀ (i : Nat) x, zs[i]? = some x → ∃ n, (pd BW (max a.length b.length) (val BW a - val BW b))[i]? = some n ∧ x = [D.sc (.int .u32 (n : Int))] := fun i x hi => by
    rw [hz, wl, List.getElem?_map] at hi
    cases hp : (pd BW (max a.length b.length) (val BW a - val BW b))[i]? with
    | none => rw [hp] at hi; cases hi
    | some n => rw [hp] at hi; exact ⟨n, rfl, by simpa using hi.symm⟩
  refine .sl 1 1 zs ⟨g, 1, none⟩ cap (fun i _ => Value.int .u32 (((pd BW (max a.length b.length) (val BW a - val BW b))[i]?.getD 0 : Nat) : Int)) (by decide) (fun _ => ⟨rfl, .inr hg1, hg2⟩) (by omega) hc2 (fun i x hi => ?_) (fun i j x d hi hj => ?_) (fun i j x d hi hj => ?_)
  · obtain ⟨n, _, rfl⟩ := hzi i x hi
    rfl
  · obtain ⟨n, hn, rfl⟩ := hzi i x hi
    have hj0 : j = 0 := by have := (List.getElem?_eq_some_iff.1 hj).1; simp at this; exact this
    subst hj0
    rw [hn, Nat.mul_one, Nat.add_zero]
    exact hcell i n hn
  · obtain ⟨n, hn, rfl⟩ := hzi i x hi
    have hj0 : j = 0 := by have := (List.getElem?_eq_some_iff.1 hj).1; simp at this; exact this
    subst hj0
    simp only [List.getElem?_cons_zero, Option.some.injEq] at hj
    subst hj
    rw [hn]
    exact .sc _ rfl
theorem cmp_c {t t' : Nat} {a b : List Nat} {xs ys : List (List D)} (ha : Ok BW a) (hb : Ok BW b) (hla : a.length ≤ 1000000) (hlb : b.length ≤ 1000000) (hx : xs = wl a) (hy : ys = wl b) {c : Int} (hc : c = if a.length = b.length then (if val BW a < val BW b then -1 else if val BW b < val BW a then 1 else 0) else (a.length : Int) - b.length) :
    TT 96 [.one (.sl t 1 xs), .one (.sl t' 1 ys)] [.one (.sc (.int .i64 c))] := by
  refine tt_of Tryz.func96 (by kernel_rfl) (by kernel_rfl) (by kernel_rfl) fun okx w vs hvs => ?_
  obtain ⟨va, vb, rfl, h1, h2⟩ := two_args hvs
  by_cases hl : a.length = b.length
  · rw [if_pos hl] at hc
    have hcv := cmp_run ha hb (max a.length b.length)
    rw [take_max, take_max', ← hc] at hcv
    refine ((callsIn_wide (n := 3)).1 (cmp_in Fence.wide 3 trivial trivial trivial rfl (Nat.le_refl _) a b va vb hla hlb ha hb hl c hcv w (mag_of_rd hx h1) (mag_of_rd hy h2))).mono ?_
    rintro e w' ⟨rfl, hbl⟩
    exact ⟨_, rfl, hbl, [_], ⟨.sc _ rfl, trivial⟩, rfl⟩
  · rw [if_neg hl] at hc
    subst hc
    refine ((callsIn_wide (n := 3)).1 (cmp_ne_in Fence.wide 3 trivial rfl a b va vb hla hlb hl w (mag_of_rd hx h1) (mag_of_rd hy h2))).mono ?_
    rintro e w' ⟨rfl, rfl⟩
    exact ⟨_, rfl, Below.refl _ _, [_], ⟨.sc _ rfl, trivial⟩, rfl⟩
theorem clone_c {t : Nat} {a : List Nat} {xs : List (List D)} (hla : a.length ≤ 1000000) (hx : xs = wl a) : TT 91 [.one (.sl t 1 xs)] [.one (.sl 1 1 xs)] := by
  refine tt_of Tryz.func91 (by kernel_rfl) (by kernel_rfl) (by kernel_rfl) fun okx w vs hvs => ?_
  obtain ⟨va, rfl, h1⟩ := one_arg hvs
  refine ((callsIn_wide (n := 3)).1 (clone_in Fence.wide 3 trivial rfl a va hla w (mag_of_rd hx h1))).mono ?_
  rintro e w' ⟨v, rfl, hbl, hrow⟩
  exact ⟨v, rfl, hbl, [v], ⟨rd_own hx rfl hrow, trivial⟩, rfl⟩
variable {π : Pi} (h : Good TT π)
include h
theorem add_s {t t' : Nat} {a b : List Nat} {xs ys : List (List D)} {K : List DV → Prop} (hx : xs = wl a) (hy : ys = wl b) (ha : Ok BW a) (hb : Ok BW b) (hla : a.length ≤ 1000000) (hlb : b.length ≤ 1000000)
    (hk : ∀ o zs, zs = wl o → Ok BW o → o.length = max a.length b.length + 1 → val BW o = val BW a + val BW b → K [.one (.sl 1 1 zs)]) : π.call 95 [.one (.sl t 1 xs), .one (.sl t' 1 ys)] K := by
  refine h.call' _ (add_c ha hb hla hlb hx hy rfl) (hk _ _ rfl (pd_ok BW0 _ _) (pd_len _ _ _) (pd_val BW0 _ _ ?_))
  have h1 := val_lt ha
  have h2 := val_lt hb
  have h3 : BW ^ a.length ≤ BW ^ max a.length b.length := Nat.pow_le_pow_right BW0 (by omega)
  have h4 : BW ^ b.length ≤ BW ^ max a.length b.length := Nat.pow_le_pow_right BW0 (by omega)
  rw [Nat.pow_succ]
  have := Nat.mul_le_mul_left (BW ^ max a.length b.length) BW2
  omega
theorem sub_s {t t' : Nat} {a b : List Nat} {xs ys : List (List D)} {K : List DV → Prop} (hx : xs = wl a) (hy : ys = wl b) (ha : Ok BW a) (hb : Ok BW b) (hla : a.length ≤ 1000000) (hlb : b.length ≤ 1000000) (hle : val BW b ≤ val BW a)
    (hk : ∀ o zs, zs = wl o → Ok BW o → o.length = max a.length b.length → val BW o = val BW a - val BW b → K [.one (.sl 1 1 zs)]) : π.call 97 [.one (.sl t 1 xs), .one (.sl t' 1 ys)] K := by
  refine h.call' _ (sub_c ha hb hla hlb hx hy hle rfl) (hk _ _ rfl (pd_ok BW0 _ _) (pd_len _ _ _) (pd_val BW0 _ _ ?_))
  have h1 := val_lt ha
  have h3 : BW ^ a.length ≤ BW ^ max a.length b.length := Nat.pow_le_pow_right BW0 (by omega)
  omega
theorem cmp_s {t t' : Nat} {a b : List Nat} {xs ys : List (List D)} {K : List DV → Prop} (hx : xs = wl a) (hy : ys = wl b) (ha : Ok BW a) (hb : Ok BW b) (hca : Can a) (hcb : Can b) (hla : a.length ≤ 1000000) (hlb : b.length ≤ 1000000)
    (hk : ∀ c, (c < 0 ↔ val BW a < val BW b) → (0 < c ↔ val BW b < val BW a) → K [.one (.sc (.int .i64 c))]) : π.call 96 [.one (.sl t 1 xs), .one (.sl t' 1 ys)] K := by
  refine h.call' _ (cmp_c ha hb hla hlb hx hy rfl) (hk _ ?_ ?_)
  all_goals
    have hal : ∀ {u v : List Nat}, Ok BW u → Can v → u.length < v.length → val BW u < val BW v := fun {u v} hu hv hlt => by
      have h1 := val_lt hu
      have h2 := val_ge_of_can BW0 hv (by rintro rfl; simp at hlt)
      have h3 : BW ^ u.length ≤ BW ^ (v.length - 1) := Nat.pow_le_pow_right BW0 (by omega)
      omega
    have h1 := @hal a b ha hcb
    have h2 := @hal b a hb hca
    split
    · split
      · omega
      · split <;> omega
    · omega
theorem clone_s {t : Nat} {a : List Nat} {xs : List (List D)} {K : List DV → Prop} (hx : xs = wl a) (hla : a.length ≤ 1000000) (hk : K [.one (.sl 1 1 xs)]) : π.call 91 [.one (.sl t 1 xs)] K := h.call' _ (clone_c hla hx) hk
end Go.Proofs.YtpmlocilhhjifaaGreat.Eng
