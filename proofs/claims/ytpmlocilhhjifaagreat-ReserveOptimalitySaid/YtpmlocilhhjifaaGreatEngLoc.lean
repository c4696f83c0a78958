/- What an operation does hangs on its operands and on the blocks that it names alone. -/
import Derived.Test.YtpmlocilhhjifaaGreatEngAll
set_option linter.unusedSimpArgs false
set_option linter.unusedVariables false
namespace Go.Proofs.YtpmlocilhhjifaaGreat.Eng
open Go.RowKit
section
variable {ty : Nat → TI} {T : Nat → List DV → List DV → Prop} {S : AS}

def opNames (o : Operand) : List Nat := match o with | .tmp k => [k] | _ => []
theorem ev_agree {S S' : AS} {t : Nat} {x : Operand} (h : ∀ k, x = .tmp k → S'.t k = S.t k) : ev ty S' t x = ev ty S t x := by
  cases x with
  | tmp k => exact h k rfl
  | _ => rfl
theorem gdv_split {x : AT} {K : DV → List (Nat × BE) → List Nat → Prop} (h : gdv S x K) : ∃ d k r, K d k r ∧ ∀ S' : AS, (∀ s ∈ r, S'.b s = S.b s) → ∀ K' : DV → List (Nat × BE) → List Nat → Prop, K' d k r → gdv S' x K' := by
  unfold gdv at h
  split at h
  · exact ⟨_, _, _, h, fun S' _ K' hk => hk⟩
  · rename_i s
    split at h
    · rename_i e es xs hs
      refine ⟨_, _, _, h, fun S' hS' K' hk => ?_⟩
      simp only [gdv, hS' s (by simp), hs]
      exact hk
    · exact h.elim
  · exact h.elim
theorem setB_agree {f g : Nat → BE} {s : Nat} (h : f s = g s) : ∀ k, setB f k s = setB g k s
  | [] => h
  | (r, e) :: k => by
    simp only [setB]
    refine setB_agree ?_ k
    by_cases hr : s = r
    · subst hr; simp [upd_same]
    · simp [upd_ne _ _ hr, h]
theorem gdvs_split : ∀ (l : List (Nat × Operand)) {S : AS} {K : List DV → List (Nat × BE) → List Nat → Prop}, gdvs ty S l K →
    ∃ ds k r, K ds k r ∧ ∀ S' : AS, (∀ q ∈ l, ∀ k, q.2 = .tmp k → S'.t k = S.t k) → (∀ s ∈ r, S'.b s = S.b s) → ∀ K' : List DV → List (Nat × BE) → List Nat → Prop, K' ds k r → gdvs ty S' l K'
  | [], S, K, h => ⟨_, _, _, h, fun S' _ _ K' hk => hk⟩
  | (t, x) :: l, S, K, h => by
    simp only [gdvs] at h
    obtain ⟨d, k, r, h, h1⟩ := gdv_split h
    obtain ⟨ds, k2, r2, h, h2⟩ := gdvs_split l h
    refine ⟨_, _, _, h, fun S' hs hb K' hk => ?_⟩
    simp only [gdvs]
    rw [ev_agree (fun q hq => hs (t, x) (by simp) q hq)]
    refine h1 S' (fun s hs => hb s (by simp [hs])) _ ?_
    exact h2 { t := S'.t, b := setB S'.b k } (fun q hq => hs q (by simp [hq])) (fun s hs => setB_agree (hb s (by simp [hs])) k) _ hk
theorem sumB_split {x : AT} {K : List (List D) → List Nat → Prop} (h : sumB x S K) : ∃ xs r, K xs r ∧ ∀ S' : AS, (∀ s ∈ r, S'.b s = S.b s) → ∀ K' : List (List D) → List Nat → Prop, K' xs r → sumB x S' K' := by
  unfold sumB at h
  split at h
  · exact ⟨_, _, h, fun S' _ K' hk => hk⟩
  · rename_i s
    split at h
    · rename_i e es xs hs
      refine ⟨_, _, h, fun S' hS' K' hk => ?_⟩
      simp only [sumB, hS' s (by simp), hs]
      exact hk
    · exact h.elim
  · exact h.elim
theorem anew_split {dst : Option Nat} {f : Nat → Prop} (h : anew S dst f) : ∃ d, f d ∧ ∀ S' : AS, S'.b d = S.b d → ∀ f' : Nat → Prop, f' d → anew S' dst f' := by
  obtain ⟨d, rfl, hno, hf⟩ := anew_ok h
  refine ⟨d, hf, fun S' hS' f' h' => ?_⟩
  simp only [anew, hS', hno]
  exact h'

/-- The effect, and that it comes in every state that agrees. -/
def Spl (ty : Nat → TI) (T : Nat → List DV → List DV → Prop) (S : AS) (o : Oper) (K : Eff → Prop) : Prop :=
  ∃ E, K E ∧ ∀ S' : AS, (∀ k, Operand.tmp k ∈ o.op.operands → S'.t k = S.t k) → (∀ s ∈ E.rd ++ E.bl.map (·.1), S'.b s = S.b s) → aop (real T) ty S' o (fun E' => E' = E)

theorem abin_split {t : Nat} {op : BinOp} {x y : AT} {K : Eff → Prop} (h : abin (real T) ty t op x y K) : ∃ E, K E ∧ abin (real T) ty t op x y (fun E' => E' = E) := by
  unfold abin at h ⊢
  split at h
  · rename_i k p k' q
    cases h1 : isSh op with
    | true => rw [h1] at h; obtain ⟨c, hc, h⟩ := h; exact ⟨_, h, c, hc, rfl⟩
    | false =>
      rw [h1] at h
      simp only [cond_false] at h ⊢
      cases h2 : Nat.beq (kN k) (kN k') with
      | false => rw [h2] at h; exact h.elim
      | true =>
        rw [h2] at h
        simp only [cond_true] at h ⊢
        cases h3 : isCmp op with
        | true => rw [h3] at h; obtain ⟨c, hc, h⟩ := h; exact ⟨_, h, c, hc, rfl⟩
        | false => rw [h3] at h; obtain ⟨c, hc, h⟩ := h; exact ⟨_, h, c, hc, rfl⟩
  · split at h
    · cases h1 : isEq op with
      | false => rw [h1] at h; exact h.elim
      | true => rw [h1] at h; exact ⟨_, h, rfl⟩
    · exact h.elim
  · cases h1 : isEq op with
    | true => rw [h1] at h; exact ⟨_, h, rfl⟩
    | false =>
      rw [h1] at h
      simp only [cond_false] at h ⊢
      cases h2 : isAdd op with
      | false => rw [h2] at h; exact h.elim
      | true => rw [h2] at h; obtain ⟨hl, h⟩ := h; exact ⟨_, h, hl, rfl⟩
  · exact h.elim
theorem optI_split {x : Option Operand} {K : Option Int → Prop} (h : optI ty S x K) : ∃ n, K n ∧ ∀ S' : AS, (∀ k, Operand.tmp k ∈ x.toArray → S'.t k = S.t k) → ∀ K' : Option Int → Prop, K' n → optI ty S' x K' := by
  unfold optI at h
  split at h
  · exact ⟨_, h, fun S' _ K' hk => hk⟩
  · rename_i o
    split at h
    · rename_i n hn
      refine ⟨_, h, fun S' hS' K' hk => ?_⟩
      simp only [optI]
      rw [ev_agree (fun k hk => hS' k (by subst hk; simp)), hn]
      exact hk
    · exact h.elim

theorem aop_split {o : Oper} {K : Eff → Prop} (h : aop (real T) ty S o K) : Spl ty T S o K := by
  unfold Spl
  unfold aop at h
  have ag : ∀ {S' : AS} {t : Nat} {x : Operand}, x ∈ o.op.operands → (∀ k, Operand.tmp k ∈ o.op.operands → S'.t k = S.t k) → ev ty S' t x = ev ty S t x :=
    fun hm hS => ev_agree fun k hk => hS k (by subst hk; exact hm)
  cases hop : o.op with
  | move x =>
    rw [hop] at h ag
    refine ⟨_, h, fun S' h1 h2 => ?_⟩
    unfold aop; rw [hop]; simp only; rw [ag (by simp [Op.operands]) h1]
  | assign x =>
    rw [hop] at h ag
    refine ⟨_, h, fun S' h1 h2 => ?_⟩
    unfold aop; rw [hop]; simp only; rw [ag (by simp [Op.operands]) h1]
  | pick c x y =>
    rw [hop] at h ag
    simp only at h
    split at h
    · rename_i hc
      refine ⟨_, h, fun S' h1 h2 => ?_⟩
      unfold aop; rw [hop]; simp only
      rw [ag (x := c) (by simp [Op.operands]) h1, ag (x := x) (by simp [Op.operands]) h1, hc]
    · rename_i hc
      refine ⟨_, h, fun S' h1 h2 => ?_⟩
      unfold aop; rw [hop]; simp only
      rw [ag (x := c) (by simp [Op.operands]) h1, ag (x := y) (by simp [Op.operands]) h1, hc]
    · exact h.elim
  | alloc t =>
    rw [hop] at h ag
    simp only at h
    cases hb : Nat.ble 1 (ty t).size with
    | false => rw [hb] at h; exact h.elim
    | true =>
      rw [hb] at h
      obtain ⟨d, h, h1⟩ := anew_split h
      refine ⟨_, h, fun S' h2 h3 => ?_⟩
      unfold aop; rw [hop]; simp only; rw [hb]
      exact h1 S' (h3 d (by simp)) _ rfl
  | box t x =>
    rw [hop] at h ag
    simp only at h
    obtain ⟨d, k, r, h, h1⟩ := gdv_split h
    obtain ⟨dd, h, h2⟩ := anew_split h
    refine ⟨_, h, fun S' h3 h4 => ?_⟩
    unfold aop; rw [hop]; simp only
    rw [ag (x := x) (by simp [Op.operands]) h3]
    exact h1 S' (fun s hs => h4 s (by simp [hs])) _ (h2 S' (h4 dd (by simp)) _ rfl)
  | build t ps =>
    rw [hop] at h ag
    simp only at h
    split at h
    · rename_i fs hk
      obtain ⟨ds, k, r, h, h1⟩ := gdvs_split _ h
      split at h
      · rename_i cs hcs
        refine ⟨_, h, fun S' h3 h4 => ?_⟩
        unfold aop; rw [hop]; simp only; rw [hk]; simp only
        refine h1 S' (fun q hq k' hq' => h3 k' ?_) (fun s hs => h4 s (by simp [hs])) _ ?_
        · obtain ⟨p, hp, rfl⟩ := List.mem_map.1 hq
          simp only at hq'
          simp only [Op.operands, List.mem_toArray, List.mem_map]
          exact ⟨p, hp, hq'⟩
        · rw [hcs]
      · exact h.elim
    · exact h.elim
  | buildSlice t n ps =>
    rw [hop] at h ag
    simp only at h
    split at h
    · rename_i e he
      cases hc : (Nat.beq n ps.size && idxOk ps.toList 0 && Nat.ble n 1000 && Nat.ble (ty e).size 1000) with
      | false => rw [hc] at h; exact h.elim
      | true =>
        rw [hc] at h
        obtain ⟨ds, k, r, h, h1⟩ := gdvs_split _ h
        obtain ⟨dd, h, h2⟩ := anew_split h
        cases hal : (ds.all fun x => Nat.beq x.cells.length (ty e).size) with
        | false => rw [hal] at h; exact h.elim
        | true =>
          rw [hal] at h
          refine ⟨_, h, fun S' h3 h4 => ?_⟩
          unfold aop; rw [hop]; simp only; rw [he]; simp only; rw [hc]
          refine h1 S' (fun q hq k' hq' => h3 k' ?_) (fun s hs => h4 s (by simp [hs])) _ (h2 S' (h4 dd (by simp)) _ ?_)
          · obtain ⟨p, hp, rfl⟩ := List.mem_map.1 hq
            simp only at hq'
            simp only [Op.operands, List.mem_toArray, List.mem_map]
            exact ⟨p, hp, hq'⟩
          · rw [hal]; rfl
    · exact h.elim
  | load t x =>
    rw [hop] at h ag
    simp only [aload] at h
    cases hsz : Nat.ble 1 (ty t).size with
    | false => rw [hsz] at h; exact h.elim
    | true =>
      rw [hsz] at h
      simp only [cond_true] at h
      split at h
      · rename_i cs hx
        cases hb : Nat.ble (ty t).size cs.length with
        | false => rw [hb] at h; exact h.elim
        | true =>
          rw [hb] at h
          simp only [cond_true] at h
          split at h
          · rename_i d hd
            refine ⟨_, h, fun S' h3 h4 => ?_⟩
            unfold aop; rw [hop]; simp only [aload]; rw [hsz]; simp only [cond_true]
            rw [ag (x := x) (by simp [Op.operands]) h3, hx]; simp only [hb, cond_true, hd]
          · exact h.elim
      · rename_i s es i off hx
        split at h
        · rename_i cs hs
          cases hb : (Nat.beq i 0 && Nat.ble (off + (ty t).size) cs.length) with
          | false => rw [hb] at h; exact h.elim
          | true =>
            rw [hb] at h
            simp only [cond_true] at h
            split at h
            · rename_i d hd
              refine ⟨_, h, fun S' h3 h4 => ?_⟩
              unfold aop; rw [hop]; simp only [aload]; rw [hsz]; simp only [cond_true]
              rw [ag (x := x) (by simp [Op.operands]) h3, hx]; simp only [h4 s (by simp), hs, hb, cond_true, hd]
            · exact h.elim
        · rename_i e es' xs hs
          cases hb : Nat.beq es es' with
          | false => rw [hb] at h; exact h.elim
          | true =>
            rw [hb] at h
            obtain ⟨z, hz, h⟩ := h
            cases hb2 : Nat.ble (off + (ty t).size) z.length with
            | false => rw [hb2] at h; exact h.elim
            | true =>
              rw [hb2] at h
              simp only [cond_true] at h
              split at h
              · rename_i d hd
                refine ⟨_, h, fun S' h3 h4 => ?_⟩
                unfold aop; rw [hop]; simp only [aload]; rw [hsz]; simp only [cond_true]
                rw [ag (x := x) (by simp [Op.operands]) h3, hx]; simp only [h4 s (by simp), hs, hb, cond_true]
                exact ⟨z, hz, by simp only [hb2, cond_true, hd]⟩
              · exact h.elim
        · exact h.elim
      · exact h.elim
  | store t x y =>
    rw [hop] at h ag
    simp only [astore] at h
    obtain ⟨d, k, r, h, h1⟩ := gdv_split h
    cases hsz : (Nat.ble 1 (ty t).size && Nat.beq d.cells.length (ty t).size) with
    | false => rw [hsz] at h; exact h.elim
    | true =>
      rw [hsz] at h
      simp only [cond_true] at h
      split at h
      · rename_i s es i off hx
        split at h
        · rename_i cs hs
          cases hb : Nat.beq i 0 with
          | false => rw [hb] at h; exact h.elim
          | true =>
            rw [hb] at h
            simp only [cond_true] at h
            split at h
            · rename_i cs' hcs'
              refine ⟨_, h, fun S' h3 h4 => ?_⟩
              unfold aop; rw [hop]; simp only [astore]
              rw [ag (x := y) (by simp [Op.operands]) h3]
              refine h1 S' (fun s hs => h4 s (by simp [hs])) _ ?_
              rw [hsz]; simp only [cond_true]
              rw [ag (x := x) (by simp [Op.operands]) h3, hx]
              have : setB S'.b k s = setB S.b k s := setB_agree (h4 s (by simp)) k
              simp only [this, hs, hb, cond_true, hcs']
            · exact h.elim
        · rename_i e es' xs hs
          cases hb : Nat.beq es es' with
          | false => rw [hb] at h; exact h.elim
          | true =>
            rw [hb] at h
            obtain ⟨z, z', hz, hz', hzl, h⟩ := h
            refine ⟨_, h, fun S' h3 h4 => ?_⟩
            unfold aop; rw [hop]; simp only [astore]
            rw [ag (x := y) (by simp [Op.operands]) h3]
            refine h1 S' (fun s hs => h4 s (by simp [hs])) _ ?_
            rw [hsz]; simp only [cond_true]
            rw [ag (x := x) (by simp [Op.operands]) h3, hx]
            have : setB S'.b k s = setB S.b k s := setB_agree (h4 s (by simp)) k
            simp only [this, hs, hb, cond_true]
            exact ⟨z, z', hz, hz', hzl, rfl⟩
        · exact h.elim
      · exact h.elim
  | nilCheck x =>
    rw [hop] at h ag
    simp only at h
    split at h
    · rename_i hx
      refine ⟨_, h, fun S' h3 h4 => ?_⟩
      unfold aop; rw [hop]; simp only; rw [ag (x := x) (by simp [Op.operands]) h3, hx]
    · rename_i hx
      refine ⟨_, h, fun S' h3 h4 => ?_⟩
      unfold aop; rw [hop]; simp only; rw [ag (x := x) (by simp [Op.operands]) h3, hx]
    · exact h.elim
  | binOp op t x y t' =>
    rw [hop] at h ag
    obtain ⟨E, h, h1⟩ := abin_split h
    refine ⟨_, h, fun S' h3 h4 => ?_⟩
    unfold aop; rw [hop]; simp only; rw [ag (x := x) (by simp [Op.operands]) h3, ag (x := y) (by simp [Op.operands]) h3]
    exact h1
  | unOp op t x =>
    rw [hop] at h ag
    simp only at h
    split at h
    · rename_i hx
      refine ⟨_, h, fun S' h3 h4 => ?_⟩
      unfold aop; rw [hop]; simp only; rw [ag (x := x) (by simp [Op.operands]) h3, hx]; trivial
    · rename_i hx
      refine ⟨_, h, fun S' h3 h4 => ?_⟩
      unfold aop; rw [hop]; simp only; rw [ag (x := x) (by simp [Op.operands]) h3, hx]; trivial
    · rename_i hx
      obtain ⟨c, hc, h⟩ := h
      refine ⟨_, h, fun S' h3 h4 => ?_⟩
      unfold aop; rw [hop]; simp only; rw [ag (x := x) (by simp [Op.operands]) h3, hx]
      exact ⟨c, hc, rfl⟩
    · exact h.elim
  | convert s t x =>
    rw [hop] at h ag
    simp only at h
    split at h
    · rename_i k hk
      split at h
      · rename_i k' n hx
        cases hb : Nat.ble 1 (ty s).size with
        | false => rw [hb] at h; exact h.elim
        | true =>
          rw [hb] at h
          refine ⟨_, h, fun S' h3 h4 => ?_⟩
          unfold aop; rw [hop]; simp only; rw [hk]; simp only; rw [ag (x := x) (by simp [Op.operands]) h3, hx]; simp only [hb, cond_true]; rfl
      · exact h.elim
    · rename_i hk
      split at h
      · rename_i e he
        split at h
        · rename_i hke
          obtain ⟨xs, r, h, h1⟩ := sumB_split h
          obtain ⟨l, hl, h⟩ := h
          refine ⟨_, h, fun S' h3 h4 => ?_⟩
          unfold aop; rw [hop]; simp only; rw [hk]; simp only; rw [he]; simp only; rw [hke]; simp only; rw [ag (x := x) (by simp [Op.operands]) h3]
          exact h1 S' (fun s hs => h4 s (by simp [hs])) _ ⟨l, hl, rfl⟩
        · exact h.elim
      · exact h.elim
    · exact h.elim
  | makeSlice t x y =>
    rw [hop] at h ag
    simp only at h
    split at h
    · rename_i e n c he hn hc
      obtain ⟨d, h, h1⟩ := anew_split h
      obtain ⟨k, a1, a2, a3, a4, a5, h⟩ := h
      refine ⟨_, h, fun S' h3 h4 => ?_⟩
      unfold aop; rw [hop]; simp only; rw [ag (x := x) (by simp [Op.operands]) h3, ag (x := y) (by simp [Op.operands]) h3, he, hn, hc]
      exact h1 S' (h4 d (by simp)) _ ⟨k, a1, a2, a3, a4, a5, rfl⟩
    · exact h.elim
  | slice t x lo hi mx =>
    rw [hop] at h ag
    cases mx with
    | some _ => exact h.elim
    | none =>
      simp only at h
      have agl : ∀ {S' : AS}, (∀ k, Operand.tmp k ∈ (Op.slice t x lo hi none).operands → S'.t k = S.t k) → ∀ k, Operand.tmp k ∈ lo.toArray → S'.t k = S.t k := fun hS k hk => hS k (by
        cases lo with
        | none => simp at hk
        | some q => simp at hk; subst hk; simp [Op.operands])
      have agh : ∀ {S' : AS}, (∀ k, Operand.tmp k ∈ (Op.slice t x lo hi none).operands → S'.t k = S.t k) → ∀ k, Operand.tmp k ∈ hi.toArray → S'.t k = S.t k := fun hS k hk => hS k (by
        cases hi with
        | none => simp at hk
        | some q => simp at hk; subst hk; simp [Op.operands])
      split at h
      · rename_i hkd
        split at h
        · rename_i s hx
          obtain ⟨l, h, h1⟩ := optI_split h
          obtain ⟨hh, h, h2⟩ := optI_split h
          obtain ⟨q1, q2, a1, a2, a3, a4, h⟩ := h
          refine ⟨_, h, fun S' h3 h4 => ?_⟩
          unfold aop; rw [hop]; simp only; rw [hkd]; simp only; rw [ag (x := x) (by simp [Op.operands]) h3, hx]; simp only
          exact h1 S' (agl h3) _ (h2 S' (agh h3) _ ⟨q1, q2, a1, a2, a3, a4, rfl⟩)
        · exact h.elim
      · rename_i e hkd
        obtain ⟨d, k, r, h, h0⟩ := gdv_split h
        split at h
        · rename_i tg sz xs
          cases hb : Nat.beq sz (ty e).size with
          | false => rw [hb] at h; exact h.elim
          | true =>
            rw [hb] at h
            simp only [cond_true] at h
            obtain ⟨l, h, h1⟩ := optI_split h
            obtain ⟨hh, h, h2⟩ := optI_split h
            obtain ⟨q1, q2, a1, a2, a3, a4, h⟩ := h
            refine ⟨_, h, fun S' h3 h4 => ?_⟩
            unfold aop; rw [hop]; simp only; rw [hkd]; simp only; rw [ag (x := x) (by simp [Op.operands]) h3]
            refine h0 S' (fun s hs => h4 s (by simp [hs])) _ ?_
            simp only [hb, cond_true]
            exact h1 S' (agl h3) _ (h2 S' (agh h3) _ ⟨q1, q2, a1, a2, a3, a4, rfl⟩)
        · exact h.elim
      · exact h.elim
  | fieldAddr t x j =>
    rw [hop] at h ag
    simp only at h
    split at h
    · rename_i off n q s es i o' hf hx
      cases hb : Nat.ble 1 n with
      | false => rw [hb] at h; exact h.elim
      | true =>
        rw [hb] at h
        refine ⟨_, h, fun S' h3 h4 => ?_⟩
        unfold aop; rw [hop]; simp only; rw [ag (x := x) (by simp [Op.operands]) h3, hf, hx]; simp only [hb, cond_true]
    · rename_i off n q cs hf hx
      cases hb : Nat.ble 1 n with
      | false => rw [hb] at h; exact h.elim
      | true =>
        rw [hb] at h
        refine ⟨_, h, fun S' h3 h4 => ?_⟩
        unfold aop; rw [hop]; simp only; rw [ag (x := x) (by simp [Op.operands]) h3, hf, hx]; simp only [hb, cond_true]
    · exact h.elim
  | field t x j =>
    rw [hop] at h ag
    simp only at h
    split at h
    · rename_i off n ft cs hf hx
      cases hb : Nat.ble (off + n) cs.length with
      | false => rw [hb] at h; exact h.elim
      | true =>
        rw [hb] at h
        simp only [cond_true] at h
        split at h
        · rename_i d hd
          refine ⟨_, h, fun S' h3 h4 => ?_⟩
          unfold aop; rw [hop]; simp only; rw [ag (x := x) (by simp [Op.operands]) h3, hf, hx]; simp only [hb, cond_true, hd]
        · exact h.elim
    · exact h.elim
  | indexAddr t x y =>
    rw [hop] at h ag
    simp only at h
    split at h
    · rename_i e n tg sz xs he hn hx
      cases hb : Nat.beq sz (ty e).size with
      | false => rw [hb] at h; exact h.elim
      | true =>
        rw [hb] at h
        obtain ⟨i, z, a1, a2, h⟩ := h
        refine ⟨_, h, fun S' h3 h4 => ?_⟩
        unfold aop; rw [hop]; simp only; rw [ag (x := x) (by simp [Op.operands]) h3, ag (x := y) (by simp [Op.operands]) h3, he, hn, hx]; simp only [hb, cond_true]
        exact ⟨i, z, a1, a2, rfl⟩
    · rename_i e n s he hn hx
      split at h
      · rename_i e' es xs hs
        cases hb : Nat.beq es (ty e).size with
        | false => rw [hb] at h; exact h.elim
        | true =>
          rw [hb] at h
          obtain ⟨i, a1, a2, h⟩ := h
          refine ⟨_, h, fun S' h3 h4 => ?_⟩
          unfold aop; rw [hop]; simp only; rw [ag (x := x) (by simp [Op.operands]) h3, ag (x := y) (by simp [Op.operands]) h3, he, hn, hx]; simp only [h4 s (by simp), hs, hb, cond_true]
          exact ⟨i, a1, a2, rfl⟩
      · exact h.elim
    · exact h.elim
  | index t x y =>
    rw [hop] at h ag
    simp only at h
    split at h
    · rename_i n s hk hn hx
      obtain ⟨i, c, a1, a2, h⟩ := h
      refine ⟨_, h, fun S' h3 h4 => ?_⟩
      unfold aop; rw [hop]; simp only; rw [ag (x := x) (by simp [Op.operands]) h3, ag (x := y) (by simp [Op.operands]) h3, hk, hn, hx]
      exact ⟨i, c, a1, a2, rfl⟩
    · exact h.elim
  | extract x j =>
    rw [hop] at h ag
    simp only at h
    split at h
    · rename_i ds hx
      split at h
      · rename_i d hd
        refine ⟨_, h, fun S' h3 h4 => ?_⟩
        unfold aop; rw [hop]; simp only; rw [ag (x := x) (by simp [Op.operands]) h3, hx]; simp only [hd]
      · exact h.elim
    · exact h.elim
  | call c =>
    rw [hop] at h ag
    have agc : ∀ {S' : AS} {t : Nat} {x : Operand}, x ∈ c.args.toList → (∀ k, Operand.tmp k ∈ (Op.call c).operands → S'.t k = S.t k) → ev ty S' t x = ev ty S t x :=
      fun hm hS => ag (by simp only [Op.operands, Call.operands]; exact Array.mem_append.2 (.inr (by simpa using hm))) hS
    simp only [acall] at h
    split at h
    · rename_i f hc
      cases hmu : mutF f with
      | true =>
        rw [hmu] at h
        simp only [cond_true] at h
        unfold amut at h
        split at h
        case h_2 => exact h.elim
        rename_i t x hts hxs
        split at h
        case h_2 => exact h.elim
        rename_i s hs
        split at h
        case h_2 => exact h.elim
        rename_i e es xs hbs
        obtain ⟨ys, hT, h⟩ := h
        refine ⟨_, h, fun S' h3 h4 => ?_⟩
        unfold aop; rw [hop]; simp only [acall]; rw [hc]; simp only; rw [hmu]; simp only [cond_true, amut, hts, hxs]; rw [agc (x := x) (by rw [hxs]; simp) h3, hs]
        simp only
        rw [h4 s (by simp), hbs]
        exact ⟨ys, hT, rfl⟩
      | false =>
      rw [hmu] at h
      simp only [cond_false] at h
      cases hsz : Nat.beq c.argTypes.size c.args.size with
      | false => rw [hsz] at h; exact h.elim
      | true =>
        rw [hsz] at h
        simp only [cond_true] at h
        obtain ⟨ds, k, r, h, h1⟩ := gdvs_split _ h
        obtain ⟨rs, hT, h⟩ := h
        refine ⟨_, h, fun S' h3 h4 => ?_⟩
        unfold aop; rw [hop]; simp only [acall]; rw [hc]; simp only; rw [hmu]; simp only [cond_false]; rw [hsz]; simp only [cond_true]
        refine h1 S' (fun q hq k' hq' => h3 k' ?_) (fun s hs => h4 s (by simp [hs])) _ ⟨rs, hT, rfl⟩
        simp only [Op.operands, Call.operands]
        refine Array.mem_append.2 (.inr ?_)
        have := (List.of_mem_zip (a := q.1) (b := q.2) hq).2
        rw [hq'] at this
        simpa using this
    · rename_i k hc
      split at h
      · rename_i f hk
        cases hmu : mutF f with
        | true => rw [hmu] at h; exact h.elim
        | false =>
        rw [hmu] at h
        simp only [cond_false] at h
        have hk' : ∀ S' : AS, (∀ k, Operand.tmp k ∈ (Op.call c).operands → S'.t k = S.t k) → S'.t k = .v (.one (.sc (.func (.func f) ⟨[]⟩ ⟨[]⟩))) := fun S' h3 => by
          rw [h3 k (by simp [Op.operands, Call.operands, hc]), hk]
        cases hsz : Nat.beq c.argTypes.size c.args.size with
        | false => rw [hsz] at h; exact h.elim
        | true =>
          rw [hsz] at h
          simp only [cond_true] at h
          obtain ⟨ds, k, r, h, h1⟩ := gdvs_split _ h
          obtain ⟨rs, hT, h⟩ := h
          refine ⟨_, h, fun S' h3 h4 => ?_⟩
          unfold aop; rw [hop]; simp only [acall]; rw [hc]; simp only; rw [hk' S' h3]; simp only; rw [hmu]; simp only [cond_false]; rw [hsz]; simp only [cond_true]
          refine h1 S' (fun q hq k' hq' => h3 k' ?_) (fun s hs => h4 s (by simp [hs])) _ ⟨rs, hT, rfl⟩
          simp only [Op.operands, Call.operands]
          refine Array.mem_append.2 (.inr ?_)
          have := (List.of_mem_zip (a := q.1) (b := q.2) hq).2
          rw [hq'] at this
          simpa using this
      · exact h.elim
    · exact h.elim
    · exact h.elim
    · rename_i b hc
      split at h
      · rename_i ts xs t x hts hxs
        simp only [alen] at h
        split at h
        · rename_i hk
          split at h
          · rename_i s hx
            refine ⟨_, h, fun S' h3 h4 => ?_⟩
            unfold aop; rw [hop]; simp only [acall]; rw [hc]; simp only [hts, hxs, alen]; rw [hk]; simp only; rw [agc (x := x) (by rw [hxs]; simp) h3, hx]
            exact rfl
          · exact h.elim
        · rename_i e hk
          obtain ⟨ys, r, h, h1⟩ := sumB_split h
          refine ⟨_, h, fun S' h3 h4 => ?_⟩
          unfold aop; rw [hop]; simp only [acall]; rw [hc]; simp only [hts, hxs, alen]; rw [hk]; simp only; rw [agc (x := x) (by rw [hxs]; simp) h3]
          exact h1 S' (fun s hs => h4 s (by simp [hs])) _ rfl
        · exact h.elim
      · rename_i ts xs t t' x y hts hxs
        cases htt : Nat.beq t t' with
        | false => rw [htt] at h; exact h.elim
        | true =>
          rw [htt] at h
          simp only [cond_true, aappend] at h
          split at h
          · rename_i e he
            obtain ⟨ys, r, h, h1⟩ := sumB_split h
            obtain ⟨d, h, h2⟩ := anew_split h
            split at h
            · rename_i sz hx
              obtain ⟨a1, a2, a3, a4, h⟩ := h
              refine ⟨_, h, fun S' h3 h4 => ?_⟩
              unfold aop; rw [hop]; simp only [acall]; rw [hc]; simp only [hts, hxs, htt, cond_true, aappend]; rw [he]; simp only
              rw [agc (x := y) (by rw [hxs]; simp) h3]
              refine h1 S' (fun s hs => h4 s (by simp [hs])) _ (h2 S' (h4 d (by simp)) _ ?_)
              rw [agc (x := x) (by rw [hxs]; simp) h3, hx]
              exact ⟨a1, a2, a3, a4, rfl⟩
            · rename_i s hx
              split at h
              · rename_i e' es' xs' hs
                cases hck : (Nat.beq e' e && Nat.beq es' (ty e).size) with
                | false => rw [hck] at h; exact h.elim
                | true =>
                  rw [hck] at h
                  obtain ⟨a1, a2, a3, a4, h⟩ := h
                  refine ⟨_, h, fun S' h3 h4 => ?_⟩
                  unfold aop; rw [hop]; simp only [acall]; rw [hc]; simp only [hts, hxs, htt, cond_true, aappend]; rw [he]; simp only
                  rw [agc (x := y) (by rw [hxs]; simp) h3]
                  refine h1 S' (fun s hs => h4 s (by simp [hs])) _ (h2 S' (h4 d (by simp)) _ ?_)
                  rw [agc (x := x) (by rw [hxs]; simp) h3, hx]
                  simp only [h4 s (by simp), hs, hck, cond_true]
                  exact ⟨a1, a2, a3, a4, rfl⟩
              · exact h.elim
            · exact h.elim
          · exact h.elim
      · rename_i ts xs t t' x y hts hxs
        split at h
        · rename_i k p k' q hx hy
          obtain ⟨cc, hcc, h⟩ := h
          cases cc with
          | true =>
            refine ⟨_, h, fun S' h3 h4 => ?_⟩
            unfold aop; rw [hop]; simp only [acall]; rw [hc]; simp only [hts, hxs]; rw [agc (x := x) (by rw [hxs]; simp) h3, agc (x := y) (by rw [hxs]; simp) h3, hx, hy]
            exact ⟨true, hcc, rfl⟩
          | false =>
            refine ⟨_, h, fun S' h3 h4 => ?_⟩
            unfold aop; rw [hop]; simp only [acall]; rw [hc]; simp only [hts, hxs]; rw [agc (x := x) (by rw [hxs]; simp) h3, agc (x := y) (by rw [hxs]; simp) h3, hx, hy]
            exact ⟨false, hcc, rfl⟩
        · exact h.elim
      · rename_i ts xs t t' x y hts hxs
        split at h
        · rename_i k p k' q hx hy
          obtain ⟨cc, hcc, h⟩ := h
          cases cc with
          | true =>
            refine ⟨_, h, fun S' h3 h4 => ?_⟩
            unfold aop; rw [hop]; simp only [acall]; rw [hc]; simp only [hts, hxs]; rw [agc (x := x) (by rw [hxs]; simp) h3, agc (x := y) (by rw [hxs]; simp) h3, hx, hy]
            exact ⟨true, hcc, rfl⟩
          | false =>
            refine ⟨_, h, fun S' h3 h4 => ?_⟩
            unfold aop; rw [hop]; simp only [acall]; rw [hc]; simp only [hts, hxs]; rw [agc (x := x) (by rw [hxs]; simp) h3, agc (x := y) (by rw [hxs]; simp) h3, hx, hy]
            exact ⟨false, hcc, rfl⟩
        · exact h.elim
      · exact h.elim
  | _ => rw [hop] at h; exact h.elim
end
end Go.Proofs.YtpmlocilhhjifaaGreat.Eng
