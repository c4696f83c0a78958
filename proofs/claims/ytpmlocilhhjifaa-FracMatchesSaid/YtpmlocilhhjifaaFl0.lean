/- Package frac: parted, at the two strings that the chapter's examples part. By hand. -/
import Derived.WalkMore
import Derived.BigRegionIn
import Derived.Test.YtpmlocilhhjifaaWClo
namespace Go.Proofs.Ytpmlocilhhjifaa.Eng
open Go.RowKit Go.Shelf Go.Proofs
set_option linter.unusedSimpArgs false
set_option linter.unusedVariables false
set_option maxRecDepth 100000
set_option maxHeartbeats 1000000 in
theorem part24_in (w : World) : Calls Try.prog 153 #[.string ⟨#[50, 47, 52]⟩] w fun e w' => e = .returned (.tuple #[.string ⟨#[50]⟩, .string ⟨#[52]⟩, .bool true]) ∧ Below w.heap.size w w' := by
  go_enter Try.func153, Try.ntmps153
  go_wp2
  go_step3
  go_wp2
  go_step3
  go_wp2
  go_loopw [5] (fun k wr => (k = .int .i64 0 ∨ k = .int .i64 1) ∧ wr = w) (fun k _ => 2 - (intOf k).toNat)
  case atStart => exact ⟨.inl rfl, rfl⟩
  case round =>
    obtain ⟨rfl | rfl, rfl⟩ := hrel
    · go_wp2
      go_roundw
      case rel => first | exact ⟨.inr rfl, rfl⟩ | exact ⟨.inr rfl, trivial⟩
      case measure => simp [intOf]
    · go_wp2
      go_region
      all_goals go_wp2
      all_goals rw [Exit.noGoto_ret]
      all_goals go_ret3
      all_goals exact ⟨rfl, (Below.refl _ _).drew⟩
theorem part24_c : TT 153 [.one (.sc (.string ⟨#[50, 47, 52]⟩))] [.one (.sc (.string ⟨#[50]⟩)), .one (.sc (.string ⟨#[52]⟩)), .one (.sc (.bool true))] := by
  refine tt_of Try.func153 (by kernel_rfl) (by kernel_rfl) (by kernel_rfl) fun okx w vs hvs => ?_
  obtain ⟨v, rfl, hv⟩ := one_arg hvs
  obtain rfl := RD.sc_inv hv
  refine (part24_in w).mono ?_
  rintro e w' ⟨rfl, hb⟩
  exact ⟨_, rfl, hb, [_, _, _], ⟨.sc _ rfl, .sc _ rfl, .sc _ rfl, trivial⟩, rfl⟩
set_option maxHeartbeats 1000000 in
theorem part31_in (w : World) : Calls Try.prog 153 #[.string ⟨#[51, 47, 49]⟩] w fun e w' => e = .returned (.tuple #[.string ⟨#[51]⟩, .string ⟨#[49]⟩, .bool true]) ∧ Below w.heap.size w w' := by
  go_enter Try.func153, Try.ntmps153
  go_wp2
  go_step3
  go_wp2
  go_step3
  go_wp2
  go_loopw [5] (fun k wr => (k = .int .i64 0 ∨ k = .int .i64 1) ∧ wr = w) (fun k _ => 2 - (intOf k).toNat)
  case atStart => exact ⟨.inl rfl, rfl⟩
  case round =>
    obtain ⟨rfl | rfl, rfl⟩ := hrel
    · go_wp2
      go_roundw
      case rel => first | exact ⟨.inr rfl, rfl⟩ | exact ⟨.inr rfl, trivial⟩
      case measure => simp [intOf]
    · go_wp2
      go_region
      all_goals go_wp2
      all_goals rw [Exit.noGoto_ret]
      all_goals go_ret3
      all_goals exact ⟨rfl, (Below.refl _ _).drew⟩
theorem part31_c : TT 153 [.one (.sc (.string ⟨#[51, 47, 49]⟩))] [.one (.sc (.string ⟨#[51]⟩)), .one (.sc (.string ⟨#[49]⟩)), .one (.sc (.bool true))] := by
  refine tt_of Try.func153 (by kernel_rfl) (by kernel_rfl) (by kernel_rfl) fun okx w vs hvs => ?_
  obtain ⟨v, rfl, hv⟩ := one_arg hvs
  obtain rfl := RD.sc_inv hv
  refine (part31_in w).mono ?_
  rintro e w' ⟨rfl, hb⟩
  exact ⟨_, rfl, hb, [_, _, _], ⟨.sc _ rfl, .sc _ rfl, .sc _ rfl, trivial⟩, rfl⟩
end Go.Proofs.Ytpmlocilhhjifaa.Eng
