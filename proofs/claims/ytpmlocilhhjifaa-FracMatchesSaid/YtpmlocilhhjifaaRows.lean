/-
  No cell of these rows narrows 'for every input' (looked for: loops, veiled, ifaces, maps, wideKeys, modest, calm, conditions, laid).
  DERIVED. THE GIVEN ROWS OF THIS SEAT. 18 by the template 'for every input the law returns true; each argument reads behind the call as it read before'; 0 by the template 'total and deterministic' (their statements: YtpmlocilhhjifaaTotals.lean).
  GIVEN WITH THE SEED: the statements are not yours to turn. If you find one false, say at which input.
  Laid BY PROGRAM, IN A SANDBOX (cutbox-rows.mjs): the forced cells as the released guide's own fill.sh prints them over the translation 27925ce89813a5b3… (all of the seat's roots in one cut). By AI agents, Wed Nov 11 2026. No macro, syntax, notation, axiom, sorry.
-/
import Derived.Test.YtpmlocilhhjifaaChecked
import GoSem.Claim
import GoSem.ClaimJoined
import GoSem.ClaimMapViews
import Derived.JoinedTies
import Derived.KernelRfl
namespace Go.Proofs.Ytpmlocilhhjifaa
/- THE CELL 'sum', in the pinned program and in every row, IS THE sha256 OF THE DUMP (.gsa) THAT YtpmlocilhhjifaaProg.lean LOADS. Nothing in Lean hashes anything: it is a label: what it is worth is what the hold of that sum in a sandbox is worth. -/
noncomputable def Try.pinned : Pinned := { name := "ytpmlocilhhjifaa", sum := "27925ce89813a5b3f0fc1435c0e363b40175a18dd058148d2f9916d9de1e31c6", checked := Try.checked }
namespace Rows
def none {H : Type} : Left H := { results := [], args := [] }

/-- 'pylonlaw01.WholeDivMatches': WHATEVER THE INPUT: true; the input reads as it did. -/
def wholeDivMatchesSpec : ChangeSpec := { name := "wholeDivMatches", fn := fun _ => fun
  | [d1, d2] => { results := [.lit (.bool true)], args := [d1, d2] }
  | _ => none }
def wholeDivMatchesRow : OpenClaim := { program := "ytpmlocilhhjifaa", sum := "27925ce89813a5b3f0fc1435c0e363b40175a18dd058148d2f9916d9de1e31c6", func := "pylon/pylonlaw01.WholeDivMatches", spec := "wholeDivMatches", unfollowed := true, recurses := true, apart := false }
def WholeDivMatchesSaid : Prop := wholeDivMatchesRow.holds Try.pinned (OpenSpec.ofChange wholeDivMatchesSpec)

/-- ITS FALSE NEIGHBOUR: 'it returns false'. Refute it at one input. -/
def wholeDivMatchesWrong : ChangeSpec := { name := "wholeDivMatches", fn := fun _ => fun
  | [d1, d2] => { results := [.lit (.bool false)], args := [d1, d2] }
  | _ => none }
def WholeDivMatchesWrongFalsely : Prop := wholeDivMatchesRow.holds Try.pinned (OpenSpec.ofChange wholeDivMatchesWrong)

/-- 'pylonlaw01.WholeParseMatches': WHATEVER THE INPUT: true; the input reads as it did. -/
def wholeParseMatchesSpec : ChangeSpec := { name := "wholeParseMatches", fn := fun _ => fun
  | [d1, d2] => { results := [.lit (.bool true)], args := [d1, d2] }
  | _ => none }
def wholeParseMatchesRow : OpenClaim := { program := "ytpmlocilhhjifaa", sum := "27925ce89813a5b3f0fc1435c0e363b40175a18dd058148d2f9916d9de1e31c6", func := "pylon/pylonlaw01.WholeParseMatches", spec := "wholeParseMatches", unfollowed := true, recurses := true, apart := false }
def WholeParseMatchesSaid : Prop := wholeParseMatchesRow.holds Try.pinned (OpenSpec.ofChange wholeParseMatchesSpec)

/-- ITS FALSE NEIGHBOUR: 'it returns false'. Refute it at one input. -/
def wholeParseMatchesWrong : ChangeSpec := { name := "wholeParseMatches", fn := fun _ => fun
  | [d1, d2] => { results := [.lit (.bool false)], args := [d1, d2] }
  | _ => none }
def WholeParseMatchesWrongFalsely : Prop := wholeParseMatchesRow.holds Try.pinned (OpenSpec.ofChange wholeParseMatchesWrong)

/-- 'pylonlaw01.WholeExamples': WHATEVER THE INPUT: true; the input reads as it did. -/
def wholeExamplesSpec : ChangeSpec := { name := "wholeExamples", fn := fun _ => fun
  | [] => { results := [.lit (.bool true)], args := [] }
  | _ => none }
def wholeExamplesRow : OpenClaim := { program := "ytpmlocilhhjifaa", sum := "27925ce89813a5b3f0fc1435c0e363b40175a18dd058148d2f9916d9de1e31c6", func := "pylon/pylonlaw01.WholeExamples", spec := "wholeExamples", unfollowed := true, recurses := true, apart := false }
def WholeExamplesSaid : Prop := wholeExamplesRow.holds Try.pinned (OpenSpec.ofChange wholeExamplesSpec)

/-- ITS FALSE NEIGHBOUR: 'it returns false'. Refute it at one input. -/
def wholeExamplesWrong : ChangeSpec := { name := "wholeExamples", fn := fun _ => fun
  | [] => { results := [.lit (.bool false)], args := [] }
  | _ => none }
def WholeExamplesWrongFalsely : Prop := wholeExamplesRow.holds Try.pinned (OpenSpec.ofChange wholeExamplesWrong)

/-- 'pylonlaw01.WholeEuclid': WHATEVER THE INPUT: true; the input reads as it did. -/
def wholeEuclidSpec : ChangeSpec := { name := "wholeEuclid", fn := fun _ => fun
  | [d1, d2, d3] => { results := [.lit (.bool true)], args := [d1, d2, d3] }
  | _ => none }
def wholeEuclidRow : OpenClaim := { program := "ytpmlocilhhjifaa", sum := "27925ce89813a5b3f0fc1435c0e363b40175a18dd058148d2f9916d9de1e31c6", func := "pylon/pylonlaw01.WholeEuclid", spec := "wholeEuclid", unfollowed := true, recurses := true, apart := false }
def WholeEuclidSaid : Prop := wholeEuclidRow.holds Try.pinned (OpenSpec.ofChange wholeEuclidSpec)

/-- ITS FALSE NEIGHBOUR: 'it returns false'. Refute it at one input. -/
def wholeEuclidWrong : ChangeSpec := { name := "wholeEuclid", fn := fun _ => fun
  | [d1, d2, d3] => { results := [.lit (.bool false)], args := [d1, d2, d3] }
  | _ => none }
def WholeEuclidWrongFalsely : Prop := wholeEuclidRow.holds Try.pinned (OpenSpec.ofChange wholeEuclidWrong)

/-- 'pylonlaw01.WholeRing': WHATEVER THE INPUT: true; the input reads as it did. -/
def wholeRingSpec : ChangeSpec := { name := "wholeRing", fn := fun _ => fun
  | [d1, d2, d3] => { results := [.lit (.bool true)], args := [d1, d2, d3] }
  | _ => none }
def wholeRingRow : OpenClaim := { program := "ytpmlocilhhjifaa", sum := "27925ce89813a5b3f0fc1435c0e363b40175a18dd058148d2f9916d9de1e31c6", func := "pylon/pylonlaw01.WholeRing", spec := "wholeRing", unfollowed := true, recurses := true, apart := false }
def WholeRingSaid : Prop := wholeRingRow.holds Try.pinned (OpenSpec.ofChange wholeRingSpec)

/-- ITS FALSE NEIGHBOUR: 'it returns false'. Refute it at one input. -/
def wholeRingWrong : ChangeSpec := { name := "wholeRing", fn := fun _ => fun
  | [d1, d2, d3] => { results := [.lit (.bool false)], args := [d1, d2, d3] }
  | _ => none }
def WholeRingWrongFalsely : Prop := wholeRingRow.holds Try.pinned (OpenSpec.ofChange wholeRingWrong)

/-- 'pylonlaw01.WholeMatches': WHATEVER THE INPUT: true; the input reads as it did. -/
def wholeMatchesSpec : ChangeSpec := { name := "wholeMatches", fn := fun _ => fun
  | [d1, d2, d3] => { results := [.lit (.bool true)], args := [d1, d2, d3] }
  | _ => none }
def wholeMatchesRow : OpenClaim := { program := "ytpmlocilhhjifaa", sum := "27925ce89813a5b3f0fc1435c0e363b40175a18dd058148d2f9916d9de1e31c6", func := "pylon/pylonlaw01.WholeMatches", spec := "wholeMatches", unfollowed := true, recurses := true, apart := false }
def WholeMatchesSaid : Prop := wholeMatchesRow.holds Try.pinned (OpenSpec.ofChange wholeMatchesSpec)

/-- ITS FALSE NEIGHBOUR: 'it returns false'. Refute it at one input. -/
def wholeMatchesWrong : ChangeSpec := { name := "wholeMatches", fn := fun _ => fun
  | [d1, d2, d3] => { results := [.lit (.bool false)], args := [d1, d2, d3] }
  | _ => none }
def WholeMatchesWrongFalsely : Prop := wholeMatchesRow.holds Try.pinned (OpenSpec.ofChange wholeMatchesWrong)

/-- 'pylonlaw02.FracExamples': WHATEVER THE INPUT: true; the input reads as it did. -/
def fracExamplesSpec : ChangeSpec := { name := "fracExamples", fn := fun _ => fun
  | [] => { results := [.lit (.bool true)], args := [] }
  | _ => none }
def fracExamplesRow : OpenClaim := { program := "ytpmlocilhhjifaa", sum := "27925ce89813a5b3f0fc1435c0e363b40175a18dd058148d2f9916d9de1e31c6", func := "pylon/pylonlaw02.FracExamples", spec := "fracExamples", unfollowed := true, recurses := true, apart := false }
def FracExamplesSaid : Prop := fracExamplesRow.holds Try.pinned (OpenSpec.ofChange fracExamplesSpec)

/-- ITS FALSE NEIGHBOUR: 'it returns false'. Refute it at one input. -/
def fracExamplesWrong : ChangeSpec := { name := "fracExamples", fn := fun _ => fun
  | [] => { results := [.lit (.bool false)], args := [] }
  | _ => none }
def FracExamplesWrongFalsely : Prop := fracExamplesRow.holds Try.pinned (OpenSpec.ofChange fracExamplesWrong)

/-- 'pylonlaw02.FracFormMatches': WHATEVER THE INPUT: true; the input reads as it did. -/
def fracFormMatchesSpec : ChangeSpec := { name := "fracFormMatches", fn := fun _ => fun
  | [d1, d2, d3, d4] => { results := [.lit (.bool true)], args := [d1, d2, d3, d4] }
  | _ => none }
def fracFormMatchesRow : OpenClaim := { program := "ytpmlocilhhjifaa", sum := "27925ce89813a5b3f0fc1435c0e363b40175a18dd058148d2f9916d9de1e31c6", func := "pylon/pylonlaw02.FracFormMatches", spec := "fracFormMatches", unfollowed := true, recurses := true, apart := false }
def FracFormMatchesSaid : Prop := fracFormMatchesRow.holds Try.pinned (OpenSpec.ofChange fracFormMatchesSpec)

/-- ITS FALSE NEIGHBOUR: 'it returns false'. Refute it at one input. -/
def fracFormMatchesWrong : ChangeSpec := { name := "fracFormMatches", fn := fun _ => fun
  | [d1, d2, d3, d4] => { results := [.lit (.bool false)], args := [d1, d2, d3, d4] }
  | _ => none }
def FracFormMatchesWrongFalsely : Prop := fracFormMatchesRow.holds Try.pinned (OpenSpec.ofChange fracFormMatchesWrong)

/-- 'pylonlaw39.BookRounds': WHATEVER THE INPUT: true; the input reads as it did. -/
def bookRoundsSpec : ChangeSpec := { name := "bookRounds", fn := fun _ => fun
  | [d] => { results := [.lit (.bool true)], args := [d] }
  | _ => none }
def bookRoundsRow : OpenClaim := { program := "ytpmlocilhhjifaa", sum := "27925ce89813a5b3f0fc1435c0e363b40175a18dd058148d2f9916d9de1e31c6", func := "pylon/pylonlaw39.BookRounds", spec := "bookRounds", unfollowed := true, recurses := true, apart := false }
def BookRoundsSaid : Prop := bookRoundsRow.holds Try.pinned (OpenSpec.ofChange bookRoundsSpec)

/-- ITS FALSE NEIGHBOUR: 'it returns false'. Refute it at one input. -/
def bookRoundsWrong : ChangeSpec := { name := "bookRounds", fn := fun _ => fun
  | [d] => { results := [.lit (.bool false)], args := [d] }
  | _ => none }
def BookRoundsWrongFalsely : Prop := bookRoundsRow.holds Try.pinned (OpenSpec.ofChange bookRoundsWrong)

/-- 'pylonlaw39.BookZeroSum': WHATEVER THE INPUT: true; the input reads as it did. -/
def bookZeroSumSpec : ChangeSpec := { name := "bookZeroSum", fn := fun _ => fun
  | [d1, d2] => { results := [.lit (.bool true)], args := [d1, d2] }
  | _ => none }
def bookZeroSumRow : OpenClaim := { program := "ytpmlocilhhjifaa", sum := "27925ce89813a5b3f0fc1435c0e363b40175a18dd058148d2f9916d9de1e31c6", func := "pylon/pylonlaw39.BookZeroSum", spec := "bookZeroSum", unfollowed := true, recurses := true, apart := false }
def BookZeroSumSaid : Prop := bookZeroSumRow.holds Try.pinned (OpenSpec.ofChange bookZeroSumSpec)

/-- ITS FALSE NEIGHBOUR: 'it returns false'. Refute it at one input. -/
def bookZeroSumWrong : ChangeSpec := { name := "bookZeroSum", fn := fun _ => fun
  | [d1, d2] => { results := [.lit (.bool false)], args := [d1, d2] }
  | _ => none }
def BookZeroSumWrongFalsely : Prop := bookZeroSumRow.holds Try.pinned (OpenSpec.ofChange bookZeroSumWrong)

/-- 'pylonlaw39.BookConcatenates': WHATEVER THE INPUT: true; the input reads as it did. -/
def bookConcatenatesSpec : ChangeSpec := { name := "bookConcatenates", fn := fun _ => fun
  | [d1, d2, d3] => { results := [.lit (.bool true)], args := [d1, d2, d3] }
  | _ => none }
def bookConcatenatesRow : OpenClaim := { program := "ytpmlocilhhjifaa", sum := "27925ce89813a5b3f0fc1435c0e363b40175a18dd058148d2f9916d9de1e31c6", func := "pylon/pylonlaw39.BookConcatenates", spec := "bookConcatenates", unfollowed := true, recurses := true, apart := false }
def BookConcatenatesSaid : Prop := bookConcatenatesRow.holds Try.pinned (OpenSpec.ofChange bookConcatenatesSpec)

/-- ITS FALSE NEIGHBOUR: 'it returns false'. Refute it at one input. -/
def bookConcatenatesWrong : ChangeSpec := { name := "bookConcatenates", fn := fun _ => fun
  | [d1, d2, d3] => { results := [.lit (.bool false)], args := [d1, d2, d3] }
  | _ => none }
def BookConcatenatesWrongFalsely : Prop := bookConcatenatesRow.holds Try.pinned (OpenSpec.ofChange bookConcatenatesWrong)

/-- 'pylonlaw39.BookMatches': WHATEVER THE INPUT: true; the input reads as it did. -/
def bookMatchesSpec : ChangeSpec := { name := "bookMatches", fn := fun _ => fun
  | [d1, d2, d3] => { results := [.lit (.bool true)], args := [d1, d2, d3] }
  | _ => none }
def bookMatchesRow : OpenClaim := { program := "ytpmlocilhhjifaa", sum := "27925ce89813a5b3f0fc1435c0e363b40175a18dd058148d2f9916d9de1e31c6", func := "pylon/pylonlaw39.BookMatches", spec := "bookMatches", unfollowed := true, recurses := true, apart := false }
def BookMatchesSaid : Prop := bookMatchesRow.holds Try.pinned (OpenSpec.ofChange bookMatchesSpec)

/-- ITS FALSE NEIGHBOUR: 'it returns false'. Refute it at one input. -/
def bookMatchesWrong : ChangeSpec := { name := "bookMatches", fn := fun _ => fun
  | [d1, d2, d3] => { results := [.lit (.bool false)], args := [d1, d2, d3] }
  | _ => none }
def BookMatchesWrongFalsely : Prop := bookMatchesRow.holds Try.pinned (OpenSpec.ofChange bookMatchesWrong)

/-- 'pylonlaw39.BookIndependent': WHATEVER THE INPUT: true; the input reads as it did. -/
def bookIndependentSpec : ChangeSpec := { name := "bookIndependent", fn := fun _ => fun
  | [d1, d2, d3] => { results := [.lit (.bool true)], args := [d1, d2, d3] }
  | _ => none }
def bookIndependentRow : OpenClaim := { program := "ytpmlocilhhjifaa", sum := "27925ce89813a5b3f0fc1435c0e363b40175a18dd058148d2f9916d9de1e31c6", func := "pylon/pylonlaw39.BookIndependent", spec := "bookIndependent", unfollowed := true, recurses := true, apart := false }
def BookIndependentSaid : Prop := bookIndependentRow.holds Try.pinned (OpenSpec.ofChange bookIndependentSpec)

/-- ITS FALSE NEIGHBOUR: 'it returns false'. Refute it at one input. -/
def bookIndependentWrong : ChangeSpec := { name := "bookIndependent", fn := fun _ => fun
  | [d1, d2, d3] => { results := [.lit (.bool false)], args := [d1, d2, d3] }
  | _ => none }
def BookIndependentWrongFalsely : Prop := bookIndependentRow.holds Try.pinned (OpenSpec.ofChange bookIndependentWrong)

/-- 'pylonlaw39.BookRounding': WHATEVER THE INPUT: true; the input reads as it did. -/
def bookRoundingSpec : ChangeSpec := { name := "bookRounding", fn := fun _ => fun
  | [d1, d2, d3] => { results := [.lit (.bool true)], args := [d1, d2, d3] }
  | _ => none }
def bookRoundingRow : OpenClaim := { program := "ytpmlocilhhjifaa", sum := "27925ce89813a5b3f0fc1435c0e363b40175a18dd058148d2f9916d9de1e31c6", func := "pylon/pylonlaw39.BookRounding", spec := "bookRounding", unfollowed := true, recurses := true, apart := false }
def BookRoundingSaid : Prop := bookRoundingRow.holds Try.pinned (OpenSpec.ofChange bookRoundingSpec)

/-- ITS FALSE NEIGHBOUR: 'it returns false'. Refute it at one input. -/
def bookRoundingWrong : ChangeSpec := { name := "bookRounding", fn := fun _ => fun
  | [d1, d2, d3] => { results := [.lit (.bool false)], args := [d1, d2, d3] }
  | _ => none }
def BookRoundingWrongFalsely : Prop := bookRoundingRow.holds Try.pinned (OpenSpec.ofChange bookRoundingWrong)

/-- 'pylonlaw02.FracField': WHATEVER THE INPUT: true; the input reads as it did. -/
def fracFieldSpec : ChangeSpec := { name := "fracField", fn := fun _ => fun
  | [d1, d2, d3] => { results := [.lit (.bool true)], args := [d1, d2, d3] }
  | _ => none }
def fracFieldRow : OpenClaim := { program := "ytpmlocilhhjifaa", sum := "27925ce89813a5b3f0fc1435c0e363b40175a18dd058148d2f9916d9de1e31c6", func := "pylon/pylonlaw02.FracField", spec := "fracField", unfollowed := true, recurses := true, apart := false }
def FracFieldSaid : Prop := fracFieldRow.holds Try.pinned (OpenSpec.ofChange fracFieldSpec)

/-- ITS FALSE NEIGHBOUR: 'it returns false'. Refute it at one input. -/
def fracFieldWrong : ChangeSpec := { name := "fracField", fn := fun _ => fun
  | [d1, d2, d3] => { results := [.lit (.bool false)], args := [d1, d2, d3] }
  | _ => none }
def FracFieldWrongFalsely : Prop := fracFieldRow.holds Try.pinned (OpenSpec.ofChange fracFieldWrong)

/-- 'pylonlaw39.BookExamples': WHATEVER THE INPUT: true; the input reads as it did. -/
def bookExamplesSpec : ChangeSpec := { name := "bookExamples", fn := fun _ => fun
  | [] => { results := [.lit (.bool true)], args := [] }
  | _ => none }
def bookExamplesRow : OpenClaim := { program := "ytpmlocilhhjifaa", sum := "27925ce89813a5b3f0fc1435c0e363b40175a18dd058148d2f9916d9de1e31c6", func := "pylon/pylonlaw39.BookExamples", spec := "bookExamples", unfollowed := true, recurses := true, apart := false }
def BookExamplesSaid : Prop := bookExamplesRow.holds Try.pinned (OpenSpec.ofChange bookExamplesSpec)

/-- ITS FALSE NEIGHBOUR: 'it returns false'. Refute it at one input. -/
def bookExamplesWrong : ChangeSpec := { name := "bookExamples", fn := fun _ => fun
  | [] => { results := [.lit (.bool false)], args := [] }
  | _ => none }
def BookExamplesWrongFalsely : Prop := bookExamplesRow.holds Try.pinned (OpenSpec.ofChange bookExamplesWrong)

/-- 'pylonlaw02.FracOrder': WHATEVER THE INPUT: true; the input reads as it did. -/
def fracOrderSpec : ChangeSpec := { name := "fracOrder", fn := fun _ => fun
  | [d1, d2, d3] => { results := [.lit (.bool true)], args := [d1, d2, d3] }
  | _ => none }
def fracOrderRow : OpenClaim := { program := "ytpmlocilhhjifaa", sum := "27925ce89813a5b3f0fc1435c0e363b40175a18dd058148d2f9916d9de1e31c6", func := "pylon/pylonlaw02.FracOrder", spec := "fracOrder", unfollowed := true, recurses := true, apart := false }
def FracOrderSaid : Prop := fracOrderRow.holds Try.pinned (OpenSpec.ofChange fracOrderSpec)

/-- ITS FALSE NEIGHBOUR: 'it returns false'. Refute it at one input. -/
def fracOrderWrong : ChangeSpec := { name := "fracOrder", fn := fun _ => fun
  | [d1, d2, d3] => { results := [.lit (.bool false)], args := [d1, d2, d3] }
  | _ => none }
def FracOrderWrongFalsely : Prop := fracOrderRow.holds Try.pinned (OpenSpec.ofChange fracOrderWrong)

/-- 'pylonlaw02.FracMatches': WHATEVER THE INPUT: true; the input reads as it did. -/
def fracMatchesSpec : ChangeSpec := { name := "fracMatches", fn := fun _ => fun
  | [d1, d2] => { results := [.lit (.bool true)], args := [d1, d2] }
  | _ => none }
def fracMatchesRow : OpenClaim := { program := "ytpmlocilhhjifaa", sum := "27925ce89813a5b3f0fc1435c0e363b40175a18dd058148d2f9916d9de1e31c6", func := "pylon/pylonlaw02.FracMatches", spec := "fracMatches", unfollowed := true, recurses := true, apart := false }
def FracMatchesSaid : Prop := fracMatchesRow.holds Try.pinned (OpenSpec.ofChange fracMatchesSpec)

/-- ITS FALSE NEIGHBOUR: 'it returns false'. Refute it at one input. -/
def fracMatchesWrong : ChangeSpec := { name := "fracMatches", fn := fun _ => fun
  | [d1, d2] => { results := [.lit (.bool false)], args := [d1, d2] }
  | _ => none }
def FracMatchesWrongFalsely : Prop := fracMatchesRow.holds Try.pinned (OpenSpec.ofChange fracMatchesWrong)

/- THE SECOND FORM. 'bulk': how many values and letters a reading holds, each counted each time it is reached (what is shared counts as often as it is met; a slice's spare places count too). A statement '..UptoSaid' is the law's where the arguments, and the package variables that the reading takes, are together of bulk at most 1048576: NARROWER than '..Said'. Prove '..Said' where nothing that the law and all that it calls make is longer than what came in: it says more and counts as full. Else prove '..UptoSaid'. A law counts once. -/
mutual
def uptoBulk {H : Type} : DataW H → Nat
  | .lit (.string bytes) => bytes.length + 1
  | .lit _ => 1
  | .nil => 1
  | .ptr d => uptoBulk d + 1
  | .slice elems spare => uptoBulkAll elems + uptoBulkAll spare + 1
  | .agg parts => uptoBulkAll parts + 1
  | .iface _ d => uptoBulk d + 1
  | .map entries => uptoBulkEntries entries + 1
  | .held _ => 1
def uptoBulkAll {H : Type} : List (DataW H) → Nat
  | [] => 0
  | d :: r => uptoBulk d + uptoBulkAll r
def uptoBulkEntries {H : Type} : List (Lit × DataW H) → Nat
  | [] => 0
  | x :: r => uptoBulkEntry x + uptoBulkEntries r
def uptoBulkEntry {H : Type} : Lit × DataW H → Nat
  | (.string bytes, d) => bytes.length + uptoBulk d + 1
  | (_, d) => uptoBulk d + 1
 end
def uptoSmall : (H : Type) → List (DataW H) → Bool := fun _ ds => decide (uptoBulkAll ds ≤ 1048576)
def OpenSpec.upto (s : _root_.Go.ChangeSpec) : _root_.Go.OpenSpec := { _root_.Go.OpenSpec.ofChange s with cond := some uptoSmall }

/-- 'pylonlaw01.WholeDivMatches', WHERE WHAT IT READS IS OF BULK AT MOST 1048576: true; the input reads as it did. -/
def wholeDivMatchesUptoRow : OpenClaim := { program := "ytpmlocilhhjifaa", sum := "27925ce89813a5b3f0fc1435c0e363b40175a18dd058148d2f9916d9de1e31c6", func := "pylon/pylonlaw01.WholeDivMatches", spec := "wholeDivMatches", unfollowed := true, recurses := true, apart := false, narrowed := true }
def WholeDivMatchesUptoSaid : Prop := wholeDivMatchesUptoRow.holds Try.pinned (OpenSpec.upto wholeDivMatchesSpec)

/-- 'pylonlaw01.WholeParseMatches', WHERE WHAT IT READS IS OF BULK AT MOST 1048576: true; the input reads as it did. -/
def wholeParseMatchesUptoRow : OpenClaim := { program := "ytpmlocilhhjifaa", sum := "27925ce89813a5b3f0fc1435c0e363b40175a18dd058148d2f9916d9de1e31c6", func := "pylon/pylonlaw01.WholeParseMatches", spec := "wholeParseMatches", unfollowed := true, recurses := true, apart := false, narrowed := true }
def WholeParseMatchesUptoSaid : Prop := wholeParseMatchesUptoRow.holds Try.pinned (OpenSpec.upto wholeParseMatchesSpec)

/-- 'pylonlaw01.WholeExamples', WHERE WHAT IT READS IS OF BULK AT MOST 1048576: true; the input reads as it did. -/
def wholeExamplesUptoRow : OpenClaim := { program := "ytpmlocilhhjifaa", sum := "27925ce89813a5b3f0fc1435c0e363b40175a18dd058148d2f9916d9de1e31c6", func := "pylon/pylonlaw01.WholeExamples", spec := "wholeExamples", unfollowed := true, recurses := true, apart := false, narrowed := true }
def WholeExamplesUptoSaid : Prop := wholeExamplesUptoRow.holds Try.pinned (OpenSpec.upto wholeExamplesSpec)

/-- 'pylonlaw01.WholeEuclid', WHERE WHAT IT READS IS OF BULK AT MOST 1048576: true; the input reads as it did. -/
def wholeEuclidUptoRow : OpenClaim := { program := "ytpmlocilhhjifaa", sum := "27925ce89813a5b3f0fc1435c0e363b40175a18dd058148d2f9916d9de1e31c6", func := "pylon/pylonlaw01.WholeEuclid", spec := "wholeEuclid", unfollowed := true, recurses := true, apart := false, narrowed := true }
def WholeEuclidUptoSaid : Prop := wholeEuclidUptoRow.holds Try.pinned (OpenSpec.upto wholeEuclidSpec)

/-- 'pylonlaw01.WholeRing', WHERE WHAT IT READS IS OF BULK AT MOST 1048576: true; the input reads as it did. -/
def wholeRingUptoRow : OpenClaim := { program := "ytpmlocilhhjifaa", sum := "27925ce89813a5b3f0fc1435c0e363b40175a18dd058148d2f9916d9de1e31c6", func := "pylon/pylonlaw01.WholeRing", spec := "wholeRing", unfollowed := true, recurses := true, apart := false, narrowed := true }
def WholeRingUptoSaid : Prop := wholeRingUptoRow.holds Try.pinned (OpenSpec.upto wholeRingSpec)

/-- 'pylonlaw01.WholeMatches', WHERE WHAT IT READS IS OF BULK AT MOST 1048576: true; the input reads as it did. -/
def wholeMatchesUptoRow : OpenClaim := { program := "ytpmlocilhhjifaa", sum := "27925ce89813a5b3f0fc1435c0e363b40175a18dd058148d2f9916d9de1e31c6", func := "pylon/pylonlaw01.WholeMatches", spec := "wholeMatches", unfollowed := true, recurses := true, apart := false, narrowed := true }
def WholeMatchesUptoSaid : Prop := wholeMatchesUptoRow.holds Try.pinned (OpenSpec.upto wholeMatchesSpec)

/-- 'pylonlaw02.FracExamples', WHERE WHAT IT READS IS OF BULK AT MOST 1048576: true; the input reads as it did. -/
def fracExamplesUptoRow : OpenClaim := { program := "ytpmlocilhhjifaa", sum := "27925ce89813a5b3f0fc1435c0e363b40175a18dd058148d2f9916d9de1e31c6", func := "pylon/pylonlaw02.FracExamples", spec := "fracExamples", unfollowed := true, recurses := true, apart := false, narrowed := true }
def FracExamplesUptoSaid : Prop := fracExamplesUptoRow.holds Try.pinned (OpenSpec.upto fracExamplesSpec)

/-- 'pylonlaw02.FracFormMatches', WHERE WHAT IT READS IS OF BULK AT MOST 1048576: true; the input reads as it did. -/
def fracFormMatchesUptoRow : OpenClaim := { program := "ytpmlocilhhjifaa", sum := "27925ce89813a5b3f0fc1435c0e363b40175a18dd058148d2f9916d9de1e31c6", func := "pylon/pylonlaw02.FracFormMatches", spec := "fracFormMatches", unfollowed := true, recurses := true, apart := false, narrowed := true }
def FracFormMatchesUptoSaid : Prop := fracFormMatchesUptoRow.holds Try.pinned (OpenSpec.upto fracFormMatchesSpec)

/-- 'pylonlaw39.BookRounds', WHERE WHAT IT READS IS OF BULK AT MOST 1048576: true; the input reads as it did. -/
def bookRoundsUptoRow : OpenClaim := { program := "ytpmlocilhhjifaa", sum := "27925ce89813a5b3f0fc1435c0e363b40175a18dd058148d2f9916d9de1e31c6", func := "pylon/pylonlaw39.BookRounds", spec := "bookRounds", unfollowed := true, recurses := true, apart := false, narrowed := true }
def BookRoundsUptoSaid : Prop := bookRoundsUptoRow.holds Try.pinned (OpenSpec.upto bookRoundsSpec)

/-- 'pylonlaw39.BookZeroSum', WHERE WHAT IT READS IS OF BULK AT MOST 1048576: true; the input reads as it did. -/
def bookZeroSumUptoRow : OpenClaim := { program := "ytpmlocilhhjifaa", sum := "27925ce89813a5b3f0fc1435c0e363b40175a18dd058148d2f9916d9de1e31c6", func := "pylon/pylonlaw39.BookZeroSum", spec := "bookZeroSum", unfollowed := true, recurses := true, apart := false, narrowed := true }
def BookZeroSumUptoSaid : Prop := bookZeroSumUptoRow.holds Try.pinned (OpenSpec.upto bookZeroSumSpec)

/-- 'pylonlaw39.BookConcatenates', WHERE WHAT IT READS IS OF BULK AT MOST 1048576: true; the input reads as it did. -/
def bookConcatenatesUptoRow : OpenClaim := { program := "ytpmlocilhhjifaa", sum := "27925ce89813a5b3f0fc1435c0e363b40175a18dd058148d2f9916d9de1e31c6", func := "pylon/pylonlaw39.BookConcatenates", spec := "bookConcatenates", unfollowed := true, recurses := true, apart := false, narrowed := true }
def BookConcatenatesUptoSaid : Prop := bookConcatenatesUptoRow.holds Try.pinned (OpenSpec.upto bookConcatenatesSpec)

/-- 'pylonlaw39.BookMatches', WHERE WHAT IT READS IS OF BULK AT MOST 1048576: true; the input reads as it did. -/
def bookMatchesUptoRow : OpenClaim := { program := "ytpmlocilhhjifaa", sum := "27925ce89813a5b3f0fc1435c0e363b40175a18dd058148d2f9916d9de1e31c6", func := "pylon/pylonlaw39.BookMatches", spec := "bookMatches", unfollowed := true, recurses := true, apart := false, narrowed := true }
def BookMatchesUptoSaid : Prop := bookMatchesUptoRow.holds Try.pinned (OpenSpec.upto bookMatchesSpec)

/-- 'pylonlaw39.BookIndependent', WHERE WHAT IT READS IS OF BULK AT MOST 1048576: true; the input reads as it did. -/
def bookIndependentUptoRow : OpenClaim := { program := "ytpmlocilhhjifaa", sum := "27925ce89813a5b3f0fc1435c0e363b40175a18dd058148d2f9916d9de1e31c6", func := "pylon/pylonlaw39.BookIndependent", spec := "bookIndependent", unfollowed := true, recurses := true, apart := false, narrowed := true }
def BookIndependentUptoSaid : Prop := bookIndependentUptoRow.holds Try.pinned (OpenSpec.upto bookIndependentSpec)

/-- 'pylonlaw39.BookRounding', WHERE WHAT IT READS IS OF BULK AT MOST 1048576: true; the input reads as it did. -/
def bookRoundingUptoRow : OpenClaim := { program := "ytpmlocilhhjifaa", sum := "27925ce89813a5b3f0fc1435c0e363b40175a18dd058148d2f9916d9de1e31c6", func := "pylon/pylonlaw39.BookRounding", spec := "bookRounding", unfollowed := true, recurses := true, apart := false, narrowed := true }
def BookRoundingUptoSaid : Prop := bookRoundingUptoRow.holds Try.pinned (OpenSpec.upto bookRoundingSpec)

/-- 'pylonlaw02.FracField', WHERE WHAT IT READS IS OF BULK AT MOST 1048576: true; the input reads as it did. -/
def fracFieldUptoRow : OpenClaim := { program := "ytpmlocilhhjifaa", sum := "27925ce89813a5b3f0fc1435c0e363b40175a18dd058148d2f9916d9de1e31c6", func := "pylon/pylonlaw02.FracField", spec := "fracField", unfollowed := true, recurses := true, apart := false, narrowed := true }
def FracFieldUptoSaid : Prop := fracFieldUptoRow.holds Try.pinned (OpenSpec.upto fracFieldSpec)

/-- 'pylonlaw39.BookExamples', WHERE WHAT IT READS IS OF BULK AT MOST 1048576: true; the input reads as it did. -/
def bookExamplesUptoRow : OpenClaim := { program := "ytpmlocilhhjifaa", sum := "27925ce89813a5b3f0fc1435c0e363b40175a18dd058148d2f9916d9de1e31c6", func := "pylon/pylonlaw39.BookExamples", spec := "bookExamples", unfollowed := true, recurses := true, apart := false, narrowed := true }
def BookExamplesUptoSaid : Prop := bookExamplesUptoRow.holds Try.pinned (OpenSpec.upto bookExamplesSpec)

/-- 'pylonlaw02.FracOrder', WHERE WHAT IT READS IS OF BULK AT MOST 1048576: true; the input reads as it did. -/
def fracOrderUptoRow : OpenClaim := { program := "ytpmlocilhhjifaa", sum := "27925ce89813a5b3f0fc1435c0e363b40175a18dd058148d2f9916d9de1e31c6", func := "pylon/pylonlaw02.FracOrder", spec := "fracOrder", unfollowed := true, recurses := true, apart := false, narrowed := true }
def FracOrderUptoSaid : Prop := fracOrderUptoRow.holds Try.pinned (OpenSpec.upto fracOrderSpec)

/-- 'pylonlaw02.FracMatches', WHERE WHAT IT READS IS OF BULK AT MOST 1048576: true; the input reads as it did. -/
def fracMatchesUptoRow : OpenClaim := { program := "ytpmlocilhhjifaa", sum := "27925ce89813a5b3f0fc1435c0e363b40175a18dd058148d2f9916d9de1e31c6", func := "pylon/pylonlaw02.FracMatches", spec := "fracMatches", unfollowed := true, recurses := true, apart := false, narrowed := true }
def FracMatchesUptoSaid : Prop := fracMatchesUptoRow.holds Try.pinned (OpenSpec.upto fracMatchesSpec)

end Rows
end Go.Proofs.Ytpmlocilhhjifaa
