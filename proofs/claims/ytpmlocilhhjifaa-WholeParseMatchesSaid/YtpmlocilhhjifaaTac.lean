/- The words of the walks over the abstract machine. -/
import Derived.Test.YtpmlocilhhjifaaNum
namespace Go.Proofs.Ytpmlocilhhjifaa.Eng
open Go.RowKit
theorem natCast_fold (n : Nat) : (NatCast.natCast n : Int) = Nat.cast n := rfl
-- the words om, st and wk of the templates are written out by inst.py
def isNo : BE → Bool
  | .no => true
  | _ => false
theorem ne_no {x : BE} (h : isNo x = false) : x ≠ .no := by rintro rfl; cases h
def vi (k : IntKind) (n : Int) : AT := .v (.one (.sc (.int k n)))
def vs (t : Nat) (xs : List (List D)) : AT := .v (.one (.sl t 1 xs))
end Go.Proofs.Ytpmlocilhhjifaa.Eng
