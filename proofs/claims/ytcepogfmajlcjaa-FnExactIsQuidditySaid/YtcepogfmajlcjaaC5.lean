/-
  Contracts of functions that make rows of numbers are proved: heights, paths, diagrams of the identity and of hooks.
  They hold for all arguments within the sizes that the statements' code allows.
-/
import Derived.Test.YtcepogfmajlcjaaC4
import Derived.Test.YtcepogfmajlcjaaP3
import Derived.Test.YtcepogfmajlcjaaAb19
set_option linter.unusedVariables false
set_option linter.unusedSimpArgs false
namespace Go.Proofs.Ytcepogfmajlcjaa
open Go.Proofs.Ytcepogfmajlcjaa.Ab Go.Proofs.Ytcepogfmajlcjaa.Pl




/-- a word of a circle -/
def circle (w : List UInt8) (k : Int) : List UInt8 × Bool := if isDyck w then shiftW (w ++ [100]) k else ([], false)




end Go.Proofs.Ytcepogfmajlcjaa
