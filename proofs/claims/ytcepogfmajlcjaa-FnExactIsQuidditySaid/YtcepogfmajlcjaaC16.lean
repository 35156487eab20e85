/-
  Contracts of functions that gather words in a variable that an inner function shares are proved: words of Fuss.
  They hold for all arguments.
-/
import Derived.Test.YtcepogfmajlcjaaC15
import Derived.Test.YtcepogfmajlcjaaAb22
set_option linter.unusedVariables false
set_option linter.unusedSimpArgs false
namespace Go.Proofs.Ytcepogfmajlcjaa
open Go.Proofs.Ytcepogfmajlcjaa.Ab Go.Proofs.Ytcepogfmajlcjaa.Pl

/-- the blocks of an inner function that gathers: itself, the shared variable, its row, a number -/
abbrev accL (F pm po b pq N : Nat) (m : Int) (out : List (List UInt8)) (R : List (Nat × Blk)) : List (Nat × Blk) :=
  (pm, row [.func F [.ptr po 0, .ptr pm 0, .ptr pq 0]]) :: (po, row [.slice b 0 N N]) :: (b, row (strs out)) :: (pq, row [.int .i64 m]) :: R


/-- the words of Fuss, and whether there are some -/
def fussP (m n : Int) : List (List UInt8) × Bool := if (1 ≤ m ∧ m ≤ 4) ∧ 0 ≤ n ∧ n ≤ 4 then (fussAll m.toNat 25 [] n.toNat 0, true) else ([], false)
theorem fussP_len (m n : Int) : (fussP m n).1.length ≤ 33554432 := by
  unfold fussP
  split
  · exact fussAll_len _ 25 _ _ _
  · simp





end Go.Proofs.Ytcepogfmajlcjaa
