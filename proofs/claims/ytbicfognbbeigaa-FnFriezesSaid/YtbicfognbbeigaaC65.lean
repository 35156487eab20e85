/-
  Contracts of the sizes of rows of rows are proved.
  They hold for all rows of rows.
-/
import Derived.Test.YtbicfognbbeigaaH12
set_option linter.unusedVariables false
set_option linter.unusedSimpArgs false
namespace Go.Proofs.Ytbicfognbbeigaa
open Go.Proofs.Ytbicfognbbeigaa.Ab Go.Proofs.Ytbicfognbbeigaa.Pl

/-- what is left after rows are taken off -/
def szL (ls : List (List Int)) (x : Int) : Int := if (totL ls + ls.length : Nat) ≤ x then x - (totL ls + ls.length : Nat) else -1
theorem totL_take {ls : List (List Int)} {i : Nat} (h : i < ls.length) : totL (ls.take (i + 1)) = totL (ls.take i) + (ls.getD i []).length := by
  rw [List.take_succ_eq_append_getElem h, totL_append]
  have e : ls.getD i [] = ls[i] := by simp [List.getD, h]
  rw [e]
  simp [totL]
theorem totL_part (ls : List (List Int)) (i : Nat) : totL (ls.take i) ≤ totL ls := by
  have := totL_append (ls.take i) (ls.drop i)
  rw [List.take_append_drop] at this
  omega
theorem totL_small {ls : List (List Int)} (h : totL ls + ls.length ≤ 1048576) : ∀ l ∈ ls, l.length ≤ 100000000 := fun l hl => by
  have := totL_mem hl
  omega



end Go.Proofs.Ytbicfognbbeigaa
