/-
  Contracts of the shifts that are paths are proved.
  They hold for all words within the sizes that the statements' code allows.
-/
import Derived.Test.YtdfdlnjijccpeaaC9
set_option linter.unusedVariables false
set_option linter.unusedSimpArgs false
namespace Go.Proofs.Ytdfdlnjijccpeaa
open Go.Proofs.Ytdfdlnjijccpeaa.Ab Go.Proofs.Ytdfdlnjijccpeaa.Pl

/-- a path and one more d -/
def goodW (s : List UInt8) : Bool := decide (0 < s.length) && (((s.getD (s.length - 1) 0).toNat : Int) == 100) && isDyck (s.take (s.length - 1))
def rot (w : List UInt8) (k : Nat) : List UInt8 := w.drop k ++ w.take k
theorem rot_len (w : List UInt8) (k : Nat) : (rot w k).length = w.length := by simp [rot]; omega
def goodShift (w : List UInt8) : Int × Bool := if isBal w then match (List.range w.length).find? fun j => goodW (rot w j) with
  | some k => (k, true)
  | none => (0, false) else (0, false)
def goodsTo (w : List UInt8) (k : Nat) : Nat := ((List.range k).filter fun j => goodW (rot w j)).length
def goods (w : List UInt8) : Int := if isBal w then goodsTo w w.length else -1
theorem goodsTo_le (w : List UInt8) (k : Nat) : goodsTo w k ≤ k := by
  have := List.length_filter_le (fun j => goodW (rot w j)) (List.range k)
  rwa [List.length_range] at this
theorem goodsTo_succ (w : List UInt8) (k : Nat) : goodsTo w (k + 1) = goodsTo w k + if goodW (rot w k) = true then 1 else 0 := by
  unfold goodsTo
  rw [List.range_succ, List.filter_append, List.length_append]
  by_cases h : goodW (rot w k) = true <;> simp [h]









end Go.Proofs.Ytdfdlnjijccpeaa
