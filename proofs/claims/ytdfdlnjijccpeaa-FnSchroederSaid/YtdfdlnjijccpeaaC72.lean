/-
  Plain laws of Schroeder words are proved: peaks that are flattened are lifted again, and lists have as many words as the numbers.
  They hold for paths of at most thirteen letters and one of sixteen.
-/
import Derived.Test.YtdfdlnjijccpeaaC11
import Derived.Test.YtdfdlnjijccpeaaC13
import Derived.Test.YtdfdlnjijccpeaaC18
import Derived.Test.YtdfdlnjijccpeaaC66
import Derived.Test.YtdfdlnjijccpeaaC69
import Derived.Test.YtdfdlnjijccpeaaC71
set_option linter.unusedVariables false
set_option linter.unusedSimpArgs false
namespace Go.Proofs.Ytdfdlnjijccpeaa
open Go.Proofs.Ytdfdlnjijccpeaa.Ab Go.Proofs.Ytdfdlnjijccpeaa.Pl

def flOne (w : List UInt8) (set : Int) : Bool := !(flat w set).2 || decide (lift (flat w set).1 = (w, set, true) ∧ isSchroeder (flat w set).1 = true)
def flAll (w : List UInt8) : Bool := ((List.range 16).all fun s => flOne w (s : Int)) && flOne w 9223372036854775807
set_option maxRecDepth 100000 in
theorem flat_checked : allF flAll 2 13 0 [] = true := by decide +kernel
set_option maxRecDepth 100000 in
theorem flat_great : flAll greatW = true := by decide +kernel
set_option maxRecDepth 100000 in
theorem dyck_great : isDyck greatX = false := by decide +kernel
theorem flat_no {w : List UInt8} {set : Int} (h : ¬ flatOk w set) : flat w set = ([], false) := if_neg h
theorem flat_lift {w : List UInt8} {set : Int} (hw : PathLike w) (hs : (-1 ≤ set ∧ set ≤ 15) ∨ set = 9223372036854775807) (h : (flat w set).2 = true) : lift (flat w set).1 = (w, set, true) ∧ isSchroeder (flat w set).1 = true := by
  have ok : flatOk w set := by
    apply Classical.byContradiction
    intro c
    rw [flat_no c] at h
    cases h
  have dy := ok.1
  have key : flAll w = true := by
    unfold isDyck at dy
    rw [Bool.and_eq_true, decide_eq_true_iff, beq_iff_eq] at dy
    rcases hw with hw | rfl | rfl
    · exact allF_spec (m := 2) (by decide) 13 0 [] flat_checked w hw dy.2
    · exact flat_great
    · have := dyck_great
      rw [ok.1] at this
      cases this
  unfold flAll at key
  rw [Bool.and_eq_true] at key
  have one : flOne w set = true := by
    rcases hs with hs | rfl
    · have h0 := ok.2.1
      obtain ⟨k, rfl⟩ := Int.eq_ofNat_of_zero_le h0
      exact List.all_eq_true.1 key.1 k (List.mem_range.2 (by omega))
    · exact key.2
  unfold flOne at one
  rw [h] at one
  simpa using one

/-! numbers -/
def naraN (n k : Nat) : Int := if n = 0 then 1 else if k = 0 then 0 else (chooseI n k k * chooseI n (k - 1) (k - 1)).tdiv n
def sumN (n : Nat) : Nat → Int
  | 0 => 0
  | k + 1 => sumN n k + naraN n k * 2 ^ k
set_option maxRecDepth 100000 in
theorem schr_checked : (List.range 5).all (fun n => decide (((schrP (n : Int)).1.length : Int) = schN n ∧ sumN n (n + 1) = schN n ∧ schrP (n : Int) = ((schrP (n : Int)).1, true)) && (List.range 6).all (fun k => decide (-1000 ≤ sumN n k ∧ sumN n k ≤ 1000 ∧ -1000 ≤ naraN n k ∧ naraN n k ≤ 1000 ∧ -1000 ≤ naraN n k * 2 ^ k ∧ naraN n k * 2 ^ k ≤ 1000))) = true := by decide +kernel

end Go.Proofs.Ytdfdlnjijccpeaa
