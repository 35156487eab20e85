/-
  Contracts of diagrams that are closed or flipped, and of matchings that are turned, are proved.
  They hold for all rows of numbers.
-/
import Derived.Test.YtphakcdnlpilhaaC19
set_option linter.unusedVariables false
set_option linter.unusedSimpArgs false
namespace Go.Proofs.Ytphakcdnlpilhaa
open Go.Proofs.Ytphakcdnlpilhaa.Ab Go.Proofs.Ytphakcdnlpilhaa.Pl


theorem idD_len (n : Nat) : (idD n).length = 2 * n := by simp [idD]
theorem ga_idD {n i : Nat} (h : i < 2 * n) : (idD n).getD i 0 = ((2 * n - 1 - i : Nat) : Int) ∧ ga (idD n) i = 2 * n - 1 - i := by
  have e : (idD n).getD i 0 = ((2 * n - 1 - i : Nat) : Int) := by
    rw [idD, tab_getD _ h]
    omega
  exact ⟨e, by rw [ga, e]; rfl⟩
def traceL (l : List Int) : Int := if isD l = true then (loopsN (ga l) (ga (idD (l.length / 2))) l.length : Int) else -1




/-- a diagram upside down, so many points of it -/
def flipTo (l : List Int) : Nat → List Int
  | 0 => List.replicate l.length 0
  | i + 1 => (flipTo l i).set ((l.length : Int) - 1 - (i : Int)).toNat ((l.length : Int) - 1 - l.getD i 0)
theorem flipTo_len (l : List Int) : ∀ i, (flipTo l i).length = l.length := by
  intro i
  induction i with
  | zero => simp [flipTo]
  | succ i ih => simp [flipTo, ih]
def flipD (l : List Int) : List Int × Bool := if isD l = true then (flipTo l l.length, true) else ([], false)
theorem flipD_len (l : List Int) : (flipD l).1.length ≤ 16 := by
  unfold flipD
  split
  · rename_i h
    have := (isM_spec (isNC_spec (isD_spec h).2)).1
    rw [flipTo_len]
    exact this
  · simp





/-- a matching turned, so many points of it -/
def turnTo (l : List Int) (k : Int) : Nat → List Int
  | 0 => List.replicate l.length 0
  | i + 1 => (turnTo l k i).set (((i : Int) - k + l.length).tmod l.length).toNat ((l.getD i 0 - k + l.length).tmod l.length)
theorem turnTo_len (l : List Int) (k : Int) : ∀ i, (turnTo l k i).length = l.length := by
  intro i
  induction i with
  | zero => simp [turnTo]
  | succ i ih => simp [turnTo, ih]
def turnOk (l : List Int) (k : Int) : Prop := isM l = true ∧ 0 ≤ k ∧ k ≤ max 0 ((l.length : Int) - 1)
instance (l : List Int) (k : Int) : Decidable (turnOk l k) := by unfold turnOk; infer_instance
def turnM (l : List Int) (k : Int) : List Int × Bool := if turnOk l k then (turnTo l k l.length, true) else ([], false)
theorem turnM_len (l : List Int) (k : Int) : (turnM l k).1.length ≤ 16 := by
  unfold turnM
  split
  · rename_i h
    have := (isM_spec h.1).1
    rw [turnTo_len]
    exact this
  · simp
theorem tmod_in {a n : Int} (ha : 0 ≤ a) (hn : 0 < n) : 0 ≤ a.tmod n ∧ a.tmod n < n := ⟨Int.tmod_nonneg _ ha, Int.tmod_lt_of_pos _ hn⟩



/-- two rows and whether there are some -/
def Ret2 (x y : List Int) (t : Bool) (h0 : H) (v : AV) (h' : H) : Prop := ∃ b c, v = .tup [.slice b 0 x.length x.length, .slice c 0 y.length y.length, .bool t] ∧ St h0 h' [(c, row (ints y)), (b, row (ints x))]
def turn2 (l m : List Int) : List Int × List Int × Bool := if loopsOf l m < 1 then ([], [], false) else ((turnM l 1).1, (turnM m 1).1, true)
theorem turn2_len (l m : List Int) : (turn2 l m).1.length ≤ 16 ∧ (turn2 l m).2.1.length ≤ 16 := by
  unfold turn2
  split
  · simp
  · exact ⟨turnM_len l 1, turnM_len m 1⟩




end Go.Proofs.Ytphakcdnlpilhaa
