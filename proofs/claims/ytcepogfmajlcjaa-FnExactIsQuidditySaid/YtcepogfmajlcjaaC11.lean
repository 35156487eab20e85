/-
  Contracts of words of Schroeder whose level steps are lifted are proved.
  They hold for all words within the sizes that the statements' code allows.
-/
import Derived.Test.YtcepogfmajlcjaaC10
set_option linter.unusedVariables false
set_option linter.unusedSimpArgs false
namespace Go.Proofs.Ytcepogfmajlcjaa
open Go.Proofs.Ytcepogfmajlcjaa.Ab Go.Proofs.Ytcepogfmajlcjaa.Pl

theorem or64 (s k : Nat) (hs : s < 2 ^ k) (hk : k ≤ 60) : IntKind.i64.wrap ((BitVec.ofInt IntKind.i64.bits (s : Int) ||| BitVec.ofInt IntKind.i64.bits ((1 : Int) * 2 ^ min (k : Int).toNat IntKind.i64.bits)).toNat : Int) = (s : Int) + 2 ^ k := by
  have h1 : (2 : Nat) ^ k ≤ 2 ^ 60 := Nat.pow_le_pow_right (by decide) hk
  have e1 : (1 : Int) * 2 ^ min (k : Int).toNat IntKind.i64.bits = ((2 ^ k : Nat) : Int) := by
    rw [Int.toNat_natCast, show min k IntKind.i64.bits = k from Nat.min_eq_left (by show k ≤ 64; omega), Int.one_mul]
    simp
  have e2 := Nat.two_pow_add_eq_or_of_lt hs 1
  rw [Nat.mul_one] at e2
  have e3 : (BitVec.ofInt IntKind.i64.bits (s : Int) ||| BitVec.ofInt IntKind.i64.bits ((2 ^ k : Nat) : Int)).toNat = 2 ^ k + s := by
    rw [BitVec.toNat_or, BitVec.ofInt_natCast, BitVec.ofInt_natCast, BitVec.toNat_ofNat, BitVec.toNat_ofNat]
    rw [show (2 : Nat) ^ IntKind.i64.bits = 2 ^ 64 from rfl, Nat.mod_eq_of_lt (show s < 2 ^ 64 by omega), Nat.mod_eq_of_lt (show 2 ^ k < 2 ^ 64 by omega), Nat.or_comm, ← e2]
  rw [e1, e3]
  have e4 : ((2 : Int) ^ k) = ((2 ^ k : Nat) : Int) := by simp
  rw [e4]
  have : IntKind.i64.wrap (((2 ^ k + s : Nat)) : Int) = ((2 ^ k + s : Nat) : Int) := by
    apply IntWalk.i64_in
    omega
  rw [this]
  omega

/-- the word, the set and the number of peaks after so many letters -/
def liftTo (w : List UInt8) : Nat → List UInt8 × Nat × Nat
  | 0 => ([], 0, 0)
  | i + 1 => let r := liftTo w i
    if ((w.getD i 0).toNat : Int) = 108 then (r.1 ++ [117, 100], r.2.1 + 2 ^ r.2.2, r.2.2 + 1)
    else (r.1 ++ [w.getD i 0], r.2.1, if ((w.getD i 0).toNat : Int) = 100 ∧ 0 < i ∧ ((w.getD (i - 1) 0).toNat : Int) = 117 then r.2.2 + 1 else r.2.2)

theorem liftTo_bd (w : List UInt8) : ∀ i, (liftTo w i).2.1 < 2 ^ (liftTo w i).2.2 ∧ (liftTo w i).2.2 ≤ i ∧ (liftTo w i).1.length ≤ 2 * i := by
  intro i
  induction i with
  | zero => exact ⟨by simp [liftTo], by simp [liftTo], by simp [liftTo]⟩
  | succ i ih =>
    simp only [liftTo]
    split
    · refine ⟨?_, by dsimp only; omega, by simp; omega⟩
      dsimp only
      rw [Nat.pow_succ]
      omega
    · refine ⟨?_, by dsimp only; split <;> omega, by simp; omega⟩
      dsimp only
      split
      · rw [Nat.pow_succ]
        omega
      · exact ih.1

theorem cut_one (w : List UInt8) (i : Nat) (h : i < w.length) : (w.take ((i : Int) + 1).toNat).drop (i : Int).toNat = [w.getD i 0] := by
  rw [show ((i : Int) + 1).toNat = i + 1 by omega, Int.toNat_natCast, List.drop_take, show i + 1 - i = 1 by omega]
  have e : (w.drop i).take 1 = [w[i]] := by
    rw [List.drop_eq_getElem_cons h]
    rfl
  rw [e]
  simp [List.getD, h]

def lift (w : List UInt8) : List UInt8 × Int × Bool := if isSchroeder w = true then ((liftTo w w.length).1, ((liftTo w w.length).2.1 : Int), true) else ([], 0, false)

theorem isSchroeder_len {w : List UInt8} (h : isSchroeder w = true) : w.length ≤ 16 := by
  unfold isSchroeder at h
  simp only [Bool.and_eq_true, decide_eq_true_eq] at h
  omega




end Go.Proofs.Ytcepogfmajlcjaa
