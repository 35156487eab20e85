/-
  Plain laws of small numbers are proved: binomials by two ways.
  They hold for the numbers that are tried, all of them.
-/
import Derived.Test.YtdfdlnjijccpeaaP1
set_option linter.unusedVariables false
set_option linter.unusedSimpArgs false
namespace Go.Proofs.Ytdfdlnjijccpeaa.Pl

/-- the program's binomial: factors from below -/
def chooseI (n k : Int) : Nat → Int
  | 0 => 1
  | i + 1 => (chooseI n k i * (n - k + (i + 1))).tdiv (i + 1)
/-- the reference's binomial: factors from above -/
def binI (n : Int) : Nat → Int
  | 0 => 1
  | i + 1 => (binI n i * (n - i)).tdiv (i + 1)

/-- both are small, and the same -/
def binFine (n k : Nat) : Bool := (List.range (k + 1)).all fun i => decide (0 ≤ chooseI n k i ∧ chooseI n k i ≤ 1000000000 ∧ 0 ≤ binI n i ∧ binI n i ≤ 1000000000)
theorem binFine_c {n k : Nat} (h : binFine n k = true) : ∀ i : Nat, i ≤ k → 0 ≤ chooseI n k i ∧ chooseI n k i ≤ 1000000000 := by
  intro i hi
  unfold binFine at h
  rw [List.all_eq_true] at h
  have := h i (by simp; omega)
  simp only [decide_eq_true_eq] at this
  exact ⟨this.1, this.2.1⟩
theorem binFine_b {n k : Nat} (h : binFine n k = true) : ∀ i : Nat, i ≤ k → 0 ≤ binI n i ∧ binI n i ≤ 1000000000 := by
  intro i hi
  unfold binFine at h
  rw [List.all_eq_true] at h
  have := h i (by simp; omega)
  simp only [decide_eq_true_eq] at this
  exact this.2.2

set_option synthInstance.maxSize 4096 in
set_option synthInstance.maxHeartbeats 400000 in
theorem fuss_fine0 : ∀ m, m < 5 → m ≠ 0 → ∀ n, n < 7 → binFine (m * n) n = true ∧ chooseI ((m * n : Nat) : Int) n n = binI ((m * n : Nat) : Int) n ∧ m * n ≤ 24 ∧ n ≤ m * n ∧ 0 ≤ (((m : Nat) : Int) - 1) * n ∧ (((m : Nat) : Int) - 1) * n ≤ 24
    ∧ -1000000000 ≤ (chooseI ((m * n : Nat) : Int) n n).tdiv ((((m : Nat) : Int) - 1) * n + 1) ∧ (chooseI ((m * n : Nat) : Int) n n).tdiv ((((m : Nat) : Int) - 1) * n + 1) ≤ 1000000000 := by decide +kernel
theorem fuss_fine {m n : Int} (hm : 1 ≤ m ∧ m ≤ 4) (hn : 0 ≤ n ∧ n ≤ 6) : binFine (m * n).toNat n.toNat = true ∧ chooseI (m * n) n n.toNat = binI (m * n) n.toNat ∧ m * n ≤ 24 ∧ n ≤ m * n ∧ 0 ≤ (m - 1) * n ∧ (m - 1) * n ≤ 24
    ∧ -1000000000 ≤ (chooseI (m * n) n n.toNat).tdiv ((m - 1) * n + 1) ∧ (chooseI (m * n) n n.toNat).tdiv ((m - 1) * n + 1) ≤ 1000000000 := by
  obtain ⟨a, rfl⟩ := Int.eq_ofNat_of_zero_le (show 0 ≤ m by omega)
  obtain ⟨b, rfl⟩ := Int.eq_ofNat_of_zero_le (show 0 ≤ n by omega)
  obtain ⟨h1, h2, h3, h4, h5⟩ := fuss_fine0 a (by omega) (by omega) b (by omega)
  have e : ((a * b : Nat) : Int) = (a : Int) * b := Int.natCast_mul a b
  rw [← e]
  exact ⟨h1, h2, by omega, by omega, h5⟩

/-- the number of words of Fuss -/
def fussN (m n : Int) : Int := if (1 ≤ m ∧ m ≤ 4) ∧ 0 ≤ n ∧ n ≤ 6 then (chooseI (m * n) n n.toNat).tdiv ((m - 1) * n + 1) else -1

end Go.Proofs.Ytdfdlnjijccpeaa.Pl
