/-
  Plain laws of ballot numbers and of the numbers of Schroeder are proved.
  They hold for the sizes that the statements speak of.
-/
import Derived.Test.YtdfdlnjijccpeaaP2
set_option linter.unusedVariables false
set_option linter.unusedSimpArgs false
namespace Go.Proofs.Ytdfdlnjijccpeaa.Pl

/-- the ways of words with so many letters left, from a height: a row by the one before -/
def rowW (g : Nat → Nat) : Nat → Nat
  | 0 => g 1 + g 0
  | h + 1 => g (h + 2) + g (h + 1) + rowW g h
def waysW : Nat → Nat → Nat
  | 0 => fun _ => 1
  | l + 1 => rowW (waysW l)
theorem waysW_zero (h : Nat) : waysW 0 h = 1 := rfl
theorem waysW_low (l : Nat) : waysW (l + 1) 0 = waysW l 1 + waysW l 0 := rfl
theorem waysW_step (l h : Nat) : waysW (l + 1) (h + 1) = waysW l (h + 2) + waysW l (h + 1) + waysW (l + 1) h := rfl
theorem waysW_le : ∀ l h, waysW l h ≤ 3 ^ (2 * l + h) := by
  intro l
  induction l with
  | zero => intro h; exact Nat.pow_pos (by decide)
  | succ l ih =>
    intro h
    induction h with
    | zero =>
      rw [waysW_low]
      have a := ih 1
      have b := ih 0
      have e1 : 3 ^ (2 * (l + 1) + 0) = 9 * 3 ^ (2 * l) := by rw [show 2 * (l + 1) + 0 = 2 * l + 2 by omega, Nat.pow_add]; omega
      have e2 : 3 ^ (2 * l + 1) = 3 * 3 ^ (2 * l) := by rw [Nat.pow_add]; omega
      rw [Nat.add_zero] at b
      omega
    | succ h ih2 =>
      rw [waysW_step]
      have a := ih (h + 2)
      have b := ih (h + 1)
      have e1 : 3 ^ (2 * (l + 1) + (h + 1)) = 27 * 3 ^ (2 * l + h) := by rw [show 2 * (l + 1) + (h + 1) = 2 * l + h + 3 by omega, Nat.pow_add]; omega
      have e2 : 3 ^ (2 * (l + 1) + h) = 9 * 3 ^ (2 * l + h) := by rw [show 2 * (l + 1) + h = 2 * l + h + 2 by omega, Nat.pow_add]; omega
      have e3 : 3 ^ (2 * l + (h + 2)) = 9 * 3 ^ (2 * l + h) := by rw [show 2 * l + (h + 2) = 2 * l + h + 2 by omega, Nat.pow_add]; omega
      have e4 : 3 ^ (2 * l + (h + 1)) = 3 * 3 ^ (2 * l + h) := by rw [show 2 * l + (h + 1) = 2 * l + h + 1 by omega, Nat.pow_add]; omega
      omega

/-! the same, row by row, as a list -/
def scanR : Nat → List Nat → List Nat
  | p, a :: b :: t => (b + a + p) :: scanR (b + a + p) (b :: t)
  | _, _ => []
def rowsR : Nat → List Nat → List Nat
  | 0, r => r
  | l + 1, r => scanR 0 (rowsR l r)
theorem scanR_map (g : Nat → Nat) : ∀ k i p, (i = 0 → p = 0) → (∀ j, i = j + 1 → p = rowW g j) → scanR p ((List.range' i (k + 1)).map g) = (List.range' i k).map (rowW g) := by
  intro k
  induction k with
  | zero => intro i p _ _; rfl
  | succ k ih =>
    intro i p h0 h1
    have e : g (i + 1) + g i + p = rowW g i := by
      cases i with
      | zero => rw [h0 rfl]; rfl
      | succ j => rw [h1 j rfl]; rfl
    have s1 : List.range' i (k + 1 + 1) = i :: (i + 1) :: List.range' (i + 2) k := by rw [List.range'_succ, List.range'_succ]
    have s2 : List.range' (i + 1) (k + 1) = (i + 1) :: List.range' (i + 2) k := by rw [List.range'_succ]
    rw [s1, List.map_cons, List.map_cons, scanR, e, ← List.map_cons, ← s2, ih (i + 1) (rowW g i) (fun h => by omega) (fun j hj => by rw [show j = i by omega]), List.range'_succ, List.map_cons]
theorem rowsR_map : ∀ l m, rowsR l ((List.range' 0 (l + m)).map (waysW 0)) = (List.range' 0 m).map (waysW l) := by
  intro l
  induction l with
  | zero => intro m; rw [Nat.zero_add]; rfl
  | succ l ih =>
    intro m
    rw [rowsR, show l + 1 + m = l + (m + 1) by omega, ih (m + 1), scanR_map _ _ _ _ (fun _ => rfl) (fun j hj => by omega)]
    rfl
theorem waysW_row (n : Nat) : waysW n 0 = (rowsR n (List.replicate (n + 1) 1)).headD 0 := by
  have := rowsR_map n 1
  rw [show (List.range' 0 (n + 1)).map (waysW 0) = List.replicate (n + 1) 1 from List.eq_replicate_iff.2 ⟨by simp, fun b hb => by obtain ⟨x, _, rfl⟩ := List.mem_map.1 hb; rfl⟩] at this
  rw [this]
  rfl

/-! ballot numbers, a row by the one before -/
def rowB (i : Nat) (g : Nat → Nat) : Nat → Nat
  | 0 => 0
  | k + 1 => if k < i then 0 else if k = i then g (k + 1) else g (k + 1) + rowB i g k
def bal : Nat → Nat → Nat
  | 0 => fun _ => 1
  | i + 1 => rowB i (bal i)
theorem bal_zero (k : Nat) : bal 0 k = 1 := rfl
theorem bal_low {i k : Nat} (h : k ≤ i) : bal (i + 1) k = 0 := by
  cases k with
  | zero => rfl
  | succ k => show rowB i (bal i) (k + 1) = 0; rw [rowB, if_pos (by omega)]
theorem bal_diag (i : Nat) : bal (i + 1) (i + 1) = bal i (i + 1) := by
  show rowB i (bal i) (i + 1) = _
  rw [rowB, if_neg (by omega), if_pos rfl]
theorem bal_step {i k : Nat} (h : i < k) : bal (i + 1) (k + 1) = bal i (k + 1) + bal (i + 1) k := by
  show rowB i (bal i) (k + 1) = _
  rw [rowB, if_neg (by omega), if_neg (by omega)]
  rfl
theorem bal_le : ∀ i k, bal i k ≤ 2 ^ (i + k) := by
  intro i
  induction i with
  | zero => intro k; exact Nat.pow_pos (by decide)
  | succ i ih =>
    intro k
    induction k with
    | zero => rw [bal_low (by omega)]; exact Nat.zero_le _
    | succ k ih2 =>
      have a := ih (k + 1)
      have e1 : 2 ^ (i + 1 + (k + 1)) = 4 * 2 ^ (i + k) := by rw [show i + 1 + (k + 1) = i + k + 2 by omega, Nat.pow_add]; omega
      have e2 : 2 ^ (i + (k + 1)) = 2 * 2 ^ (i + k) := by rw [show i + (k + 1) = i + k + 1 by omega, Nat.pow_add]; omega
      have e3 : 2 ^ (i + 1 + k) = 2 * 2 ^ (i + k) := by rw [show i + 1 + k = i + k + 1 by omega, Nat.pow_add]; omega
      by_cases h : i < k
      · rw [bal_step h]; omega
      · by_cases h2 : k = i
        · subst h2; rw [bal_diag]; omega
        · rw [bal_low (by omega)]; exact Nat.zero_le _

/-- the sum that the reference takes, term by term -/
def sumS (n : Nat) : Nat → Int
  | 0 => 0
  | k + 1 => sumS n k + (bal k k : Int) * binI ((n + k : Nat) : Int) (n - k)
theorem schroeder_fine : ∀ n, n < 13 → (((rowsR n (List.replicate (n + 1) 1)).headD 0 : Nat) : Int) = sumS n (n + 1) ∧ (∀ k, k < n + 2 → 0 ≤ sumS n k ∧ sumS n k ≤ 1000000000) ∧
    ∀ k, k < n + 1 → binFine (n + k) (n - k) = true ∧ 0 ≤ binI ((n + k : Nat) : Int) (n - k) ∧ binI ((n + k : Nat) : Int) (n - k) ≤ 1000000000 ∧ (bal k k : Int) * binI ((n + k : Nat) : Int) (n - k) ≤ 1000000000 := by
  decide +kernel
theorem schroeder_num {n : Nat} (h : n < 13) : (waysW n 0 : Int) = sumS n (n + 1) := by rw [waysW_row]; exact (schroeder_fine n h).1

end Go.Proofs.Ytdfdlnjijccpeaa.Pl
