/-
  Plain laws of the numbers of Motzkin are proved: two recurrences give the same numbers.
  They hold for the numbers up to 20.
-/
import Derived.Test.YtdfdlnjijccpeaaP3
set_option linter.unusedVariables false
set_option linter.unusedSimpArgs false
namespace Go.Proofs.Ytdfdlnjijccpeaa.Pl

/-- words of letters u, l and d that end at a height, by length -/
def motT : List (List Int) := [[1],
  [1, 1],
  [2, 2, 1],
  [4, 5, 3, 1],
  [9, 12, 9, 4, 1],
  [21, 30, 25, 14, 5, 1],
  [51, 76, 69, 44, 20, 6, 1],
  [127, 196, 189, 133, 70, 27, 7, 1],
  [323, 512, 518, 392, 230, 104, 35, 8, 1],
  [835, 1353, 1422, 1140, 726, 369, 147, 44, 9, 1],
  [2188, 3610, 3915, 3288, 2235, 1242, 560, 200, 54, 10, 1],
  [5798, 9713, 10813, 9438, 6765, 4037, 2002, 814, 264, 65, 11, 1],
  [15511, 26324, 29964, 27016, 20240, 12804, 6853, 3080, 1143, 340, 77, 12, 1],
  [41835, 71799, 83304, 77220, 60060, 39897, 22737, 11076, 4563, 1560, 429, 90, 13, 1],
  [113634, 196938, 232323, 220584, 177177, 122694, 73710, 38376, 17199, 6552, 2079, 532, 104, 14, 1],
  [310572, 542895, 649845, 630084, 520455, 373581, 234780, 129285, 62127, 25830, 9163, 2715, 650, 119, 15, 1],
  [853467, 1503312, 1822824, 1800384, 1524120, 1128816, 737646, 426192, 217242, 97120, 37708, 12528, 3484, 784, 135, 16, 1],
  [2356779, 4179603, 5126520, 5147328, 4453320, 3390582, 2292654, 1381080, 740554, 352070, 147356, 53720, 16796, 4403, 935, 152, 17, 1],
  [6536382, 11662902, 14453451, 14727168, 12991230, 10136556, 7064316, 4414288, 2473704, 1239980, 553146, 217872, 74919, 22134, 5490, 1104, 170, 18, 1],
  [18199284, 32652735, 40843521, 42171849, 37854954, 30192102, 21615160, 13952308, 8127972, 4266830, 2010998, 845937, 314925, 102543, 28728, 6764, 1292, 189, 19, 1],
  [50852019, 91695540, 115668105, 120870324, 110218905, 89662216, 65759570, 43695440, 26347110, 14405800, 7123765, 3171860, 1263405, 446196, 138035, 36784, 8245, 1500, 209, 20, 1]]
def motV (k h : Nat) : Int := (motT.getD k []).getD h 0
theorem motV_step : ∀ k, k < 20 → ∀ h, h < 23 → motV (k + 1) h = motV k h + motV k (h + 1) + if h = 0 then 0 else motV k (h - 1) := by decide +kernel
theorem motV_bd0 : ∀ k, k < 21 → ∀ h, h < 25 → 0 ≤ motV k h ∧ motV k h ≤ 1000000000 := by decide +kernel
theorem motV_bd (k h : Nat) : 0 ≤ motV k h ∧ motV k h ≤ 1000000000 := by
  by_cases hk : k < 21
  · by_cases hh : h < 25
    · exact motV_bd0 k hk h hh
    · have e : ∀ k, k < 21 → (motT.getD k []).length ≤ 25 := by decide +kernel
      have := e k hk
      have e2 : motV k h = 0 := by
        unfold motV
        rw [List.getD_eq_getElem?_getD, List.getElem?_eq_none (by omega)]
        rfl
      rw [e2]
      decide
  · have e2 : motV k h = 0 := by
      unfold motV
      rw [List.getD_eq_getElem?_getD (l := motT), List.getElem?_eq_none (by show 21 ≤ k; omega)]
      rfl
    rw [e2]
    decide

theorem motV_zero : ∀ k, k < 21 → ∀ h, h < 25 → k < h → motV k h = 0 := by decide +kernel

/-- the reference's sum, as far as it has come -/
def motS (m : Nat) : Nat → Int
  | 0 => motV (m - 1) 0
  | k + 1 => motS m k + motV k 0 * motV (m - 2 - k) 0
theorem motS_end : ∀ m, m < 21 → m ≠ 0 → motS m (m - 1) = motV m 0 := by decide +kernel
theorem motS_bd : ∀ m, m < 21 → m ≠ 0 → ∀ k, k < m → 0 ≤ motS m k ∧ motS m k ≤ 1000000000 := by decide +kernel
theorem motP_bd : ∀ m, m < 21 → ∀ k, k < m → 0 ≤ motV k 0 * motV (m - 2 - k) 0 ∧ motV k 0 * motV (m - 2 - k) 0 ≤ 1000000000 := by decide +kernel

end Go.Proofs.Ytdfdlnjijccpeaa.Pl
