/-
  Plain laws about words of letters are proved: how often a letter stands, heights, and balanced words.
  They hold for all lists of bytes.
-/
import Derived.IntWalk
import Derived.Test.YtcepogfmajlcjaaEnv
import Derived.Test.YtcepogfmajlcjaaGX
import Derived.Test.YtcepogfmajlcjaaGY
set_option linter.unusedVariables false
set_option linter.unusedSimpArgs false
namespace Go.Proofs.Ytcepogfmajlcjaa.Pl

/-- how often a byte of this number stands in a word -/
def cntB (w : List UInt8) (c : Int) : Nat := (w.filter fun x => (x.toNat : Int) == c).length

theorem cntB_le (w : List UInt8) (c : Int) : cntB w c ≤ w.length := List.length_filter_le _ _
theorem cntB_snoc (w : List UInt8) (x : UInt8) (c : Int) : cntB (w ++ [x]) c = cntB w c + if (x.toNat : Int) = c then 1 else 0 := by
  unfold cntB
  rw [List.filter_append, List.length_append]
  by_cases h : (x.toNat : Int) = c <;> simp [h]

theorem take_snoc (w : List UInt8) (k : Nat) (h : k < w.length) : w.take (k + 1) = w.take k ++ [w.getD k 0] := by
  rw [List.take_succ_eq_append_getElem h]
  simp [List.getD, h]

/-- all letters are u or d -/
def steps (w : List UInt8) : Bool := w.all fun x => (x.toNat : Int) == 117 || (x.toNat : Int) == 100

theorem steps_snoc (w : List UInt8) (x : UInt8) : steps (w ++ [x]) = (steps w && ((x.toNat : Int) == 117 || (x.toNat : Int) == 100)) := by
  simp [steps]

theorem steps_take {w : List UInt8} (h : steps w = true) (k : Nat) : steps (w.take k) = true := by
  unfold steps at *
  rw [List.all_eq_true] at *
  exact fun x hx => h x (List.mem_of_mem_take hx)

theorem steps_at {w : List UInt8} {k : Nat} (hk : k < w.length) (h1 : ((w.getD k 0).toNat : Int) ≠ 117) (h2 : ((w.getD k 0).toNat : Int) ≠ 100) : steps w = false := by
  cases h : steps w with
  | false => rfl
  | true =>
    unfold steps at h
    rw [List.all_eq_true] at h
    have := h (w.getD k 0) (by simp [List.getD, hk])
    simp only [Bool.or_eq_true, beq_iff_eq] at this
    omega

/-- the height at the end: letters u less letters d -/
def hgt (w : List UInt8) : Int := (cntB w 117 : Int) - (cntB w 100 : Int)

theorem hgt_u (w : List UInt8) (x : UInt8) (h : (x.toNat : Int) = 117) : hgt (w ++ [x]) = hgt w + 1 := by
  unfold hgt
  rw [cntB_snoc, cntB_snoc, if_pos h, if_neg (by omega)]
  omega
theorem hgt_d (w : List UInt8) (x : UInt8) (h : (x.toNat : Int) = 100) : hgt (w ++ [x]) = hgt w - 1 := by
  unfold hgt
  rw [cntB_snoc, cntB_snoc, if_pos h, if_neg (by omega)]
  omega
theorem hgt_bd (w : List UInt8) : -(w.length : Int) ≤ hgt w ∧ hgt w ≤ w.length := by
  have h1 := cntB_le w 117
  have h2 := cntB_le w 100
  unfold hgt
  omega

theorem steps_iff (w : List UInt8) : steps w = true ↔ cntB w 117 + cntB w 100 = w.length := by
  induction w with
  | nil => simp [steps, cntB]
  | cons x r ih =>
    have e1 : cntB (x :: r) 117 = cntB r 117 + if (x.toNat : Int) = 117 then 1 else 0 := by unfold cntB; by_cases h : (x.toNat : Int) = 117 <;> simp [h]
    have e2 : cntB (x :: r) 100 = cntB r 100 + if (x.toNat : Int) = 100 then 1 else 0 := by unfold cntB; by_cases h : (x.toNat : Int) = 100 <;> simp [h]
    have e3 : steps (x :: r) = (((x.toNat : Int) == 117 || (x.toNat : Int) == 100) && steps r) := by simp [steps]
    have a1 := cntB_le r 117
    have key : cntB r 117 + cntB r 100 ≤ r.length := by
      clear ih e1 e2 e3 a1
      induction r with
      | nil => simp [cntB]
      | cons y s ih =>
        have f1 : cntB (y :: s) 117 = cntB s 117 + if (y.toNat : Int) = 117 then 1 else 0 := by unfold cntB; by_cases h : (y.toNat : Int) = 117 <;> simp [h]
        have f2 : cntB (y :: s) 100 = cntB s 100 + if (y.toNat : Int) = 100 then 1 else 0 := by unfold cntB; by_cases h : (y.toNat : Int) = 100 <;> simp [h]
        rw [f1, f2]
        simp only [List.length_cons]
        split <;> split <;> omega
    rw [e1, e2, e3]
    simp only [List.length_cons, Bool.and_eq_true, Bool.or_eq_true, beq_iff_eq, ih]
    split <;> split <;> omega

/-- balanced words -/
def isBal (w : List UInt8) : Prop := w.length ≤ 17 ∧ steps w = true ∧ hgt w = -1

instance (w : List UInt8) : Decidable (isBal w) := by unfold isBal; infer_instance

/-- what a letter does to the height; nothing for other bytes -/
def stepOf (up dn : Int) (lv : Bool) (x : UInt8) : Option Int :=
  if (x.toNat : Int) = 117 then some up else if (x.toNat : Int) = 100 then some dn else if (x.toNat : Int) = 108 ∧ lv = true then some 0 else none

/-- the height at the end, if it never falls below 0 and all letters are known -/
def walkH (up dn : Int) (lv : Bool) : List UInt8 → Int → Option Int
  | [], h => some h
  | x :: r, h => match stepOf up dn lv x with
    | none => none
    | some d => if h + d < 0 then none else walkH up dn lv r (h + d)

theorem walkH_snoc (up dn : Int) (lv : Bool) (w : List UInt8) (x : UInt8) : ∀ h, walkH up dn lv (w ++ [x]) h = (match walkH up dn lv w h with
    | none => none
    | some g => match stepOf up dn lv x with
      | none => none
      | some d => if g + d < 0 then none else some (g + d)) := by
  induction w with
  | nil =>
    intro h
    simp only [List.nil_append, walkH]
  | cons y r ih =>
    intro h
    simp only [List.cons_append, walkH]
    cases stepOf up dn lv y with
    | none => rfl
    | some d =>
      dsimp only
      by_cases hd : h + d < 0
      · simp [hd]
      · simp only [hd, if_false]
        exact ih _

theorem walkH_take_none {up dn : Int} {lv : Bool} {w : List UInt8} {k : Nat} (h : walkH up dn lv (w.take k) 0 = none) : walkH up dn lv w 0 = none := by
  have key : ∀ (a b : List UInt8) (h : Int), walkH up dn lv a h = none → walkH up dn lv (a ++ b) h = none := by
    intro a
    induction a with
    | nil => intro b h hh; cases hh
    | cons x r ih =>
      intro b h hh
      simp only [List.cons_append, walkH] at hh ⊢
      cases hs : stepOf up dn lv x with
      | none => rfl
      | some d =>
        rw [hs] at hh
        dsimp only at hh ⊢
        by_cases hd : h + d < 0
        · simp [hd]
        · simp only [hd, if_false] at hh ⊢
          exact ih b _ hh
  have := key (w.take k) (w.drop k) 0 h
  rwa [List.take_append_drop] at this

theorem walkH_next {up dn : Int} {lv : Bool} {w : List UInt8} {k : Nat} {g d : Int} (hk : k < w.length) (h : walkH up dn lv (w.take k) 0 = some g) (hs : stepOf up dn lv (w.getD k 0) = some d) (hd : ¬ g + d < 0) :
    walkH up dn lv (w.take (k + 1)) 0 = some (g + d) := by
  rw [take_snoc w k hk, walkH_snoc, h]
  dsimp only
  rw [hs]
  dsimp only
  rw [if_neg hd]

theorem walkH_bad {up dn : Int} {lv : Bool} {w : List UInt8} {k : Nat} {g : Int} (hk : k < w.length) (h : walkH up dn lv (w.take k) 0 = some g) (hs : stepOf up dn lv (w.getD k 0) = none) :
    walkH up dn lv w 0 = none := by
  apply walkH_take_none (k := k + 1)
  rw [take_snoc w k hk, walkH_snoc, h]
  dsimp only
  rw [hs]

theorem walkH_low {up dn : Int} {lv : Bool} {w : List UInt8} {k : Nat} {g d : Int} (hk : k < w.length) (h : walkH up dn lv (w.take k) 0 = some g) (hs : stepOf up dn lv (w.getD k 0) = some d) (hd : g + d < 0) :
    walkH up dn lv w 0 = none := by
  apply walkH_take_none (k := k + 1)
  rw [take_snoc w k hk, walkH_snoc, h]
  dsimp only
  rw [hs]
  dsimp only
  rw [if_pos hd]

theorem walkH_bd {up dn : Int} {lv : Bool} (hu : 0 ≤ up) (hdn : dn ≤ up) : ∀ (w : List UInt8) (h g : Int), 0 ≤ h → walkH up dn lv w h = some g → 0 ≤ g ∧ g ≤ h + up * w.length
  | [], h, g, h0, hh => by
    simp only [walkH] at hh
    injection hh with hh
    subst hh
    exact ⟨h0, by simp⟩
  | x :: r, h, g, h0, hh => by
    simp only [walkH] at hh
    cases hs : stepOf up dn lv x with
    | none => rw [hs] at hh; cases hh
    | some d =>
      rw [hs] at hh
      dsimp only at hh
      by_cases hd : h + d < 0
      · simp [hd] at hh
      · simp only [hd, if_false] at hh
        have h1 := walkH_bd hu hdn r (h + d) g (by omega) hh
        have h2 : d ≤ up := by
          unfold stepOf at hs
          split at hs
          · injection hs; omega
          · split at hs
            · injection hs; omega
            · split at hs
              · injection hs; omega
              · cases hs
        refine ⟨h1.1, ?_⟩
        have h3 : up * ((x :: r).length : Int) = up * (r.length : Int) + up := by
          simp only [List.length_cons, Int.natCast_add, Int.mul_add]
          omega
        omega

theorem stepOf_u {up dn : Int} {lv : Bool} {x : UInt8} (h : (x.toNat : Int) = 117) : stepOf up dn lv x = some up := by simp [stepOf, h]
theorem stepOf_d {up dn : Int} {lv : Bool} {x : UInt8} (h : (x.toNat : Int) = 100) : stepOf up dn lv x = some dn := by simp [stepOf, h]
theorem stepOf_l {up dn : Int} {x : UInt8} (h : (x.toNat : Int) = 108) : stepOf up dn true x = some 0 := by simp [stepOf, h]
theorem stepOf_no {up dn : Int} {lv : Bool} {x : UInt8} (h1 : (x.toNat : Int) ≠ 117) (h2 : (x.toNat : Int) ≠ 100) (h3 : (x.toNat : Int) ≠ 108 ∨ lv = false) : stepOf up dn lv x = none := by
  unfold stepOf
  rw [if_neg h1, if_neg h2, if_neg]
  rintro ⟨a, b⟩
  rcases h3 with h | h
  · exact h a
  · rw [h] at b; cases b

/-- paths, Motzkin words, words of Schroeder, words of Fuss -/
def isDyck (w : List UInt8) : Bool := decide (w.length ≤ 16) && (walkH 1 (-1) false w 0 == some 0)
def rises (w : List UInt8) : Bool := walkH 1 (-1) true w 0 == some 0
def isFuss (m : Int) (w : List UInt8) : Bool := decide ((1 ≤ m ∧ m ≤ 4) ∧ w.length ≤ 24) && (walkH (m - 1) (-1) false w 0 == some 0)
def isMotzkin (w : List UInt8) : Bool := decide (w.length ≤ 12) && rises w
def isSchroeder (w : List UInt8) : Bool := decide (w.length + cntB w 108 ≤ 16) && rises w

end Go.Proofs.Ytcepogfmajlcjaa.Pl

/-
  Plain laws of small numbers are proved: binomials by two ways.
  They hold for the numbers that are tried, all of them.
-/
set_option linter.unusedVariables false
set_option linter.unusedSimpArgs false
namespace Go.Proofs.Ytcepogfmajlcjaa.Pl

/-- the program's binomial: factors from below -/
def chooseI (n k : Int) : Nat → Int
  | 0 => 1
  | i + 1 => (chooseI n k i * (n - k + (i + 1))).tdiv (i + 1)
/-- the reference's binomial: factors from above -/
def binI (n : Int) : Nat → Int
  | 0 => 1
  | i + 1 => (binI n i * (n - i)).tdiv (i + 1)

/-- both are small, and the same -/
def binFine (n k : Nat) : Bool := (List.range (k + 1)).all fun i => decide (0 ≤ chooseI n k i ∧ chooseI n k i ≤ 1000000000 ∧ 0 ≤ binI n i ∧ binI n i ≤ 1000000000)
theorem binFine_c {n k : Nat} (h : binFine n k = true) : ∀ i : Nat, i ≤ k → 0 ≤ chooseI n k i ∧ chooseI n k i ≤ 1000000000 := by
  intro i hi
  unfold binFine at h
  rw [List.all_eq_true] at h
  have := h i (by simp; omega)
  simp only [decide_eq_true_eq] at this
  exact ⟨this.1, this.2.1⟩
theorem binFine_b {n k : Nat} (h : binFine n k = true) : ∀ i : Nat, i ≤ k → 0 ≤ binI n i ∧ binI n i ≤ 1000000000 := by
  intro i hi
  unfold binFine at h
  rw [List.all_eq_true] at h
  have := h i (by simp; omega)
  simp only [decide_eq_true_eq] at this
  exact this.2.2

set_option synthInstance.maxSize 4096 in
set_option synthInstance.maxHeartbeats 400000 in
theorem fuss_fine0 : ∀ m, m < 5 → m ≠ 0 → ∀ n, n < 7 → binFine (m * n) n = true ∧ chooseI ((m * n : Nat) : Int) n n = binI ((m * n : Nat) : Int) n ∧ m * n ≤ 24 ∧ n ≤ m * n ∧ 0 ≤ (((m : Nat) : Int) - 1) * n ∧ (((m : Nat) : Int) - 1) * n ≤ 24
    ∧ -1000000000 ≤ (chooseI ((m * n : Nat) : Int) n n).tdiv ((((m : Nat) : Int) - 1) * n + 1) ∧ (chooseI ((m * n : Nat) : Int) n n).tdiv ((((m : Nat) : Int) - 1) * n + 1) ≤ 1000000000 := by decide +kernel
theorem fuss_fine {m n : Int} (hm : 1 ≤ m ∧ m ≤ 4) (hn : 0 ≤ n ∧ n ≤ 6) : binFine (m * n).toNat n.toNat = true ∧ chooseI (m * n) n n.toNat = binI (m * n) n.toNat ∧ m * n ≤ 24 ∧ n ≤ m * n ∧ 0 ≤ (m - 1) * n ∧ (m - 1) * n ≤ 24
    ∧ -1000000000 ≤ (chooseI (m * n) n n.toNat).tdiv ((m - 1) * n + 1) ∧ (chooseI (m * n) n n.toNat).tdiv ((m - 1) * n + 1) ≤ 1000000000 := by
  obtain ⟨a, rfl⟩ := Int.eq_ofNat_of_zero_le (show 0 ≤ m by omega)
  obtain ⟨b, rfl⟩ := Int.eq_ofNat_of_zero_le (show 0 ≤ n by omega)
  obtain ⟨h1, h2, h3, h4, h5⟩ := fuss_fine0 a (by omega) (by omega) b (by omega)
  have e : ((a * b : Nat) : Int) = (a : Int) * b := Int.natCast_mul a b
  rw [← e]
  exact ⟨h1, h2, by omega, by omega, h5⟩

/-- the number of words of Fuss -/
def fussN (m n : Int) : Int := if (1 ≤ m ∧ m ≤ 4) ∧ 0 ≤ n ∧ n ≤ 6 then (chooseI (m * n) n n.toNat).tdiv ((m - 1) * n + 1) else -1

end Go.Proofs.Ytcepogfmajlcjaa.Pl

/-
  Plain laws of heights of words are proved.
  They hold for all lists of bytes.
-/
set_option linter.unusedVariables false
set_option linter.unusedSimpArgs false
namespace Go.Proofs.Ytcepogfmajlcjaa.Pl

theorem hgt_nil : hgt [] = 0 := by decide

/-- a walk's height is that of its letters -/
theorem walkH_hgt : ∀ (w : List UInt8) (h g : Int), walkH 1 (-1) false w h = some g → g = h + hgt w := by
  intro w
  induction w with
  | nil => intro h g e; simp only [walkH] at e; injection e with e; rw [hgt_nil]; omega
  | cons x r ih =>
    intro h g e
    have e1 : hgt (x :: r) = hgt r + (if (x.toNat : Int) = 117 then 1 else 0) - (if (x.toNat : Int) = 100 then 1 else 0) := by
      have f1 : cntB (x :: r) 117 = cntB r 117 + if (x.toNat : Int) = 117 then 1 else 0 := by unfold cntB; by_cases h : (x.toNat : Int) = 117 <;> simp [h]
      have f2 : cntB (x :: r) 100 = cntB r 100 + if (x.toNat : Int) = 100 then 1 else 0 := by unfold cntB; by_cases h : (x.toNat : Int) = 100 <;> simp [h]
      unfold hgt
      rw [f1, f2]
      split <;> split <;> omega
    simp only [walkH] at e
    cases hs : stepOf 1 (-1) false x with
    | none => rw [hs] at e; cases e
    | some d =>
      rw [hs] at e
      dsimp only at e
      by_cases hd : h + d < 0
      · simp [hd] at e
      · simp only [hd, if_false] at e
        have := ih _ _ e
        rw [e1]
        unfold stepOf at hs
        split at hs
        · injection hs with hs
          rename_i h1
          rw [if_pos h1, if_neg (by omega)]
          omega
        · split at hs
          · injection hs with hs
            rename_i h1 h2
            rw [if_neg h1, if_pos h2]
            omega
          · split at hs
            · rename_i h3
              cases h3.2
            · cases hs

/-- the heights before the letters and at the end -/
def htsTo (w : List UInt8) (k : Nat) : List Int := (List.range (k + 1)).map fun j => hgt (w.take j)
def hts (w : List UInt8) : List Int := htsTo w w.length
theorem htsTo_zero (w : List UInt8) : htsTo w 0 = [0] := by simp [htsTo, hgt_nil]
theorem htsTo_succ (w : List UInt8) (k : Nat) : htsTo w (k + 1) = htsTo w k ++ [hgt (w.take (k + 1))] := by
  unfold htsTo
  rw [List.range_succ, List.map_append]
  rfl
@[simp] theorem htsTo_length (w : List UInt8) (k : Nat) : (htsTo w k).length = k + 1 := by simp [htsTo]

end Go.Proofs.Ytcepogfmajlcjaa.Pl

/-
  Plain laws of the numbers of Motzkin are proved: two recurrences give the same numbers.
  They hold for the numbers up to 20.
-/
set_option linter.unusedVariables false
set_option linter.unusedSimpArgs false
namespace Go.Proofs.Ytcepogfmajlcjaa.Pl

/-- words of letters u, l and d that end at a height, by length -/
def motT : List (List Int) := [[1],
  [1, 1],
  [2, 2, 1],
  [4, 5, 3, 1],
  [9, 12, 9, 4, 1],
  [21, 30, 25, 14, 5, 1],
  [51, 76, 69, 44, 20, 6, 1],
  [127, 196, 189, 133, 70, 27, 7, 1],
  [323, 512, 518, 392, 230, 104, 35, 8, 1],
  [835, 1353, 1422, 1140, 726, 369, 147, 44, 9, 1],
  [2188, 3610, 3915, 3288, 2235, 1242, 560, 200, 54, 10, 1],
  [5798, 9713, 10813, 9438, 6765, 4037, 2002, 814, 264, 65, 11, 1],
  [15511, 26324, 29964, 27016, 20240, 12804, 6853, 3080, 1143, 340, 77, 12, 1],
  [41835, 71799, 83304, 77220, 60060, 39897, 22737, 11076, 4563, 1560, 429, 90, 13, 1],
  [113634, 196938, 232323, 220584, 177177, 122694, 73710, 38376, 17199, 6552, 2079, 532, 104, 14, 1],
  [310572, 542895, 649845, 630084, 520455, 373581, 234780, 129285, 62127, 25830, 9163, 2715, 650, 119, 15, 1],
  [853467, 1503312, 1822824, 1800384, 1524120, 1128816, 737646, 426192, 217242, 97120, 37708, 12528, 3484, 784, 135, 16, 1],
  [2356779, 4179603, 5126520, 5147328, 4453320, 3390582, 2292654, 1381080, 740554, 352070, 147356, 53720, 16796, 4403, 935, 152, 17, 1],
  [6536382, 11662902, 14453451, 14727168, 12991230, 10136556, 7064316, 4414288, 2473704, 1239980, 553146, 217872, 74919, 22134, 5490, 1104, 170, 18, 1],
  [18199284, 32652735, 40843521, 42171849, 37854954, 30192102, 21615160, 13952308, 8127972, 4266830, 2010998, 845937, 314925, 102543, 28728, 6764, 1292, 189, 19, 1],
  [50852019, 91695540, 115668105, 120870324, 110218905, 89662216, 65759570, 43695440, 26347110, 14405800, 7123765, 3171860, 1263405, 446196, 138035, 36784, 8245, 1500, 209, 20, 1]]
def motV (k h : Nat) : Int := (motT.getD k []).getD h 0
theorem motV_step : ∀ k, k < 20 → ∀ h, h < 23 → motV (k + 1) h = motV k h + motV k (h + 1) + if h = 0 then 0 else motV k (h - 1) := by decide +kernel
theorem motV_bd0 : ∀ k, k < 21 → ∀ h, h < 25 → 0 ≤ motV k h ∧ motV k h ≤ 1000000000 := by decide +kernel
theorem motV_bd (k h : Nat) : 0 ≤ motV k h ∧ motV k h ≤ 1000000000 := by
  by_cases hk : k < 21
  · by_cases hh : h < 25
    · exact motV_bd0 k hk h hh
    · have e : ∀ k, k < 21 → (motT.getD k []).length ≤ 25 := by decide +kernel
      have := e k hk
      have e2 : motV k h = 0 := by
        unfold motV
        rw [List.getD_eq_getElem?_getD, List.getElem?_eq_none (by omega)]
        rfl
      rw [e2]
      decide
  · have e2 : motV k h = 0 := by
      unfold motV
      rw [List.getD_eq_getElem?_getD (l := motT), List.getElem?_eq_none (by show 21 ≤ k; omega)]
      rfl
    rw [e2]
    decide

theorem motV_zero : ∀ k, k < 21 → ∀ h, h < 25 → k < h → motV k h = 0 := by decide +kernel

/-- the reference's sum, as far as it has come -/
def motS (m : Nat) : Nat → Int
  | 0 => motV (m - 1) 0
  | k + 1 => motS m k + motV k 0 * motV (m - 2 - k) 0
theorem motS_end : ∀ m, m < 21 → m ≠ 0 → motS m (m - 1) = motV m 0 := by decide +kernel
theorem motS_bd : ∀ m, m < 21 → m ≠ 0 → ∀ k, k < m → 0 ≤ motS m k ∧ motS m k ≤ 1000000000 := by decide +kernel
theorem motP_bd : ∀ m, m < 21 → ∀ k, k < m → 0 ≤ motV k 0 * motV (m - 2 - k) 0 ∧ motV k 0 * motV (m - 2 - k) 0 ≤ 1000000000 := by decide +kernel

end Go.Proofs.Ytcepogfmajlcjaa.Pl

/-
  Plain laws of words that are doubled and read by pairs are proved, and of texts that mark rows.
  They hold for all lists of bytes.
-/
set_option linter.unusedVariables false
set_option linter.unusedSimpArgs false
namespace Go.Proofs.Ytcepogfmajlcjaa.Pl

/-- a letter doubled -/
def two (x : UInt8) : List UInt8 := if (x.toNat : Int) = 117 then [117, 117] else if (x.toNat : Int) = 100 then [100, 100] else [117, 100]
def dyckOfM (w : List UInt8) : List UInt8 × Bool := if isMotzkin w = true ∧ w.length ≤ 8 then (w.flatMap two, true) else ([], false)
theorem two_snoc (w : List UInt8) (k : Nat) (h : k < w.length) : (w.take (k + 1)).flatMap two = (w.take k).flatMap two ++ two (w.getD k 0) := by
  rw [take_snoc w k h, List.flatMap_append]
  simp
theorem two_len (w : List UInt8) : (w.flatMap two).length = 2 * w.length := by
  induction w with
  | nil => rfl
  | cons x r ih =>
    rw [List.flatMap_cons, List.length_append, ih]
    have : (two x).length = 2 := by unfold two; split <;> (try split) <;> rfl
    simp only [this, List.length_cons]
    omega

/-- two letters as one -/
def half (x y : UInt8) : Option UInt8 :=
  if x = 117 ∧ y = 117 then some 117 else if x = 100 ∧ y = 100 then some 100 else if x = 117 ∧ y = 100 then some 108 else none
/-- pairs of letters, as many -/
def pairsTo (w : List UInt8) : Nat → Option (List UInt8)
  | 0 => some []
  | k + 1 => match pairsTo w k, half (w.getD (2 * k) 0) (w.getD (2 * k + 1) 0) with
    | some s, some c => some (s ++ [c])
    | _, _ => none
def motzOf (w : List UInt8) : List UInt8 × Bool := if isDyck w = true then match pairsTo w (w.length / 2) with
  | some s => (s, true)
  | none => ([], false) else ([], false)
theorem pairsTo_none (w : List UInt8) {k : Nat} (h : pairsTo w k = none) : ∀ m, k ≤ m → pairsTo w m = none := by
  intro m
  induction m with
  | zero => intro hm; have : k = 0 := by omega
            subst this; exact h
  | succ m ih =>
    intro hm
    by_cases e : k = m + 1
    · subst e; exact h
    · simp only [pairsTo, ih (by omega)]
theorem pairsTo_len (w : List UInt8) : ∀ (k : Nat) (s : List UInt8), pairsTo w k = some s → s.length = k := by
  intro k
  induction k with
  | zero => intro s h; injection h with h; subst h; rfl
  | succ k ih =>
    intro s h
    simp only [pairsTo] at h
    split at h
    · rename_i s' c e1 e2
      injection h with h
      subst h
      simp [ih _ e1]
    · cases h
theorem take_two (w : List UInt8) (k : Nat) (h : k + 1 < w.length) : (w.drop k).take 2 = [w.getD k 0, w.getD (k + 1) 0] := by
  have e : (w.drop k).take 2 = [w[k], w[k + 1]] := by
    rw [List.drop_eq_getElem_cons (by omega), List.drop_eq_getElem_cons h]
    rfl
  rw [e]
  simp [List.getD, h, show k < w.length by omega]

theorem cut_two (w : List UInt8) (i : Nat) (h : i + 1 < w.length) : (w.take ((i : Int) + 2).toNat).drop (i : Int).toNat = [w.getD i 0, w.getD (i + 1) 0] := by
  rw [show ((i : Int) + 2).toNat = i + 2 by omega, Int.toNat_natCast, List.drop_take, show i + 2 - i = 2 by omega, take_two w i h]

theorem pairsTo_step {w : List UInt8} {k : Nat} {s : List UInt8} (hs : pairsTo w k = some s) : pairsTo w (k + 1) = match half (w.getD (2 * k) 0) (w.getD (2 * k + 1) 0) with
    | some c => some (s ++ [c])
    | none => none := by
  simp only [pairsTo, hs]
  cases half (w.getD (2 * k) 0) (w.getD (2 * k + 1) 0) <;> rfl

/-- a path has an even number of letters -/
theorem isDyck_even {w : List UInt8} (h : isDyck w = true) : w.length = 2 * (w.length / 2) ∧ w.length ≤ 16 := by
  unfold isDyck at h
  simp only [Bool.and_eq_true, decide_eq_true_eq, beq_iff_eq] at h
  have key : ∀ (w : List UInt8) (h g : Int), walkH 1 (-1) false w h = some g → (w.length : Int) % 2 = (h + g) % 2 := by
    intro w
    induction w with
    | nil => intro h g e; simp only [walkH] at e; injection e with e; subst e; simp; omega
    | cons x r ih =>
      intro h g e
      simp only [walkH] at e
      cases hs : stepOf 1 (-1) false x with
      | none => rw [hs] at e; cases e
      | some d =>
        rw [hs] at e
        dsimp only at e
        split at e
        · cases e
        · have := ih _ _ e
          have hd : d = 1 ∨ d = -1 := by
            unfold stepOf at hs
            split at hs
            · injection hs with hs; omega
            · split at hs
              · injection hs with hs; omega
              · split at hs
                · rename_i h3; cases h3.2
                · cases hs
          simp only [List.length_cons, Int.natCast_add]
          rcases hd with rfl | rfl <;> omega
  have := key w 0 0 h.2
  exact ⟨by omega, h.1⟩

/-- decimal digits -/
def digits (k : Nat) : List UInt8 := if h : k = 0 then [] else digits (k / 10) ++ [UInt8.ofNat (48 + k % 10)]
decreasing_by omega
def markT (k : Nat) : List UInt8 := 109 :: digits k
theorem digits_zero : digits 0 = [] := by unfold digits; rfl
theorem digits_pos {k : Nat} (h : k ≠ 0) : digits k = digits (k / 10) ++ [UInt8.ofNat (48 + k % 10)] := by
  rw [digits, dif_neg h]

end Go.Proofs.Ytcepogfmajlcjaa.Pl

/-
  Contracts of small functions of the program and of the reference are proved: range tests and the shift of a word.
  They hold for all arguments within the kinds of their types.
-/
set_option linter.unusedVariables false
set_option linter.unusedSimpArgs false
namespace Go.Proofs.Ytcepogfmajlcjaa
open Go.Proofs.Ytcepogfmajlcjaa.Ab

theorem within_ok (x lo hi : Int) (h : H) : AC env 54 [.int .i64 x, .int .i64 lo, .int .i64 hi] h fun v h' => v = .bool (decide (lo ≤ x ∧ x ≤ hi)) ∧ h' = h := by
  refine AC.enter Try.func54 Try.call54 rfl Try.ntmps54 (of_decide_eq_true (by rfl)) ?_
  repeat' (first
    | refine AW.seq ?_
    | (refine AW.region ?_; conv => whnf)
    | refine AW.block ?_
    | (refine AW.skip ?_; conv => whnf)
    | (refine AW.ret ?_; conv => whnf)
    | (refine AW.exit ?_; conv => whnf)
    | refine AW.cond (by rfl) ?_
    | (refine Br.tt ?_; conv => whnf)
    | (refine Br.ff ?_; conv => whnf)
    | refine Br.not ?_
    | (refine Br.t (beq_self_eq_true _) ?_; conv => whnf)
    | (refine Br.t (by assumption) ?_; conv => whnf)
    | (refine Br.f (by assumption) ?_; conv => whnf)
    | (refine Br.dt (by omega) ?_; conv => whnf)
    | (refine Br.df (by omega) ?_; conv => whnf)
    | (refine Br.it (by omega) ?_; conv => whnf)
    | (refine Br.if (by omega) ?_; conv => whnf)
    | (refine Br.nt (by omega) ?_; conv => whnf)
    | (refine Br.nf (by omega) ?_; conv => whnf)
    | (refine Br.dec (fun hc => ?_) (fun hc => ?_) <;> conv => whnf)
    | (refine Br.ieq (fun hc => ?_) (fun hc => ?_) <;> conv => whnf)
    | (refine Br.ine (fun hc => ?_) (fun hc => ?_) <;> conv => whnf)
    | (refine Br.mk (fun hc => ?_) (fun hc => ?_) <;> conv => whnf)
    | (refine Wr.i64 (by omega) ?_; conv => whnf)
    | (refine Ck.mk (by omega) ?_; conv => whnf)
    | (refine Wr.i64 (by simp only [List.length_drop, List.length_take, List.length_append, List.length_cons, List.length_nil]; omega) ?_; conv => whnf)
    | (refine Ck.mk (by simp only [List.length_drop, List.length_take, List.length_append, List.length_cons, List.length_nil]; omega) ?_; conv => whnf)
    | (refine NewG.zeros rfl (fun bt h' hbt hn' => ?_); conv => whnf)
    | (refine NewG.mk (fun bt hbt => ?_); conv => whnf)
    | (refine LoadsG.made (by rfl) ?_; conv => whnf)
    | (refine New.appI (New.upd (by assumption) (by assumption) _) (by first | rfl | (simp; done) | omega | (simp; omega)) (by first | (simp; done) | omega | (simp; omega)) (by decide) (fun b' h' hn' ho' => ?_); conv => whnf)
    | (refine New.loadZ (by assumption) rfl (by first | (simp; done) | omega | (simp only [List.length_set, tab_length]; omega) | (simp; omega)) ?_; conv => whnf)
    | (refine Has.loadZ (by assumption) rfl (by first | (simp; done) | omega | (simp only [List.length_set, tab_length]; omega) | (simp; omega)) ?_; conv => whnf)
    | (refine New.storeZ (by assumption) rfl (by first | (simp; done) | omega | (simp only [List.length_set, tab_length]; omega) | (simp; omega)) (fun h' hn' ho' => ?_); conv => whnf)
    | (refine Own.storeZ (by assumption) rfl (by first | (simp; done) | omega | (simp only [List.length_set, tab_length]; omega) | (simp; omega)) (fun h' hn' ho' => ?_); conv => whnf)
    | (refine Wr.u8 (by omega) ?_; conv => whnf)
    | (refine Wr.u32 (by omega) ?_; conv => whnf)
    | (refine Wr.u64 (by omega) ?_; conv => whnf)
    | (refine New.loadS (by assumption) rfl (by first | (simp; done) | omega | (simp only [List.length_set, tab_length]; omega) | (simp; omega)) ?_; conv => whnf)
    | (refine Has.loadS (by assumption) rfl (by first | (simp; done) | omega | (simp only [List.length_set, tab_length]; omega) | (simp; omega)) ?_; conv => whnf)
    | (refine Own.storeS (by assumption) rfl (by first | (simp; done) | omega | (simp only [List.length_set, tab_length]; omega) | (simp; omega)) (fun h' hn' ho' => ?_); conv => whnf)
    | (refine New.appS (New.upd (by assumption) (by assumption) _) (by first | rfl | (simp; done) | omega | (simp; omega)) (by first | (simp; done) | omega | (simp; omega)) (by decide) (fun b' h' hn' ho' => ?_); conv => whnf)
    | (refine Ck.slice (by omega) (by omega) (by omega) (by decide) ?_; conv => whnf)
    | (refine Ck.mk (by simp; omega) ?_; conv => whnf))
  · exact ⟨congrArg AV.bool (by simp; omega), rfl⟩
  · exact ⟨congrArg AV.bool (by simp; omega), rfl⟩

theorem l1In_ok (x lo hi : Int) (h : H) : AC env 51 [.int .i64 x, .int .i64 lo, .int .i64 hi] h fun v h' => v = .bool (decide (lo ≤ x ∧ x ≤ hi)) ∧ h' = h := by
  refine AC.enter Try.func51 Try.call51 rfl Try.ntmps51 (of_decide_eq_true (by rfl)) ?_
  repeat' (first
    | refine AW.seq ?_
    | (refine AW.region ?_; conv => whnf)
    | refine AW.block ?_
    | (refine AW.skip ?_; conv => whnf)
    | (refine AW.ret ?_; conv => whnf)
    | (refine AW.exit ?_; conv => whnf)
    | refine AW.cond (by rfl) ?_
    | (refine Br.tt ?_; conv => whnf)
    | (refine Br.ff ?_; conv => whnf)
    | refine Br.not ?_
    | (refine Br.t (beq_self_eq_true _) ?_; conv => whnf)
    | (refine Br.t (by assumption) ?_; conv => whnf)
    | (refine Br.f (by assumption) ?_; conv => whnf)
    | (refine Br.dt (by omega) ?_; conv => whnf)
    | (refine Br.df (by omega) ?_; conv => whnf)
    | (refine Br.it (by omega) ?_; conv => whnf)
    | (refine Br.if (by omega) ?_; conv => whnf)
    | (refine Br.nt (by omega) ?_; conv => whnf)
    | (refine Br.nf (by omega) ?_; conv => whnf)
    | (refine Br.dec (fun hc => ?_) (fun hc => ?_) <;> conv => whnf)
    | (refine Br.ieq (fun hc => ?_) (fun hc => ?_) <;> conv => whnf)
    | (refine Br.ine (fun hc => ?_) (fun hc => ?_) <;> conv => whnf)
    | (refine Br.mk (fun hc => ?_) (fun hc => ?_) <;> conv => whnf)
    | (refine Wr.i64 (by omega) ?_; conv => whnf)
    | (refine Ck.mk (by omega) ?_; conv => whnf)
    | (refine Wr.i64 (by simp only [List.length_drop, List.length_take, List.length_append, List.length_cons, List.length_nil]; omega) ?_; conv => whnf)
    | (refine Ck.mk (by simp only [List.length_drop, List.length_take, List.length_append, List.length_cons, List.length_nil]; omega) ?_; conv => whnf)
    | (refine NewG.zeros rfl (fun bt h' hbt hn' => ?_); conv => whnf)
    | (refine NewG.mk (fun bt hbt => ?_); conv => whnf)
    | (refine LoadsG.made (by rfl) ?_; conv => whnf)
    | (refine New.appI (New.upd (by assumption) (by assumption) _) (by first | rfl | (simp; done) | omega | (simp; omega)) (by first | (simp; done) | omega | (simp; omega)) (by decide) (fun b' h' hn' ho' => ?_); conv => whnf)
    | (refine New.loadZ (by assumption) rfl (by first | (simp; done) | omega | (simp only [List.length_set, tab_length]; omega) | (simp; omega)) ?_; conv => whnf)
    | (refine Has.loadZ (by assumption) rfl (by first | (simp; done) | omega | (simp only [List.length_set, tab_length]; omega) | (simp; omega)) ?_; conv => whnf)
    | (refine New.storeZ (by assumption) rfl (by first | (simp; done) | omega | (simp only [List.length_set, tab_length]; omega) | (simp; omega)) (fun h' hn' ho' => ?_); conv => whnf)
    | (refine Own.storeZ (by assumption) rfl (by first | (simp; done) | omega | (simp only [List.length_set, tab_length]; omega) | (simp; omega)) (fun h' hn' ho' => ?_); conv => whnf)
    | (refine Wr.u8 (by omega) ?_; conv => whnf)
    | (refine Wr.u32 (by omega) ?_; conv => whnf)
    | (refine Wr.u64 (by omega) ?_; conv => whnf)
    | (refine New.loadS (by assumption) rfl (by first | (simp; done) | omega | (simp only [List.length_set, tab_length]; omega) | (simp; omega)) ?_; conv => whnf)
    | (refine Has.loadS (by assumption) rfl (by first | (simp; done) | omega | (simp only [List.length_set, tab_length]; omega) | (simp; omega)) ?_; conv => whnf)
    | (refine Own.storeS (by assumption) rfl (by first | (simp; done) | omega | (simp only [List.length_set, tab_length]; omega) | (simp; omega)) (fun h' hn' ho' => ?_); conv => whnf)
    | (refine New.appS (New.upd (by assumption) (by assumption) _) (by first | rfl | (simp; done) | omega | (simp; omega)) (by first | (simp; done) | omega | (simp; omega)) (by decide) (fun b' h' hn' ho' => ?_); conv => whnf)
    | (refine Ck.slice (by omega) (by omega) (by omega) (by decide) ?_; conv => whnf)
    | (refine Ck.mk (by simp; omega) ?_; conv => whnf))
  · exact ⟨congrArg AV.bool (by simp; omega), rfl⟩
  · exact ⟨congrArg AV.bool (by simp; omega), rfl⟩

/-- the first k bytes at the end -/
def shiftW (w : List UInt8) (k : Int) : List UInt8 × Bool :=
  if w.length ≤ 17 ∧ 0 ≤ k ∧ k ≤ max 0 ((w.length : Int) - 1) then (w.drop k.toNat ++ w.take k.toNat, true) else ([], false)

theorem shiftW_yes {w : List UInt8} {k : Int} (h : w.length ≤ 17 ∧ 0 ≤ k ∧ k ≤ max 0 ((w.length : Int) - 1)) : shiftW w k = (w.drop k.toNat ++ w.take k.toNat, true) := if_pos h
theorem shiftW_no {w : List UInt8} {k : Int} (h : ¬ (w.length ≤ 17 ∧ 0 ≤ k ∧ k ≤ max 0 ((w.length : Int) - 1))) : shiftW w k = ([], false) := if_neg h




end Go.Proofs.Ytcepogfmajlcjaa

/-
  Contracts of functions on words of letters are proved: counting, balanced words.
  They hold for all words within the size of an int.
-/
set_option linter.unusedVariables false
set_option linter.unusedSimpArgs false
namespace Go.Proofs.Ytcepogfmajlcjaa
open Go.Proofs.Ytcepogfmajlcjaa.Ab Go.Proofs.Ytcepogfmajlcjaa.Pl





end Go.Proofs.Ytcepogfmajlcjaa

/-
  Contracts of the tests of words are proved: words of Motzkin, of Schroeder and of Fuss.
  They hold for all words within the size of an int.
-/
set_option linter.unusedVariables false
set_option linter.unusedSimpArgs false
namespace Go.Proofs.Ytcepogfmajlcjaa
open Go.Proofs.Ytcepogfmajlcjaa.Ab Go.Proofs.Ytcepogfmajlcjaa.Pl










end Go.Proofs.Ytcepogfmajlcjaa

/-
  Contracts of numbers of words are proved: level steps, binomials, numbers of Fuss.
  They hold for all arguments within the sizes that the statements' code allows.
-/
set_option linter.unusedVariables false
set_option linter.unusedSimpArgs false
namespace Go.Proofs.Ytcepogfmajlcjaa
open Go.Proofs.Ytcepogfmajlcjaa.Ab Go.Proofs.Ytcepogfmajlcjaa.Pl


/-- level steps -/
def levels (w : List UInt8) : Int := if isMotzkin w then (cntB w 108 : Int) else -1






theorem l3Binomial_ok (n k : Nat) (hk : k ≤ n) (hn : n ≤ 1000) (hb : ∀ i : Nat, i ≤ k → 0 ≤ binI n i ∧ binI n i ≤ 1000000000) (h0 : H) : AC env 53 [.int .i64 n, .int .i64 k] h0 fun v h' => v = .int .i64 (binI n k) ∧ h' = h0 := by
  refine AC.enter Try.func53 Try.call53 rfl Try.ntmps53 (of_decide_eq_true (by rfl)) ?_
  repeat' (first
    | refine AW.seq ?_
    | (refine AW.region ?_; conv => whnf)
    | refine AW.block ?_
    | (refine AW.skip ?_; conv => whnf)
    | (refine AW.ret ?_; conv => whnf)
    | (refine AW.exit ?_; conv => whnf)
    | refine AW.cond (by rfl) ?_
    | (refine Br.tt ?_; conv => whnf)
    | (refine Br.ff ?_; conv => whnf)
    | refine Br.not ?_
    | (refine Br.t (beq_self_eq_true _) ?_; conv => whnf)
    | (refine Br.t (by assumption) ?_; conv => whnf)
    | (refine Br.f (by assumption) ?_; conv => whnf)
    | (refine Br.dt (by omega) ?_; conv => whnf)
    | (refine Br.df (by omega) ?_; conv => whnf)
    | (refine Br.it (by omega) ?_; conv => whnf)
    | (refine Br.if (by omega) ?_; conv => whnf)
    | (refine Br.nt (by omega) ?_; conv => whnf)
    | (refine Br.nf (by omega) ?_; conv => whnf)
    | (refine Br.dec (fun hc => ?_) (fun hc => ?_) <;> conv => whnf)
    | (refine Br.ieq (fun hc => ?_) (fun hc => ?_) <;> conv => whnf)
    | (refine Br.ine (fun hc => ?_) (fun hc => ?_) <;> conv => whnf)
    | (refine Br.mk (fun hc => ?_) (fun hc => ?_) <;> conv => whnf)
    | (refine Wr.i64 (by omega) ?_; conv => whnf)
    | (refine Ck.mk (by omega) ?_; conv => whnf)
    | (refine Wr.i64 (by simp only [List.length_drop, List.length_take, List.length_append, List.length_cons, List.length_nil]; omega) ?_; conv => whnf)
    | (refine Ck.mk (by simp only [List.length_drop, List.length_take, List.length_append, List.length_cons, List.length_nil]; omega) ?_; conv => whnf)
    | (refine NewG.zeros rfl (fun bt h' hbt hn' => ?_); conv => whnf)
    | (refine NewG.mk (fun bt hbt => ?_); conv => whnf)
    | (refine LoadsG.made (by rfl) ?_; conv => whnf)
    | (refine New.appI (New.upd (by assumption) (by assumption) _) (by first | rfl | (simp; done) | omega | (simp; omega)) (by first | (simp; done) | omega | (simp; omega)) (by decide) (fun b' h' hn' ho' => ?_); conv => whnf)
    | (refine New.loadZ (by assumption) rfl (by first | (simp; done) | omega | (simp only [List.length_set, tab_length]; omega) | (simp; omega)) ?_; conv => whnf)
    | (refine Has.loadZ (by assumption) rfl (by first | (simp; done) | omega | (simp only [List.length_set, tab_length]; omega) | (simp; omega)) ?_; conv => whnf)
    | (refine New.storeZ (by assumption) rfl (by first | (simp; done) | omega | (simp only [List.length_set, tab_length]; omega) | (simp; omega)) (fun h' hn' ho' => ?_); conv => whnf)
    | (refine Own.storeZ (by assumption) rfl (by first | (simp; done) | omega | (simp only [List.length_set, tab_length]; omega) | (simp; omega)) (fun h' hn' ho' => ?_); conv => whnf)
    | (refine Wr.u8 (by omega) ?_; conv => whnf)
    | (refine Wr.u32 (by omega) ?_; conv => whnf)
    | (refine Wr.u64 (by omega) ?_; conv => whnf)
    | (refine New.loadS (by assumption) rfl (by first | (simp; done) | omega | (simp only [List.length_set, tab_length]; omega) | (simp; omega)) ?_; conv => whnf)
    | (refine Has.loadS (by assumption) rfl (by first | (simp; done) | omega | (simp only [List.length_set, tab_length]; omega) | (simp; omega)) ?_; conv => whnf)
    | (refine Own.storeS (by assumption) rfl (by first | (simp; done) | omega | (simp only [List.length_set, tab_length]; omega) | (simp; omega)) (fun h' hn' ho' => ?_); conv => whnf)
    | (refine New.appS (New.upd (by assumption) (by assumption) _) (by first | rfl | (simp; done) | omega | (simp; omega)) (by first | (simp; done) | omega | (simp; omega)) (by decide) (fun b' h' hn' ho' => ?_); conv => whnf)
    | (refine Ck.slice (by omega) (by omega) (by omega) (by decide) ?_; conv => whnf)
    | (refine Ck.mk (by simp; omega) ?_; conv => whnf))
  refine AW.loop2 (fun (x i : Int) => [(0, .int .i64 n), (1, .int .i64 k), (5, .int .i64 x), (6, .int .i64 i)]) (fun x i h' => (∃ j : Nat, j ≤ k ∧ i = j ∧ x = binI n j) ∧ h' = h0) (fun _ i => (k - i).toNat) 1 0
    (Less.cons rfl (Less.cons rfl (Less.cons rfl (Less.cons rfl (Less.nil _))))) ⟨⟨0, by omega, rfl, rfl⟩, rfl⟩ ?_
  rintro x i h' ⟨⟨j, hj, rfl, rfl⟩, rfl⟩
  have b1 := hb j hj
  have b2 : binI n j * (n - j) ≤ 1000000000 * 2000 := Int.mul_le_mul b1.2 (by omega) (by omega) (by omega)
  have b3 : 0 ≤ binI n j * (n - j) := Int.mul_nonneg b1.1 (by omega)
  have b4 : j + 1 ≤ k → 0 ≤ binI n (j + 1) ∧ binI n (j + 1) ≤ 1000000000 := hb (j + 1)
  have b5 : binI n (j + 1) = (binI n j * (n - j)).tdiv (j + 1) := rfl
  rw [b5] at b4
  repeat' (first
    | refine AW.seq ?_
    | (refine AW.region ?_; conv => whnf)
    | refine AW.block ?_
    | (refine AW.skip ?_; conv => whnf)
    | (refine AW.ret ?_; conv => whnf)
    | (refine AW.exit ?_; conv => whnf)
    | refine AW.cond (by rfl) ?_
    | (refine Br.tt ?_; conv => whnf)
    | (refine Br.ff ?_; conv => whnf)
    | refine Br.not ?_
    | (refine Br.t (beq_self_eq_true _) ?_; conv => whnf)
    | (refine Br.t (by assumption) ?_; conv => whnf)
    | (refine Br.f (by assumption) ?_; conv => whnf)
    | (refine Br.dt (by omega) ?_; conv => whnf)
    | (refine Br.df (by omega) ?_; conv => whnf)
    | (refine Br.it (by omega) ?_; conv => whnf)
    | (refine Br.if (by omega) ?_; conv => whnf)
    | (refine Br.nt (by omega) ?_; conv => whnf)
    | (refine Br.nf (by omega) ?_; conv => whnf)
    | (refine Br.dec (fun hc => ?_) (fun hc => ?_) <;> conv => whnf)
    | (refine Br.ieq (fun hc => ?_) (fun hc => ?_) <;> conv => whnf)
    | (refine Br.ine (fun hc => ?_) (fun hc => ?_) <;> conv => whnf)
    | (refine Br.mk (fun hc => ?_) (fun hc => ?_) <;> conv => whnf)
    | (refine Wr.i64 (by omega) ?_; conv => whnf)
    | (refine Ck.mk (by omega) ?_; conv => whnf)
    | (refine Wr.i64 (by simp only [List.length_drop, List.length_take, List.length_append, List.length_cons, List.length_nil]; omega) ?_; conv => whnf)
    | (refine Ck.mk (by simp only [List.length_drop, List.length_take, List.length_append, List.length_cons, List.length_nil]; omega) ?_; conv => whnf)
    | (refine NewG.zeros rfl (fun bt h' hbt hn' => ?_); conv => whnf)
    | (refine NewG.mk (fun bt hbt => ?_); conv => whnf)
    | (refine LoadsG.made (by rfl) ?_; conv => whnf)
    | (refine New.appI (New.upd (by assumption) (by assumption) _) (by first | rfl | (simp; done) | omega | (simp; omega)) (by first | (simp; done) | omega | (simp; omega)) (by decide) (fun b' h' hn' ho' => ?_); conv => whnf)
    | (refine New.loadZ (by assumption) rfl (by first | (simp; done) | omega | (simp only [List.length_set, tab_length]; omega) | (simp; omega)) ?_; conv => whnf)
    | (refine Has.loadZ (by assumption) rfl (by first | (simp; done) | omega | (simp only [List.length_set, tab_length]; omega) | (simp; omega)) ?_; conv => whnf)
    | (refine New.storeZ (by assumption) rfl (by first | (simp; done) | omega | (simp only [List.length_set, tab_length]; omega) | (simp; omega)) (fun h' hn' ho' => ?_); conv => whnf)
    | (refine Own.storeZ (by assumption) rfl (by first | (simp; done) | omega | (simp only [List.length_set, tab_length]; omega) | (simp; omega)) (fun h' hn' ho' => ?_); conv => whnf)
    | (refine Wr.u8 (by omega) ?_; conv => whnf)
    | (refine Wr.u32 (by omega) ?_; conv => whnf)
    | (refine Wr.u64 (by omega) ?_; conv => whnf)
    | (refine New.loadS (by assumption) rfl (by first | (simp; done) | omega | (simp only [List.length_set, tab_length]; omega) | (simp; omega)) ?_; conv => whnf)
    | (refine Has.loadS (by assumption) rfl (by first | (simp; done) | omega | (simp only [List.length_set, tab_length]; omega) | (simp; omega)) ?_; conv => whnf)
    | (refine Own.storeS (by assumption) rfl (by first | (simp; done) | omega | (simp only [List.length_set, tab_length]; omega) | (simp; omega)) (fun h' hn' ho' => ?_); conv => whnf)
    | (refine New.appS (New.upd (by assumption) (by assumption) _) (by first | rfl | (simp; done) | omega | (simp; omega)) (by first | (simp; done) | omega | (simp; omega)) (by decide) (fun b' h' hn' ho' => ?_); conv => whnf)
    | (refine Ck.slice (by omega) (by omega) (by omega) (by decide) ?_; conv => whnf)
    | (refine Ck.mk (by simp; omega) ?_; conv => whnf))
  · exact ⟨_, _, (Less.cons rfl (Less.cons rfl (Less.cons rfl (Less.cons rfl (Less.nil _))))), ⟨⟨j + 1, by omega, by omega, rfl⟩, rfl⟩, by omega⟩
  · have e : j = k := by omega
    subst e
    exact ⟨rfl, rfl⟩

theorem l3Binomial_at (n k : Int) (h : 0 ≤ k ∧ k ≤ n ∧ n ≤ 1000) (hb : binFine n.toNat k.toNat = true) (h0 : H) : AC env 53 [.int .i64 n, .int .i64 k] h0 fun v h' => v = .int .i64 (binI n k.toNat) ∧ h' = h0 := by
  obtain ⟨a, rfl⟩ := Int.eq_ofNat_of_zero_le (show 0 ≤ n by omega)
  obtain ⟨b, rfl⟩ := Int.eq_ofNat_of_zero_le (show 0 ≤ k by omega)
  exact l3Binomial_ok a b (by omega) (by omega) (binFine_b hb) h0




end Go.Proofs.Ytcepogfmajlcjaa

/-
  Contracts of functions that make rows of numbers are proved: heights, paths, diagrams of the identity and of hooks.
  They hold for all arguments within the sizes that the statements' code allows.
-/
set_option linter.unusedVariables false
set_option linter.unusedSimpArgs false
namespace Go.Proofs.Ytcepogfmajlcjaa
open Go.Proofs.Ytcepogfmajlcjaa.Ab Go.Proofs.Ytcepogfmajlcjaa.Pl




/-- a word of a circle -/
def circle (w : List UInt8) (k : Int) : List UInt8 × Bool := if isDyck w then shiftW (w ++ [100]) k else ([], false)




end Go.Proofs.Ytcepogfmajlcjaa

/-
  Contracts of functions that make rows of numbers are proved: rows that are equal, marked and held, and diagrams of the identity and of hooks.
  They hold for all arguments within the sizes that the statements' code allows.
-/
set_option linter.unusedVariables false
set_option linter.unusedSimpArgs false
namespace Go.Proofs.Ytcepogfmajlcjaa
open Go.Proofs.Ytcepogfmajlcjaa.Ab Go.Proofs.Ytcepogfmajlcjaa.Pl

theorem eqIntS_ok (l : List Int) (b c N C D : Nat) (h0 : H) (hb : Has h0 b (ints l)) (hc' : Has h0 c (ints l)) (hN : N = l.length) (hl : N ≤ 1000000000) : AC env 20 [.slice b 0 N C, .slice c 0 N D] h0 fun v h' => v = .bool true ∧ h' = h0 := by
  refine AC.enter Try.func20 Try.call20 rfl Try.ntmps20 (of_decide_eq_true (by rfl)) ?_
  repeat' (first
    | refine AW.seq ?_
    | (refine AW.region ?_; conv => whnf)
    | refine AW.block ?_
    | (refine AW.skip ?_; conv => whnf)
    | (refine AW.ret ?_; conv => whnf)
    | (refine AW.exit ?_; conv => whnf)
    | refine AW.cond (by rfl) ?_
    | (refine AW.draw (id := 6) (.p 0 (.p 1 (.p 2 (.p 4 (.p 5 (.p 6 (.r 3 [8] (.r 7 [8] (.p 8 .done))))))))) (by kernel_rfl) (by kernel_rfl) ?_; conv => whnf)
    | (refine Br.tt ?_; conv => whnf)
    | (refine Br.ff ?_; conv => whnf)
    | refine Br.not ?_
    | (refine Br.t (beq_self_eq_true _) ?_; conv => whnf)
    | (refine Br.t (by assumption) ?_; conv => whnf)
    | (refine Br.f (by assumption) ?_; conv => whnf)
    | (refine Br.dt (by omega) ?_; conv => whnf)
    | (refine Br.df (by omega) ?_; conv => whnf)
    | (refine Br.it (by omega) ?_; conv => whnf)
    | (refine Br.if (by omega) ?_; conv => whnf)
    | (refine Br.nt (by omega) ?_; conv => whnf)
    | (refine Br.nf (by omega) ?_; conv => whnf)
    | (refine Br.dec (fun hc => ?_) (fun hc => ?_) <;> conv => whnf)
    | (refine Br.ieq (fun hc => ?_) (fun hc => ?_) <;> conv => whnf)
    | (refine Br.ine (fun hc => ?_) (fun hc => ?_) <;> conv => whnf)
    | (refine Br.mk (fun hc => ?_) (fun hc => ?_) <;> conv => whnf)
    | (refine Wr.i64 (by omega) ?_; conv => whnf)
    | (refine Ck.mk (by omega) ?_; conv => whnf)
    | (refine Wr.i64 (by simp only [List.length_drop, List.length_take, List.length_append, List.length_cons, List.length_nil]; omega) ?_; conv => whnf)
    | (refine Ck.mk (by simp only [List.length_drop, List.length_take, List.length_append, List.length_cons, List.length_nil]; omega) ?_; conv => whnf)
    | (refine NewG.zeros rfl (fun bt h' hbt hn' => ?_); conv => whnf)
    | (refine NewG.mk (fun bt hbt => ?_); conv => whnf)
    | (refine LoadsG.made (by rfl) ?_; conv => whnf)
    | (refine New.appI (New.upd (by assumption) (by assumption) _) (by first | rfl | (simp; done) | omega | (simp; omega)) (by first | (simp; done) | omega | (simp; omega)) (by decide) (fun b' h' hn' ho' => ?_); conv => whnf)
    | (refine New.loadZ (by assumption) rfl (by first | (simp; done) | omega | (simp only [List.length_set, tab_length]; omega) | (simp; omega)) ?_; conv => whnf)
    | (refine Has.loadZ (by assumption) rfl (by first | (simp; done) | omega | (simp only [List.length_set, tab_length]; omega) | (simp; omega)) ?_; conv => whnf)
    | (refine New.storeZ (by assumption) rfl (by first | (simp; done) | omega | (simp only [List.length_set, tab_length]; omega) | (simp; omega)) (fun h' hn' ho' => ?_); conv => whnf)
    | (refine Own.storeZ (by assumption) rfl (by first | (simp; done) | omega | (simp only [List.length_set, tab_length]; omega) | (simp; omega)) (fun h' hn' ho' => ?_); conv => whnf)
    | (refine Wr.u8 (by omega) ?_; conv => whnf)
    | (refine Wr.u32 (by omega) ?_; conv => whnf)
    | (refine Wr.u64 (by omega) ?_; conv => whnf)
    | (refine New.loadS (by assumption) rfl (by first | (simp; done) | omega | (simp only [List.length_set, tab_length]; omega) | (simp; omega)) ?_; conv => whnf)
    | (refine Has.loadS (by assumption) rfl (by first | (simp; done) | omega | (simp only [List.length_set, tab_length]; omega) | (simp; omega)) ?_; conv => whnf)
    | (refine Own.storeS (by assumption) rfl (by first | (simp; done) | omega | (simp only [List.length_set, tab_length]; omega) | (simp; omega)) (fun h' hn' ho' => ?_); conv => whnf)
    | (refine New.appS (New.upd (by assumption) (by assumption) _) (by first | rfl | (simp; done) | omega | (simp; omega)) (by first | (simp; done) | omega | (simp; omega)) (by decide) (fun b' h' hn' ho' => ?_); conv => whnf)
    | (refine Ck.slice (by omega) (by omega) (by omega) (by decide) ?_; conv => whnf)
    | (refine Ck.mk (by simp; omega) ?_; conv => whnf))
  refine AW.loop1 (fun (k : Nat) => [(0, .slice b 0 N C), (1, .slice c 0 N D), (5, .int .i64 k)]) (fun k h' => k ≤ N ∧ h' = h0) (fun k => N - k) 0 (Less.cons rfl (Less.cons rfl (Less.cons rfl (Less.nil _)))) ⟨by omega, rfl⟩ ?_
  rintro k h' ⟨hk, rfl⟩
  repeat' (first
    | refine AW.seq ?_
    | (refine AW.region ?_; conv => whnf)
    | refine AW.block ?_
    | (refine AW.skip ?_; conv => whnf)
    | (refine AW.ret ?_; conv => whnf)
    | (refine AW.exit ?_; conv => whnf)
    | refine AW.cond (by rfl) ?_
    | (refine AW.draw (id := 6) (.p 0 (.p 1 (.p 2 (.p 4 (.p 5 (.p 6 (.r 3 [8] (.r 7 [8] (.p 8 .done))))))))) (by kernel_rfl) (by kernel_rfl) ?_; conv => whnf)
    | (refine Br.tt ?_; conv => whnf)
    | (refine Br.ff ?_; conv => whnf)
    | refine Br.not ?_
    | (refine Br.t (beq_self_eq_true _) ?_; conv => whnf)
    | (refine Br.t (by assumption) ?_; conv => whnf)
    | (refine Br.f (by assumption) ?_; conv => whnf)
    | (refine Br.dt (by omega) ?_; conv => whnf)
    | (refine Br.df (by omega) ?_; conv => whnf)
    | (refine Br.it (by omega) ?_; conv => whnf)
    | (refine Br.if (by omega) ?_; conv => whnf)
    | (refine Br.nt (by omega) ?_; conv => whnf)
    | (refine Br.nf (by omega) ?_; conv => whnf)
    | (refine Br.dec (fun hc => ?_) (fun hc => ?_) <;> conv => whnf)
    | (refine Br.ieq (fun hc => ?_) (fun hc => ?_) <;> conv => whnf)
    | (refine Br.ine (fun hc => ?_) (fun hc => ?_) <;> conv => whnf)
    | (refine Br.mk (fun hc => ?_) (fun hc => ?_) <;> conv => whnf)
    | (refine Wr.i64 (by omega) ?_; conv => whnf)
    | (refine Ck.mk (by omega) ?_; conv => whnf)
    | (refine Wr.i64 (by simp only [List.length_drop, List.length_take, List.length_append, List.length_cons, List.length_nil]; omega) ?_; conv => whnf)
    | (refine Ck.mk (by simp only [List.length_drop, List.length_take, List.length_append, List.length_cons, List.length_nil]; omega) ?_; conv => whnf)
    | (refine NewG.zeros rfl (fun bt h' hbt hn' => ?_); conv => whnf)
    | (refine NewG.mk (fun bt hbt => ?_); conv => whnf)
    | (refine LoadsG.made (by rfl) ?_; conv => whnf)
    | (refine New.appI (New.upd (by assumption) (by assumption) _) (by first | rfl | (simp; done) | omega | (simp; omega)) (by first | (simp; done) | omega | (simp; omega)) (by decide) (fun b' h' hn' ho' => ?_); conv => whnf)
    | (refine New.loadZ (by assumption) rfl (by first | (simp; done) | omega | (simp only [List.length_set, tab_length]; omega) | (simp; omega)) ?_; conv => whnf)
    | (refine Has.loadZ (by assumption) rfl (by first | (simp; done) | omega | (simp only [List.length_set, tab_length]; omega) | (simp; omega)) ?_; conv => whnf)
    | (refine New.storeZ (by assumption) rfl (by first | (simp; done) | omega | (simp only [List.length_set, tab_length]; omega) | (simp; omega)) (fun h' hn' ho' => ?_); conv => whnf)
    | (refine Own.storeZ (by assumption) rfl (by first | (simp; done) | omega | (simp only [List.length_set, tab_length]; omega) | (simp; omega)) (fun h' hn' ho' => ?_); conv => whnf)
    | (refine Wr.u8 (by omega) ?_; conv => whnf)
    | (refine Wr.u32 (by omega) ?_; conv => whnf)
    | (refine Wr.u64 (by omega) ?_; conv => whnf)
    | (refine New.loadS (by assumption) rfl (by first | (simp; done) | omega | (simp only [List.length_set, tab_length]; omega) | (simp; omega)) ?_; conv => whnf)
    | (refine Has.loadS (by assumption) rfl (by first | (simp; done) | omega | (simp only [List.length_set, tab_length]; omega) | (simp; omega)) ?_; conv => whnf)
    | (refine Own.storeS (by assumption) rfl (by first | (simp; done) | omega | (simp only [List.length_set, tab_length]; omega) | (simp; omega)) (fun h' hn' ho' => ?_); conv => whnf)
    | (refine New.appS (New.upd (by assumption) (by assumption) _) (by first | rfl | (simp; done) | omega | (simp; omega)) (by first | (simp; done) | omega | (simp; omega)) (by decide) (fun b' h' hn' ho' => ?_); conv => whnf)
    | (refine Ck.slice (by omega) (by omega) (by omega) (by decide) ?_; conv => whnf)
    | (refine Ck.mk (by simp; omega) ?_; conv => whnf))
  · exact ⟨k + 1, (Less.cons rfl (Less.cons rfl (Less.cons rfl (Less.nil _)))), ⟨by omega, rfl⟩, by omega⟩
  · exact ⟨rfl, rfl⟩

/-- marked rows -/
def iota (k : Int) (n : Nat) : List Int := tab n fun j => k + j

theorem markIntS_ok (l : List Int) (b N C : Nat) (k : Int) (h0 : H) (hb : Own h0 b (ints l)) (hN : N = l.length) (hl : N ≤ 1000000000) (hk : 0 ≤ k ∧ k ≤ 1000000000) : AC env 24 [.slice b 0 N C, .int .i64 k] h0 fun v h' => v = .int .i64 (k + N) ∧ Own h' b (ints (iota k N)) ∧ Oth b h0 h' := by
  refine AC.enter Try.func24 Try.call24 rfl Try.ntmps24 (of_decide_eq_true (by rfl)) ?_
  repeat' (first
    | refine AW.seq ?_
    | (refine AW.region ?_; conv => whnf)
    | refine AW.block ?_
    | (refine AW.skip ?_; conv => whnf)
    | (refine AW.ret ?_; conv => whnf)
    | (refine AW.exit ?_; conv => whnf)
    | refine AW.cond (by rfl) ?_
    | (refine Br.tt ?_; conv => whnf)
    | (refine Br.ff ?_; conv => whnf)
    | refine Br.not ?_
    | (refine Br.t (beq_self_eq_true _) ?_; conv => whnf)
    | (refine Br.t (by assumption) ?_; conv => whnf)
    | (refine Br.f (by assumption) ?_; conv => whnf)
    | (refine Br.dt (by omega) ?_; conv => whnf)
    | (refine Br.df (by omega) ?_; conv => whnf)
    | (refine Br.it (by omega) ?_; conv => whnf)
    | (refine Br.if (by omega) ?_; conv => whnf)
    | (refine Br.nt (by omega) ?_; conv => whnf)
    | (refine Br.nf (by omega) ?_; conv => whnf)
    | (refine Br.dec (fun hc => ?_) (fun hc => ?_) <;> conv => whnf)
    | (refine Br.ieq (fun hc => ?_) (fun hc => ?_) <;> conv => whnf)
    | (refine Br.ine (fun hc => ?_) (fun hc => ?_) <;> conv => whnf)
    | (refine Br.mk (fun hc => ?_) (fun hc => ?_) <;> conv => whnf)
    | (refine Wr.i64 (by omega) ?_; conv => whnf)
    | (refine Ck.mk (by omega) ?_; conv => whnf)
    | (refine Wr.i64 (by simp only [List.length_drop, List.length_take, List.length_append, List.length_cons, List.length_nil]; omega) ?_; conv => whnf)
    | (refine Ck.mk (by simp only [List.length_drop, List.length_take, List.length_append, List.length_cons, List.length_nil]; omega) ?_; conv => whnf)
    | (refine NewG.zeros rfl (fun bt h' hbt hn' => ?_); conv => whnf)
    | (refine NewG.mk (fun bt hbt => ?_); conv => whnf)
    | (refine LoadsG.made (by rfl) ?_; conv => whnf)
    | (refine New.appI (New.upd (by assumption) (by assumption) _) (by first | rfl | (simp; done) | omega | (simp; omega)) (by first | (simp; done) | omega | (simp; omega)) (by decide) (fun b' h' hn' ho' => ?_); conv => whnf)
    | (refine New.loadZ (by assumption) rfl (by first | (simp; done) | omega | (simp only [List.length_set, tab_length]; omega) | (simp; omega)) ?_; conv => whnf)
    | (refine Has.loadZ (by assumption) rfl (by first | (simp; done) | omega | (simp only [List.length_set, tab_length]; omega) | (simp; omega)) ?_; conv => whnf)
    | (refine New.storeZ (by assumption) rfl (by first | (simp; done) | omega | (simp only [List.length_set, tab_length]; omega) | (simp; omega)) (fun h' hn' ho' => ?_); conv => whnf)
    | (refine Own.storeZ (by assumption) rfl (by first | (simp; done) | omega | (simp only [List.length_set, tab_length]; omega) | (simp; omega)) (fun h' hn' ho' => ?_); conv => whnf)
    | (refine Wr.u8 (by omega) ?_; conv => whnf)
    | (refine Wr.u32 (by omega) ?_; conv => whnf)
    | (refine Wr.u64 (by omega) ?_; conv => whnf)
    | (refine New.loadS (by assumption) rfl (by first | (simp; done) | omega | (simp only [List.length_set, tab_length]; omega) | (simp; omega)) ?_; conv => whnf)
    | (refine Has.loadS (by assumption) rfl (by first | (simp; done) | omega | (simp only [List.length_set, tab_length]; omega) | (simp; omega)) ?_; conv => whnf)
    | (refine Own.storeS (by assumption) rfl (by first | (simp; done) | omega | (simp only [List.length_set, tab_length]; omega) | (simp; omega)) (fun h' hn' ho' => ?_); conv => whnf)
    | (refine New.appS (New.upd (by assumption) (by assumption) _) (by first | rfl | (simp; done) | omega | (simp; omega)) (by first | (simp; done) | omega | (simp; omega)) (by decide) (fun b' h' hn' ho' => ?_); conv => whnf)
    | (refine Ck.slice (by omega) (by omega) (by omega) (by decide) ?_; conv => whnf)
    | (refine Ck.mk (by simp; omega) ?_; conv => whnf))
  refine AW.loop2 (fun (j : Nat) (x : Int) => [(0, .slice b 0 N C), (1, .int .i64 x), (5, .int .i64 j)]) (fun j x h' => x = k + j ∧ j ≤ N ∧ Own h' b (ints (tab N fun i => if i < j then k + i else l.getD i 0)) ∧ Oth b h0 h') (fun j _ => N - j) 0 k (Less.cons rfl (Less.cons rfl (Less.cons rfl (Less.nil _))))
    ⟨by omega, by omega, by have e := tab_of l; rw [← hN] at e; simpa using e ▸ hb, Oth.refl _ _⟩ ?_
  rintro j x h' ⟨rfl, hj, hb, ho⟩
  repeat' (first
    | refine AW.seq ?_
    | (refine AW.region ?_; conv => whnf)
    | refine AW.block ?_
    | (refine AW.skip ?_; conv => whnf)
    | (refine AW.ret ?_; conv => whnf)
    | (refine AW.exit ?_; conv => whnf)
    | refine AW.cond (by rfl) ?_
    | (refine Br.tt ?_; conv => whnf)
    | (refine Br.ff ?_; conv => whnf)
    | refine Br.not ?_
    | (refine Br.t (beq_self_eq_true _) ?_; conv => whnf)
    | (refine Br.t (by assumption) ?_; conv => whnf)
    | (refine Br.f (by assumption) ?_; conv => whnf)
    | (refine Br.dt (by omega) ?_; conv => whnf)
    | (refine Br.df (by omega) ?_; conv => whnf)
    | (refine Br.it (by omega) ?_; conv => whnf)
    | (refine Br.if (by omega) ?_; conv => whnf)
    | (refine Br.nt (by omega) ?_; conv => whnf)
    | (refine Br.nf (by omega) ?_; conv => whnf)
    | (refine Br.dec (fun hc => ?_) (fun hc => ?_) <;> conv => whnf)
    | (refine Br.ieq (fun hc => ?_) (fun hc => ?_) <;> conv => whnf)
    | (refine Br.ine (fun hc => ?_) (fun hc => ?_) <;> conv => whnf)
    | (refine Br.mk (fun hc => ?_) (fun hc => ?_) <;> conv => whnf)
    | (refine Wr.i64 (by omega) ?_; conv => whnf)
    | (refine Ck.mk (by omega) ?_; conv => whnf)
    | (refine Wr.i64 (by simp only [List.length_drop, List.length_take, List.length_append, List.length_cons, List.length_nil]; omega) ?_; conv => whnf)
    | (refine Ck.mk (by simp only [List.length_drop, List.length_take, List.length_append, List.length_cons, List.length_nil]; omega) ?_; conv => whnf)
    | (refine NewG.zeros rfl (fun bt h' hbt hn' => ?_); conv => whnf)
    | (refine NewG.mk (fun bt hbt => ?_); conv => whnf)
    | (refine LoadsG.made (by rfl) ?_; conv => whnf)
    | (refine New.appI (New.upd (by assumption) (by assumption) _) (by first | rfl | (simp; done) | omega | (simp; omega)) (by first | (simp; done) | omega | (simp; omega)) (by decide) (fun b' h' hn' ho' => ?_); conv => whnf)
    | (refine New.loadZ (by assumption) rfl (by first | (simp; done) | omega | (simp only [List.length_set, tab_length]; omega) | (simp; omega)) ?_; conv => whnf)
    | (refine Has.loadZ (by assumption) rfl (by first | (simp; done) | omega | (simp only [List.length_set, tab_length]; omega) | (simp; omega)) ?_; conv => whnf)
    | (refine New.storeZ (by assumption) rfl (by first | (simp; done) | omega | (simp only [List.length_set, tab_length]; omega) | (simp; omega)) (fun h' hn' ho' => ?_); conv => whnf)
    | (refine Own.storeZ (by assumption) rfl (by first | (simp; done) | omega | (simp only [List.length_set, tab_length]; omega) | (simp; omega)) (fun h' hn' ho' => ?_); conv => whnf)
    | (refine Wr.u8 (by omega) ?_; conv => whnf)
    | (refine Wr.u32 (by omega) ?_; conv => whnf)
    | (refine Wr.u64 (by omega) ?_; conv => whnf)
    | (refine New.loadS (by assumption) rfl (by first | (simp; done) | omega | (simp only [List.length_set, tab_length]; omega) | (simp; omega)) ?_; conv => whnf)
    | (refine Has.loadS (by assumption) rfl (by first | (simp; done) | omega | (simp only [List.length_set, tab_length]; omega) | (simp; omega)) ?_; conv => whnf)
    | (refine Own.storeS (by assumption) rfl (by first | (simp; done) | omega | (simp only [List.length_set, tab_length]; omega) | (simp; omega)) (fun h' hn' ho' => ?_); conv => whnf)
    | (refine New.appS (New.upd (by assumption) (by assumption) _) (by first | rfl | (simp; done) | omega | (simp; omega)) (by first | (simp; done) | omega | (simp; omega)) (by decide) (fun b' h' hn' ho' => ?_); conv => whnf)
    | (refine Ck.slice (by omega) (by omega) (by omega) (by decide) ?_; conv => whnf)
    | (refine Ck.mk (by simp; omega) ?_; conv => whnf))
  · have e : (tab N fun i => if i < j then k + (i : Int) else l.getD i 0).set (j : Int).toNat (k + j) = tab N fun i => if i < j + 1 then k + (i : Int) else l.getD i 0 := by
      rw [tab_set]
      exact tab_congr fun i hi => by
        simp only [Int.toNat_natCast]
        split <;> split <;> (try split) <;> first | rfl | omega
    rw [e] at hn'
    exact ⟨j + 1, _, (Less.cons rfl (Less.cons rfl (Less.cons rfl (Less.nil _)))), ⟨by omega, by omega, hn', ho.trans ho'⟩, by omega⟩
  · have e : j = N := by omega
    subst e
    have e : (tab j fun i => if i < j then k + (i : Int) else l.getD i 0) = iota k j := tab_congr fun i hi => by rw [if_pos hi]
    rw [e] at hb
    exact ⟨rfl, hb, ho⟩

theorem heldIntS_ok (b N C : Nat) (k : Int) (h0 : H) (hb : Has h0 b (ints (iota k N))) (hl : N ≤ 1000000000) (hk : 0 ≤ k ∧ k ≤ 1000000000) : AC env 39 [.slice b 0 N C, .int .i64 k] h0 fun v h' => v = .int .i64 (k + N) ∧ h' = h0 := by
  refine AC.enter Try.func39 Try.call39 rfl Try.ntmps39 (of_decide_eq_true (by rfl)) ?_
  repeat' (first
    | refine AW.seq ?_
    | (refine AW.region ?_; conv => whnf)
    | refine AW.block ?_
    | (refine AW.skip ?_; conv => whnf)
    | (refine AW.ret ?_; conv => whnf)
    | (refine AW.exit ?_; conv => whnf)
    | refine AW.cond (by rfl) ?_
    | (refine Br.tt ?_; conv => whnf)
    | (refine Br.ff ?_; conv => whnf)
    | refine Br.not ?_
    | (refine Br.t (beq_self_eq_true _) ?_; conv => whnf)
    | (refine Br.t (by assumption) ?_; conv => whnf)
    | (refine Br.f (by assumption) ?_; conv => whnf)
    | (refine Br.dt (by omega) ?_; conv => whnf)
    | (refine Br.df (by omega) ?_; conv => whnf)
    | (refine Br.it (by omega) ?_; conv => whnf)
    | (refine Br.if (by omega) ?_; conv => whnf)
    | (refine Br.nt (by omega) ?_; conv => whnf)
    | (refine Br.nf (by omega) ?_; conv => whnf)
    | (refine Br.dec (fun hc => ?_) (fun hc => ?_) <;> conv => whnf)
    | (refine Br.ieq (fun hc => ?_) (fun hc => ?_) <;> conv => whnf)
    | (refine Br.ine (fun hc => ?_) (fun hc => ?_) <;> conv => whnf)
    | (refine Br.mk (fun hc => ?_) (fun hc => ?_) <;> conv => whnf)
    | (refine Wr.i64 (by omega) ?_; conv => whnf)
    | (refine Ck.mk (by omega) ?_; conv => whnf)
    | (refine Wr.i64 (by simp only [List.length_drop, List.length_take, List.length_append, List.length_cons, List.length_nil]; omega) ?_; conv => whnf)
    | (refine Ck.mk (by simp only [List.length_drop, List.length_take, List.length_append, List.length_cons, List.length_nil]; omega) ?_; conv => whnf)
    | (refine NewG.zeros rfl (fun bt h' hbt hn' => ?_); conv => whnf)
    | (refine NewG.mk (fun bt hbt => ?_); conv => whnf)
    | (refine LoadsG.made (by rfl) ?_; conv => whnf)
    | (refine New.appI (New.upd (by assumption) (by assumption) _) (by first | rfl | (simp; done) | omega | (simp; omega)) (by first | (simp; done) | omega | (simp; omega)) (by decide) (fun b' h' hn' ho' => ?_); conv => whnf)
    | (refine New.loadZ (by assumption) rfl (by first | (simp; done) | omega | (simp only [List.length_set, tab_length]; omega) | (simp; omega)) ?_; conv => whnf)
    | (refine Has.loadZ (by assumption) rfl (by first | (simp; done) | omega | (simp only [List.length_set, tab_length]; omega) | (simp; omega)) ?_; conv => whnf)
    | (refine New.storeZ (by assumption) rfl (by first | (simp; done) | omega | (simp only [List.length_set, tab_length]; omega) | (simp; omega)) (fun h' hn' ho' => ?_); conv => whnf)
    | (refine Own.storeZ (by assumption) rfl (by first | (simp; done) | omega | (simp only [List.length_set, tab_length]; omega) | (simp; omega)) (fun h' hn' ho' => ?_); conv => whnf)
    | (refine Wr.u8 (by omega) ?_; conv => whnf)
    | (refine Wr.u32 (by omega) ?_; conv => whnf)
    | (refine Wr.u64 (by omega) ?_; conv => whnf)
    | (refine New.loadS (by assumption) rfl (by first | (simp; done) | omega | (simp only [List.length_set, tab_length]; omega) | (simp; omega)) ?_; conv => whnf)
    | (refine Has.loadS (by assumption) rfl (by first | (simp; done) | omega | (simp only [List.length_set, tab_length]; omega) | (simp; omega)) ?_; conv => whnf)
    | (refine Own.storeS (by assumption) rfl (by first | (simp; done) | omega | (simp only [List.length_set, tab_length]; omega) | (simp; omega)) (fun h' hn' ho' => ?_); conv => whnf)
    | (refine New.appS (New.upd (by assumption) (by assumption) _) (by first | rfl | (simp; done) | omega | (simp; omega)) (by first | (simp; done) | omega | (simp; omega)) (by decide) (fun b' h' hn' ho' => ?_); conv => whnf)
    | (refine Ck.slice (by omega) (by omega) (by omega) (by decide) ?_; conv => whnf)
    | (refine Ck.mk (by simp; omega) ?_; conv => whnf))
  refine AW.loop2 (fun (j : Nat) (x : Int) => [(0, .slice b 0 N C), (1, .int .i64 x), (5, .int .i64 j)]) (fun j x h' => x = k + j ∧ j ≤ N ∧ h' = h0) (fun j _ => N - j) 0 k (Less.cons rfl (Less.cons rfl (Less.cons rfl (Less.nil _)))) ⟨by omega, by omega, rfl⟩ ?_
  rintro j x h' ⟨rfl, hj, rfl⟩
  have e : j < N → (iota k N).getD (j : Int).toNat 0 = k + j := fun hj => tab_getD _ (by simpa using hj)
  have e2 : (iota k N).length = N := tab_length _ _
  repeat' (first
    | refine AW.seq ?_
    | (refine AW.region ?_; conv => whnf)
    | refine AW.block ?_
    | (refine AW.skip ?_; conv => whnf)
    | (refine AW.ret ?_; conv => whnf)
    | (refine AW.exit ?_; conv => whnf)
    | refine AW.cond (by rfl) ?_
    | (refine Br.tt ?_; conv => whnf)
    | (refine Br.ff ?_; conv => whnf)
    | refine Br.not ?_
    | (refine Br.t (beq_self_eq_true _) ?_; conv => whnf)
    | (refine Br.t (by assumption) ?_; conv => whnf)
    | (refine Br.f (by assumption) ?_; conv => whnf)
    | (refine Br.dt (by omega) ?_; conv => whnf)
    | (refine Br.df (by omega) ?_; conv => whnf)
    | (refine Br.it (by omega) ?_; conv => whnf)
    | (refine Br.if (by omega) ?_; conv => whnf)
    | (refine Br.nt (by omega) ?_; conv => whnf)
    | (refine Br.nf (by omega) ?_; conv => whnf)
    | (refine Br.dec (fun hc => ?_) (fun hc => ?_) <;> conv => whnf)
    | (refine Br.ieq (fun hc => ?_) (fun hc => ?_) <;> conv => whnf)
    | (refine Br.ine (fun hc => ?_) (fun hc => ?_) <;> conv => whnf)
    | (refine Br.mk (fun hc => ?_) (fun hc => ?_) <;> conv => whnf)
    | (refine Wr.i64 (by omega) ?_; conv => whnf)
    | (refine Ck.mk (by omega) ?_; conv => whnf)
    | (refine Wr.i64 (by simp only [List.length_drop, List.length_take, List.length_append, List.length_cons, List.length_nil]; omega) ?_; conv => whnf)
    | (refine Ck.mk (by simp only [List.length_drop, List.length_take, List.length_append, List.length_cons, List.length_nil]; omega) ?_; conv => whnf)
    | (refine NewG.zeros rfl (fun bt h' hbt hn' => ?_); conv => whnf)
    | (refine NewG.mk (fun bt hbt => ?_); conv => whnf)
    | (refine LoadsG.made (by rfl) ?_; conv => whnf)
    | (refine New.appI (New.upd (by assumption) (by assumption) _) (by first | rfl | (simp; done) | omega | (simp; omega)) (by first | (simp; done) | omega | (simp; omega)) (by decide) (fun b' h' hn' ho' => ?_); conv => whnf)
    | (refine New.loadZ (by assumption) rfl (by first | (simp; done) | omega | (simp only [List.length_set, tab_length]; omega) | (simp; omega)) ?_; conv => whnf)
    | (refine Has.loadZ (by assumption) rfl (by first | (simp; done) | omega | (simp only [List.length_set, tab_length]; omega) | (simp; omega)) ?_; conv => whnf)
    | (refine New.storeZ (by assumption) rfl (by first | (simp; done) | omega | (simp only [List.length_set, tab_length]; omega) | (simp; omega)) (fun h' hn' ho' => ?_); conv => whnf)
    | (refine Own.storeZ (by assumption) rfl (by first | (simp; done) | omega | (simp only [List.length_set, tab_length]; omega) | (simp; omega)) (fun h' hn' ho' => ?_); conv => whnf)
    | (refine Wr.u8 (by omega) ?_; conv => whnf)
    | (refine Wr.u32 (by omega) ?_; conv => whnf)
    | (refine Wr.u64 (by omega) ?_; conv => whnf)
    | (refine New.loadS (by assumption) rfl (by first | (simp; done) | omega | (simp only [List.length_set, tab_length]; omega) | (simp; omega)) ?_; conv => whnf)
    | (refine Has.loadS (by assumption) rfl (by first | (simp; done) | omega | (simp only [List.length_set, tab_length]; omega) | (simp; omega)) ?_; conv => whnf)
    | (refine Own.storeS (by assumption) rfl (by first | (simp; done) | omega | (simp only [List.length_set, tab_length]; omega) | (simp; omega)) (fun h' hn' ho' => ?_); conv => whnf)
    | (refine New.appS (New.upd (by assumption) (by assumption) _) (by first | rfl | (simp; done) | omega | (simp; omega)) (by first | (simp; done) | omega | (simp; omega)) (by decide) (fun b' h' hn' ho' => ?_); conv => whnf)
    | (refine Ck.slice (by omega) (by omega) (by omega) (by decide) ?_; conv => whnf)
    | (refine Ck.mk (by simp; omega) ?_; conv => whnf))
  · exact ⟨j + 1, _, (Less.cons rfl (Less.cons rfl (Less.cons rfl (Less.nil _)))), ⟨by omega, by omega, rfl⟩, by omega⟩
  · exact ⟨congrArg _ (by omega), rfl⟩

end Go.Proofs.Ytcepogfmajlcjaa

/-
  Contracts of the diagrams of the identity and of hooks are proved.
  They hold for all arguments.
-/
set_option linter.unusedVariables false
set_option linter.unusedSimpArgs false
namespace Go.Proofs.Ytcepogfmajlcjaa
open Go.Proofs.Ytcepogfmajlcjaa.Ab Go.Proofs.Ytcepogfmajlcjaa.Pl

/-- a row of numbers and whether there is one -/
def RetI (p : List Int × Bool) (h0 : H) (v : AV) (h' : H) : Prop := ∃ b, v = .tup [.slice b 0 p.1.length p.1.length, .bool p.2] ∧ New h0 h' b (ints p.1)

theorem RetI.mk' {p : List Int × Bool} {h0 h' : H} {b n : Nat} {l : List Int} {t : Bool} (e : p = (l, t)) (hn : n = l.length) (m : New h0 h' b (ints l)) : RetI p h0 (.tup [.slice b 0 n n, .bool t]) h' := by
  subst e hn
  exact ⟨b, rfl, m⟩

/-- the diagram that joins each point with the one below -/
def idD (n : Nat) : List Int := tab (2 * n) fun i => 2 * n - 1 - i
def idDI (n : Int) : List Int × Bool := if 1 ≤ n ∧ n ≤ 8 then (idD n.toNat, true) else ([], false)




theorem idDI_len (n : Int) : (idDI n).1.length ≤ 1000 := by
  unfold idDI
  split
  · simp [idD]
    omega
  · simp


/-- the diagram with one hook above and one below -/
def hookD (n i : Nat) : List Int := ((((idD n).set i (i + 1)).set (i + 1) i).set (2 * n - 1 - i) (2 * n - 2 - i)).set (2 * n - 2 - i) (2 * n - 1 - i)
def hookDI (n i : Int) : List Int × Bool := if (1 ≤ n ∧ n ≤ 8) ∧ 0 ≤ i ∧ i ≤ n - 2 then (hookD n.toNat i.toNat, true) else ([], false)

theorem hookDI_len (n i : Int) : (hookDI n i).1.length ≤ 1000 := by
  unfold hookDI
  split
  · simp [hookD, idD]
    omega
  · simp




end Go.Proofs.Ytcepogfmajlcjaa

/-
  Contracts of the numbers of Motzkin are proved.
  They hold for all arguments.
-/
set_option linter.unusedVariables false
set_option linter.unusedSimpArgs false
namespace Go.Proofs.Ytcepogfmajlcjaa
open Go.Proofs.Ytcepogfmajlcjaa.Ab Go.Proofs.Ytcepogfmajlcjaa.Pl

def motN (n : Int) : Int := if 0 ≤ n ∧ n ≤ 20 then motV n.toNat 0 else -1




end Go.Proofs.Ytcepogfmajlcjaa

/-
  Contracts of words that are doubled and read by pairs are proved.
  They hold for all words within the sizes that the statements' code allows.
-/
set_option linter.unusedVariables false
set_option linter.unusedSimpArgs false
namespace Go.Proofs.Ytcepogfmajlcjaa
open Go.Proofs.Ytcepogfmajlcjaa.Ab Go.Proofs.Ytcepogfmajlcjaa.Pl







end Go.Proofs.Ytcepogfmajlcjaa

/-
  Contracts of the shifts that are paths are proved.
  They hold for all words within the sizes that the statements' code allows.
-/
set_option linter.unusedVariables false
set_option linter.unusedSimpArgs false
namespace Go.Proofs.Ytcepogfmajlcjaa
open Go.Proofs.Ytcepogfmajlcjaa.Ab Go.Proofs.Ytcepogfmajlcjaa.Pl

/-- a path and one more d -/
def goodW (s : List UInt8) : Bool := decide (0 < s.length) && (((s.getD (s.length - 1) 0).toNat : Int) == 100) && isDyck (s.take (s.length - 1))
def rot (w : List UInt8) (k : Nat) : List UInt8 := w.drop k ++ w.take k
theorem rot_len (w : List UInt8) (k : Nat) : (rot w k).length = w.length := by simp [rot]; omega
def goodShift (w : List UInt8) : Int × Bool := if isBal w then match (List.range w.length).find? fun j => goodW (rot w j) with
  | some k => (k, true)
  | none => (0, false) else (0, false)
def goodsTo (w : List UInt8) (k : Nat) : Nat := ((List.range k).filter fun j => goodW (rot w j)).length
def goods (w : List UInt8) : Int := if isBal w then goodsTo w w.length else -1
theorem goodsTo_le (w : List UInt8) (k : Nat) : goodsTo w k ≤ k := by
  have := List.length_filter_le (fun j => goodW (rot w j)) (List.range k)
  rwa [List.length_range] at this
theorem goodsTo_succ (w : List UInt8) (k : Nat) : goodsTo w (k + 1) = goodsTo w k + if goodW (rot w k) = true then 1 else 0 := by
  unfold goodsTo
  rw [List.range_succ, List.filter_append, List.length_append]
  by_cases h : goodW (rot w k) = true <;> simp [h]









end Go.Proofs.Ytcepogfmajlcjaa

/-
  Contracts of words of Schroeder whose level steps are lifted are proved.
  They hold for all words within the sizes that the statements' code allows.
-/
set_option linter.unusedVariables false
set_option linter.unusedSimpArgs false
namespace Go.Proofs.Ytcepogfmajlcjaa
open Go.Proofs.Ytcepogfmajlcjaa.Ab Go.Proofs.Ytcepogfmajlcjaa.Pl

theorem or64 (s k : Nat) (hs : s < 2 ^ k) (hk : k ≤ 60) : IntKind.i64.wrap ((BitVec.ofInt IntKind.i64.bits (s : Int) ||| BitVec.ofInt IntKind.i64.bits ((1 : Int) * 2 ^ min (k : Int).toNat IntKind.i64.bits)).toNat : Int) = (s : Int) + 2 ^ k := by
  have h1 : (2 : Nat) ^ k ≤ 2 ^ 60 := Nat.pow_le_pow_right (by decide) hk
  have e1 : (1 : Int) * 2 ^ min (k : Int).toNat IntKind.i64.bits = ((2 ^ k : Nat) : Int) := by
    rw [Int.toNat_natCast, show min k IntKind.i64.bits = k from Nat.min_eq_left (by show k ≤ 64; omega), Int.one_mul]
    simp
  have e2 := Nat.two_pow_add_eq_or_of_lt hs 1
  rw [Nat.mul_one] at e2
  have e3 : (BitVec.ofInt IntKind.i64.bits (s : Int) ||| BitVec.ofInt IntKind.i64.bits ((2 ^ k : Nat) : Int)).toNat = 2 ^ k + s := by
    rw [BitVec.toNat_or, BitVec.ofInt_natCast, BitVec.ofInt_natCast, BitVec.toNat_ofNat, BitVec.toNat_ofNat]
    rw [show (2 : Nat) ^ IntKind.i64.bits = 2 ^ 64 from rfl, Nat.mod_eq_of_lt (show s < 2 ^ 64 by omega), Nat.mod_eq_of_lt (show 2 ^ k < 2 ^ 64 by omega), Nat.or_comm, ← e2]
  rw [e1, e3]
  have e4 : ((2 : Int) ^ k) = ((2 ^ k : Nat) : Int) := by simp
  rw [e4]
  have : IntKind.i64.wrap (((2 ^ k + s : Nat)) : Int) = ((2 ^ k + s : Nat) : Int) := by
    apply IntWalk.i64_in
    omega
  rw [this]
  omega

/-- the word, the set and the number of peaks after so many letters -/
def liftTo (w : List UInt8) : Nat → List UInt8 × Nat × Nat
  | 0 => ([], 0, 0)
  | i + 1 => let r := liftTo w i
    if ((w.getD i 0).toNat : Int) = 108 then (r.1 ++ [117, 100], r.2.1 + 2 ^ r.2.2, r.2.2 + 1)
    else (r.1 ++ [w.getD i 0], r.2.1, if ((w.getD i 0).toNat : Int) = 100 ∧ 0 < i ∧ ((w.getD (i - 1) 0).toNat : Int) = 117 then r.2.2 + 1 else r.2.2)

theorem liftTo_bd (w : List UInt8) : ∀ i, (liftTo w i).2.1 < 2 ^ (liftTo w i).2.2 ∧ (liftTo w i).2.2 ≤ i ∧ (liftTo w i).1.length ≤ 2 * i := by
  intro i
  induction i with
  | zero => exact ⟨by simp [liftTo], by simp [liftTo], by simp [liftTo]⟩
  | succ i ih =>
    simp only [liftTo]
    split
    · refine ⟨?_, by dsimp only; omega, by simp; omega⟩
      dsimp only
      rw [Nat.pow_succ]
      omega
    · refine ⟨?_, by dsimp only; split <;> omega, by simp; omega⟩
      dsimp only
      split
      · rw [Nat.pow_succ]
        omega
      · exact ih.1

theorem cut_one (w : List UInt8) (i : Nat) (h : i < w.length) : (w.take ((i : Int) + 1).toNat).drop (i : Int).toNat = [w.getD i 0] := by
  rw [show ((i : Int) + 1).toNat = i + 1 by omega, Int.toNat_natCast, List.drop_take, show i + 1 - i = 1 by omega]
  have e : (w.drop i).take 1 = [w[i]] := by
    rw [List.drop_eq_getElem_cons h]
    rfl
  rw [e]
  simp [List.getD, h]

def lift (w : List UInt8) : List UInt8 × Int × Bool := if isSchroeder w = true then ((liftTo w w.length).1, ((liftTo w w.length).2.1 : Int), true) else ([], 0, false)

theorem isSchroeder_len {w : List UInt8} (h : isSchroeder w = true) : w.length ≤ 16 := by
  unfold isSchroeder at h
  simp only [Bool.and_eq_true, decide_eq_true_eq] at h
  omega




end Go.Proofs.Ytcepogfmajlcjaa

/-
  Contracts of peaks and of words whose peaks are flattened are proved.
  They hold for all words within the sizes that the statements' code allows.
-/
set_option linter.unusedVariables false
set_option linter.unusedSimpArgs false
namespace Go.Proofs.Ytcepogfmajlcjaa
open Go.Proofs.Ytcepogfmajlcjaa.Ab Go.Proofs.Ytcepogfmajlcjaa.Pl

/-- a peak begins at this place -/
def peakAt (w : List UInt8) (i : Nat) : Prop := w.getD i 0 = 117 ∧ w.getD (i + 1) 0 = 100
instance (w : List UInt8) (i : Nat) : Decidable (peakAt w i) := by unfold peakAt; infer_instance
/-- the peaks that begin before this place -/
def peaksTo (w : List UInt8) : Nat → Nat
  | 0 => 0
  | i + 1 => peaksTo w i + if peakAt w i then 1 else 0
theorem peaksTo_le (w : List UInt8) : ∀ i, peaksTo w i ≤ i
  | 0 => Nat.le_refl _
  | i + 1 => by
    have := peaksTo_le w i
    simp only [peaksTo]
    split <;> omega
def peaks (w : List UInt8) : Int := if isDyck w = true then (peaksTo w (w.length - 1) : Int) else -1

theorem peaksTo_end (w : List UInt8) {i : Nat} (h : i = 0 ∨ i + 1 ≤ w.length) (g : ¬ ((i + 1 : Nat) : Int) < w.length) : i = w.length - 1 := by omega
theorem byte_117 (x : UInt8) : (x.toNat : Int) = 117 ↔ x = 117 := ⟨fun h => UInt8.toNat_inj.1 (by rw [show (117 : UInt8).toNat = 117 from rfl]; omega), fun h => by rw [h]; rfl⟩
theorem byte_100 (x : UInt8) : (x.toNat : Int) = 100 ↔ x = 100 := ⟨fun h => UInt8.toNat_inj.1 (by rw [show (100 : UInt8).toNat = 100 from rfl]; omega), fun h => by rw [h]; rfl⟩



end Go.Proofs.Ytcepogfmajlcjaa

/-
  Contracts of words whose peaks are flattened are proved.
  They hold for all words within the sizes that the statements' code allows.
-/
set_option linter.unusedVariables false
set_option linter.unusedSimpArgs false
namespace Go.Proofs.Ytcepogfmajlcjaa
open Go.Proofs.Ytcepogfmajlcjaa.Ab Go.Proofs.Ytcepogfmajlcjaa.Pl

theorem dyck_walk {w : List UInt8} (h : isDyck w = true) (i : Nat) : ∃ g, walkH 1 (-1) false (w.take i) 0 = some g ∧ 0 ≤ g := by
  unfold isDyck at h
  simp only [Bool.and_eq_true, decide_eq_true_eq, beq_iff_eq] at h
  cases hx : walkH 1 (-1) false (w.take i) 0 with
  | none => rw [walkH_take_none hx] at h; cases h.2
  | some g => exact ⟨g, rfl, (walkH_bd (by decide) (by decide) _ _ _ (by decide) hx).1⟩
theorem dyck_letters {w : List UInt8} (h : isDyck w = true) {i : Nat} (hi : i < w.length) (n : w.getD i 0 ≠ 100) : w.getD i 0 = 117 := by
  obtain ⟨g, hg, _⟩ := dyck_walk h i
  apply Classical.byContradiction
  intro n2
  have := walkH_bad hi hg (stepOf_no (fun e => n2 ((byte_117 _).1 e)) (fun e => n ((byte_100 _).1 e)) (.inr rfl))
  unfold isDyck at h
  rw [this] at h
  simp at h
theorem dyck_last {w : List UInt8} (h : isDyck w = true) {i : Nat} (hi : i < w.length) (n : w.getD i 0 = 117) : i + 1 < w.length := by
  obtain ⟨g, hg, h0⟩ := dyck_walk h i
  apply Classical.byContradiction
  intro n2
  have e : i + 1 = w.length := by omega
  have := walkH_next hi hg (stepOf_u ((byte_117 _).2 n)) (by omega)
  rw [e, List.take_length] at this
  unfold isDyck at h
  rw [this] at h
  simp only [Bool.and_eq_true, beq_iff_eq, Option.some.injEq] at h
  omega

/-- the bit of a set, as the code reads it -/
def bitP (set k : Int) : Prop := IntKind.i64.wrap ((BitVec.ofInt IntKind.i64.bits (set.fdiv (2 ^ min k.toNat IntKind.i64.bits)) &&& BitVec.ofInt IntKind.i64.bits 1).toNat : Int) = 1
instance (set k : Int) : Decidable (bitP set k) := by unfold bitP; infer_instance
/-- the word and the number of peaks after so many letters -/
def flTo (w : List UInt8) (set : Int) : Nat → List UInt8 × Nat
  | 0 => ([], 0)
  | i + 1 => let r := flTo w set i
    if peakAt w i then (r.1 ++ [if bitP set r.2 then 108 else 117], r.2 + 1)
    else if 0 < i ∧ peakAt w (i - 1) ∧ bitP set (r.2 - 1 : Nat) then r else (r.1 ++ [w.getD i 0], r.2)
theorem flTo_bd (w : List UInt8) (set : Int) : ∀ i, (flTo w set i).1.length ≤ i ∧ (flTo w set i).2 ≤ i := by
  intro i
  induction i with
  | zero => exact ⟨by simp [flTo], by simp [flTo]⟩
  | succ i ih =>
    simp only [flTo]
    split
    · exact ⟨by simp; omega, by dsimp only; omega⟩
    · split
      · exact ⟨by omega, by omega⟩
      · exact ⟨by simp; omega, by dsimp only; omega⟩
def flatOk (w : List UInt8) (set : Int) : Prop := isDyck w = true ∧ 0 ≤ set ∧ set ≤ (1 : Int) * 2 ^ min (peaks w).toNat IntKind.i64.bits - 1
instance (w : List UInt8) (set : Int) : Decidable (flatOk w set) := by unfold flatOk; infer_instance
def flat (w : List UInt8) (set : Int) : List UInt8 × Bool := if flatOk w set then ((flTo w set w.length).1, true) else ([], false)
theorem peaks_bd {w : List UInt8} (h : isDyck w = true) : (0 ≤ peaks w ∧ peaks w ≤ 16) ∧ 1 ≤ (1 : Int) * 2 ^ min (peaks w).toNat IntKind.i64.bits ∧ (1 : Int) * 2 ^ min (peaks w).toNat IntKind.i64.bits ≤ 65536 := by
  have e : peaks w = (peaksTo w (w.length - 1) : Int) := if_pos h
  have b := peaksTo_le w (w.length - 1)
  have l := (isDyck_even h).2
  have b1 : 0 ≤ peaks w ∧ peaks w ≤ 16 := by omega
  obtain ⟨n, hn⟩ := Int.eq_ofNat_of_zero_le b1.1
  refine ⟨b1, ?_⟩
  rw [hn, Int.toNat_natCast, show min n IntKind.i64.bits = n from Nat.min_eq_left (by show n ≤ 64; omega), Int.one_mul, show ((2 : Int) ^ n) = ((2 ^ n : Nat) : Int) by simp]
  have h1 : (2 : Nat) ^ n ≤ 2 ^ 16 := Nat.pow_le_pow_right (by decide) (by omega)
  have h2 : 0 < (2 : Nat) ^ n := Nat.pow_pos (by decide)
  omega

theorem flTo_peak {w : List UInt8} {set : Int} {i k : Nat} {s : List UInt8} (hs : flTo w set i = (s, k)) (h : peakAt w i) : flTo w set (i + 1) = (s ++ [if bitP set k then 108 else 117], k + 1) := by
  simp only [flTo, hs]
  rw [if_pos h]
theorem flTo_skip {w : List UInt8} {set : Int} {i k : Nat} {s : List UInt8} (hs : flTo w set i = (s, k)) (h : ¬ peakAt w i) (h2 : 0 < i ∧ peakAt w (i - 1) ∧ bitP set (k - 1 : Nat)) : flTo w set (i + 1) = (s, k) := by
  simp only [flTo, hs]
  rw [if_neg h, if_pos h2]
theorem flTo_plain {w : List UInt8} {set : Int} {i k : Nat} {s : List UInt8} (hs : flTo w set i = (s, k)) (h : ¬ peakAt w i) (h2 : ¬ (0 < i ∧ peakAt w (i - 1) ∧ bitP set (k - 1 : Nat))) : flTo w set (i + 1) = (s ++ [w.getD i 0], k) := by
  simp only [flTo, hs]
  rw [if_neg h, if_neg h2]




end Go.Proofs.Ytcepogfmajlcjaa

/-
  Contracts of rows of texts that are equal, marked and held are proved.
  They hold for all rows of moderate length.
-/
set_option linter.unusedVariables false
set_option linter.unusedSimpArgs false
namespace Go.Proofs.Ytcepogfmajlcjaa
open Go.Proofs.Ytcepogfmajlcjaa.Ab Go.Proofs.Ytcepogfmajlcjaa.Pl

theorem digits_len : ∀ n k, k < 10 ^ n → (digits k).length ≤ n := by
  intro n
  induction n with
  | zero => intro k h; have : k = 0 := by omega
            subst this; rw [digits_zero]; exact Nat.le_refl _
  | succ n ih =>
    intro k h
    by_cases e : k = 0
    · subst e; rw [digits_zero]; exact Nat.zero_le _
    · rw [digits_pos e, List.length_append]
      have := ih (k / 10) (by rw [Nat.pow_succ] at h; omega)
      simp only [List.length_cons, List.length_nil]
      omega


/-- marked texts -/
def mtab (k n : Nat) : List (List UInt8) := (List.range n).map fun j => markT (k + j)


theorem mtab_set (l : List (List UInt8)) (k j : Nat) (h : j < l.length) : (mtab k j ++ l.drop j).set j (markT (k + j)) = mtab k (j + 1) ++ l.drop (j + 1) := by
  have e : (mtab k j).length = j := by simp [mtab]
  rw [List.set_append_right _ _ (by omega), e, Nat.sub_self, List.drop_eq_getElem_cons h, List.set_cons_zero]
  simp [mtab, List.range_succ]



end Go.Proofs.Ytcepogfmajlcjaa

/-
  Contracts of the lists of words of Fuss are proved.
  They hold for all arguments.
-/
set_option linter.unusedVariables false
set_option linter.unusedSimpArgs false
namespace Go.Proofs.Ytcepogfmajlcjaa
open Go.Proofs.Ytcepogfmajlcjaa.Ab Go.Proofs.Ytcepogfmajlcjaa.Pl

/-- words that go on, u before d -/
def fussAll (m : Nat) : Nat → List UInt8 → Nat → Nat → List (List UInt8)
  | 0, _, _, _ => []
  | f + 1, w, up, h => if up = 0 ∧ h = 0 then [w] else (if 0 < up then fussAll m f (w ++ [117]) (up - 1) (h + m - 1) else []) ++ (if 0 < h then fussAll m f (w ++ [100]) up (h - 1) else [])

theorem fussAll_len (m : Nat) : ∀ f w up h, (fussAll m f w up h).length ≤ 2 ^ f := by
  intro f
  induction f with
  | zero => intro w up h; simp [fussAll]
  | succ f ih =>
    intro w up h
    have := Nat.pow_succ 2 f
    have p := Nat.pow_pos (n := f) (show 0 < 2 by decide)
    have a := ih (w ++ [117]) (up - 1) (h + m - 1)
    have b := ih (w ++ [100]) up (h - 1)
    simp only [fussAll]
    split
    · simp; omega
    · rw [List.length_append]
      split <;> split <;> simp <;> omega


end Go.Proofs.Ytcepogfmajlcjaa

/-
  Contracts of functions that gather words in a variable that an inner function shares are proved: words of Fuss.
  They hold for all arguments.
-/
set_option linter.unusedVariables false
set_option linter.unusedSimpArgs false
namespace Go.Proofs.Ytcepogfmajlcjaa
open Go.Proofs.Ytcepogfmajlcjaa.Ab Go.Proofs.Ytcepogfmajlcjaa.Pl

/-- the blocks of an inner function that gathers: itself, the shared variable, its row, a number -/
abbrev accL (F pm po b pq N : Nat) (m : Int) (out : List (List UInt8)) (R : List (Nat × Blk)) : List (Nat × Blk) :=
  (pm, row [.func F [.ptr po 0, .ptr pm 0, .ptr pq 0]]) :: (po, row [.slice b 0 N N]) :: (b, row (strs out)) :: (pq, row [.int .i64 m]) :: R


/-- the words of Fuss, and whether there are some -/
def fussP (m n : Int) : List (List UInt8) × Bool := if (1 ≤ m ∧ m ≤ 4) ∧ 0 ≤ n ∧ n ≤ 4 then (fussAll m.toNat 25 [] n.toNat 0, true) else ([], false)
theorem fussP_len (m n : Int) : (fussP m n).1.length ≤ 33554432 := by
  unfold fussP
  split
  · exact fussAll_len _ 25 _ _ _
  · simp





end Go.Proofs.Ytcepogfmajlcjaa

/-
  Contracts of matchings without crossings are proved.
  They hold for all rows of numbers.
-/
set_option linter.unusedVariables false
set_option linter.unusedSimpArgs false
namespace Go.Proofs.Ytcepogfmajlcjaa
open Go.Proofs.Ytcepogfmajlcjaa.Ab Go.Proofs.Ytcepogfmajlcjaa.Pl

theorem fill_len {α : Type} (A B : List α) (k : Nat) (e : A.length = B.length) : (A.take k ++ B.drop k).length = B.length := by
  simp
  omega
theorem fill_set {α : Type} (A B : List α) (d : α) (k : Nat) (ha : k < A.length) (hb : k < B.length) : (A.take k ++ B.drop k).set k (A.getD k d) = A.take (k + 1) ++ B.drop (k + 1) := by
  have e : (A.take k).length = k := by simp; omega
  have e2 : A.getD k d = A[k] := by simp [List.getD, ha]
  rw [List.set_append_right _ _ (by omega), e, Nat.sub_self, List.drop_eq_getElem_cons hb, List.set_cons_zero, e2, List.take_succ_eq_append_getElem ha, List.append_assoc]
  rfl
theorem fill_all {α : Type} (A B : List α) (k : Nat) (e : A.length = B.length) (h : k = A.length) : A.take k ++ B.drop k = A := by
  subst h
  rw [List.take_length, List.drop_eq_nil_of_le (by omega), List.append_nil]

theorem toIntS_ok (l : List Int) (v : AV) (h0 : H) (hv : CellsAt h0 v (ints l)) (hl : l.length ≤ 100000000) : AC env 18 [v] h0 fun r h' => ∃ b, r = .slice b 0 l.length l.length ∧ New h0 h' b (ints l) := by
  have hs := St.refl h0
  rcases hv with ⟨rfl, e⟩ | ⟨b, c, rfl, hb⟩
  · have e : l = [] := List.eq_nil_of_length_eq_zero (by rw [← ints_length, e]; rfl)
    subst e
    refine AC.enter Try.func18 Try.call18 rfl Try.ntmps18 (of_decide_eq_true (by rfl)) ?_
    repeat' (first
      | refine AW.seq ?_
      | (refine AW.region ?_; conv => whnf)
      | refine AW.block ?_
      | (refine AW.skip ?_; conv => whnf)
      | (refine AW.ret ?_; conv => whnf)
      | (refine AW.exit ?_; conv => whnf)
      | refine AW.cond (by rfl) ?_
      | (refine Br.tt ?_; conv => whnf)
      | (refine Br.ff ?_; conv => whnf)
      | refine Br.not ?_
      | (refine Br.t (beq_self_eq_true _) ?_; conv => whnf)
      | (refine Br.t (by assumption) ?_; conv => whnf)
      | (refine Br.f (by assumption) ?_; conv => whnf)
      | (refine Br.dt (by omega) ?_; conv => whnf)
      | (refine Br.df (by omega) ?_; conv => whnf)
      | (refine Br.it (by omega) ?_; conv => whnf)
      | (refine Br.if (by omega) ?_; conv => whnf)
      | (refine Br.nt (by omega) ?_; conv => whnf)
      | (refine Br.nf (by omega) ?_; conv => whnf)
      | (refine Br.dec (fun hc => ?_) (fun hc => ?_) <;> conv => whnf)
      | (refine Br.ieq (fun hc => ?_) (fun hc => ?_) <;> conv => whnf)
      | (refine Br.ine (fun hc => ?_) (fun hc => ?_) <;> conv => whnf)
      | (refine Br.mk (fun hc => ?_) (fun hc => ?_) <;> conv => whnf)
      | (refine Wr.i64 (by omega) ?_; conv => whnf)
      | (refine Ck.mk (by omega) ?_; conv => whnf)
      | (refine Wr.i64 (by simp only [List.length_drop, List.length_take, List.length_append, List.length_cons, List.length_nil]; omega) ?_; conv => whnf)
      | (refine Ck.mk (by simp only [List.length_drop, List.length_take, List.length_append, List.length_cons, List.length_nil]; omega) ?_; conv => whnf)
      | (refine NewG.stZ (by assumption) rfl (fun bt h' hs' => ?_); conv => whnf)
      | (refine Ck.slice (by omega) (by omega) (by omega) (by decide) ?_; conv => whnf)
      | (refine Has.load1 (by first | assumption | exact St.has (by assumption) (by repeat first | exact .head _ | apply List.Mem.tail) | exact St.arg (by assumption) (by assumption)) ?_; conv => whnf)
      | (refine Has.loadZ (by first | assumption | exact St.has (by assumption) (by repeat first | exact .head _ | apply List.Mem.tail) | exact St.arg (by assumption) (by assumption)) rfl (by first | (simp; done) | omega | (simp only [List.length_set, List.length_append, List.length_cons, List.length_nil, List.length_replicate, tab_length]; omega) | (simp; omega)) ?_; conv => whnf)
      | (refine StoreG.st1 (by assumption) (by repeat first | exact .here | apply Spot.there) rfl (fun h' hs' => ?_); conv => whnf)
      | (refine StoreG.stZ (by assumption) (by repeat first | exact .here | apply Spot.there) rfl (by first | (simp; done) | omega | (simp only [List.length_set, List.length_append, List.length_cons, List.length_nil, List.length_replicate, tab_length]; omega) | (simp; omega)) (fun h' hs' => ?_); conv => whnf)
      | (refine Ck.mk (by simp; omega) ?_; conv => whnf))
    refine AW.once ?_
    repeat' (first
      | refine AW.seq ?_
      | (refine AW.region ?_; conv => whnf)
      | refine AW.block ?_
      | (refine AW.skip ?_; conv => whnf)
      | (refine AW.ret ?_; conv => whnf)
      | (refine AW.exit ?_; conv => whnf)
      | refine AW.cond (by rfl) ?_
      | (refine Br.tt ?_; conv => whnf)
      | (refine Br.ff ?_; conv => whnf)
      | refine Br.not ?_
      | (refine Br.t (beq_self_eq_true _) ?_; conv => whnf)
      | (refine Br.t (by assumption) ?_; conv => whnf)
      | (refine Br.f (by assumption) ?_; conv => whnf)
      | (refine Br.dt (by omega) ?_; conv => whnf)
      | (refine Br.df (by omega) ?_; conv => whnf)
      | (refine Br.it (by omega) ?_; conv => whnf)
      | (refine Br.if (by omega) ?_; conv => whnf)
      | (refine Br.nt (by omega) ?_; conv => whnf)
      | (refine Br.nf (by omega) ?_; conv => whnf)
      | (refine Br.dec (fun hc => ?_) (fun hc => ?_) <;> conv => whnf)
      | (refine Br.ieq (fun hc => ?_) (fun hc => ?_) <;> conv => whnf)
      | (refine Br.ine (fun hc => ?_) (fun hc => ?_) <;> conv => whnf)
      | (refine Br.mk (fun hc => ?_) (fun hc => ?_) <;> conv => whnf)
      | (refine Wr.i64 (by omega) ?_; conv => whnf)
      | (refine Ck.mk (by omega) ?_; conv => whnf)
      | (refine Wr.i64 (by simp only [List.length_drop, List.length_take, List.length_append, List.length_cons, List.length_nil]; omega) ?_; conv => whnf)
      | (refine Ck.mk (by simp only [List.length_drop, List.length_take, List.length_append, List.length_cons, List.length_nil]; omega) ?_; conv => whnf)
      | (refine NewG.stZ (by assumption) rfl (fun bt h' hs' => ?_); conv => whnf)
      | (refine Ck.slice (by omega) (by omega) (by omega) (by decide) ?_; conv => whnf)
      | (refine Has.load1 (by first | assumption | exact St.has (by assumption) (by repeat first | exact .head _ | apply List.Mem.tail) | exact St.arg (by assumption) (by assumption)) ?_; conv => whnf)
      | (refine Has.loadZ (by first | assumption | exact St.has (by assumption) (by repeat first | exact .head _ | apply List.Mem.tail) | exact St.arg (by assumption) (by assumption)) rfl (by first | (simp; done) | omega | (simp only [List.length_set, List.length_append, List.length_cons, List.length_nil, List.length_replicate, tab_length]; omega) | (simp; omega)) ?_; conv => whnf)
      | (refine StoreG.st1 (by assumption) (by repeat first | exact .here | apply Spot.there) rfl (fun h' hs' => ?_); conv => whnf)
      | (refine StoreG.stZ (by assumption) (by repeat first | exact .here | apply Spot.there) rfl (by first | (simp; done) | omega | (simp only [List.length_set, List.length_append, List.length_cons, List.length_nil, List.length_replicate, tab_length]; omega) | (simp; omega)) (fun h' hs' => ?_); conv => whnf)
      | (refine Ck.mk (by simp; omega) ?_; conv => whnf))
    exact ⟨_, rfl, hs'.toNew⟩
  · rw [ints_length]
    refine AC.enter Try.func18 Try.call18 rfl Try.ntmps18 (of_decide_eq_true (by rfl)) ?_
    repeat' (first
      | refine AW.seq ?_
      | (refine AW.region ?_; conv => whnf)
      | refine AW.block ?_
      | (refine AW.skip ?_; conv => whnf)
      | (refine AW.ret ?_; conv => whnf)
      | (refine AW.exit ?_; conv => whnf)
      | refine AW.cond (by rfl) ?_
      | (refine Br.tt ?_; conv => whnf)
      | (refine Br.ff ?_; conv => whnf)
      | refine Br.not ?_
      | (refine Br.t (beq_self_eq_true _) ?_; conv => whnf)
      | (refine Br.t (by assumption) ?_; conv => whnf)
      | (refine Br.f (by assumption) ?_; conv => whnf)
      | (refine Br.dt (by omega) ?_; conv => whnf)
      | (refine Br.df (by omega) ?_; conv => whnf)
      | (refine Br.it (by omega) ?_; conv => whnf)
      | (refine Br.if (by omega) ?_; conv => whnf)
      | (refine Br.nt (by omega) ?_; conv => whnf)
      | (refine Br.nf (by omega) ?_; conv => whnf)
      | (refine Br.dec (fun hc => ?_) (fun hc => ?_) <;> conv => whnf)
      | (refine Br.ieq (fun hc => ?_) (fun hc => ?_) <;> conv => whnf)
      | (refine Br.ine (fun hc => ?_) (fun hc => ?_) <;> conv => whnf)
      | (refine Br.mk (fun hc => ?_) (fun hc => ?_) <;> conv => whnf)
      | (refine Wr.i64 (by omega) ?_; conv => whnf)
      | (refine Ck.mk (by omega) ?_; conv => whnf)
      | (refine Wr.i64 (by simp only [List.length_drop, List.length_take, List.length_append, List.length_cons, List.length_nil]; omega) ?_; conv => whnf)
      | (refine Ck.mk (by simp only [List.length_drop, List.length_take, List.length_append, List.length_cons, List.length_nil]; omega) ?_; conv => whnf)
      | (refine NewG.stZ (by assumption) rfl (fun bt h' hs' => ?_); conv => whnf)
      | (refine Ck.slice (by omega) (by omega) (by omega) (by decide) ?_; conv => whnf)
      | (refine Has.load1 (by first | assumption | exact St.has (by assumption) (by repeat first | exact .head _ | apply List.Mem.tail) | exact St.arg (by assumption) (by assumption)) ?_; conv => whnf)
      | (refine Has.loadZ (by first | assumption | exact St.has (by assumption) (by repeat first | exact .head _ | apply List.Mem.tail) | exact St.arg (by assumption) (by assumption)) rfl (by first | (simp; done) | omega | (simp only [List.length_set, List.length_append, List.length_cons, List.length_nil, List.length_replicate, tab_length]; omega) | (simp; omega)) ?_; conv => whnf)
      | (refine StoreG.st1 (by assumption) (by repeat first | exact .here | apply Spot.there) rfl (fun h' hs' => ?_); conv => whnf)
      | (refine StoreG.stZ (by assumption) (by repeat first | exact .here | apply Spot.there) rfl (by first | (simp; done) | omega | (simp only [List.length_set, List.length_append, List.length_cons, List.length_nil, List.length_replicate, tab_length]; omega) | (simp; omega)) (fun h' hs' => ?_); conv => whnf)
      | (refine Ck.mk (by simp; omega) ?_; conv => whnf))
    refine AW.loop1 (fun (k : Nat) => [(0, .slice b 0 l.length c), (3, .slice bt 0 l.length l.length), (4, .int .i64 k)]) (fun k h' => k ≤ l.length ∧ St h0 h' [(bt, row (ints (l.take k ++ (List.replicate l.length 0).drop k)))]) (fun k => l.length - k) 0
      (Less.cons rfl (Less.cons rfl (Less.cons rfl (Less.nil _)))) ⟨by omega, hs'⟩ ?_
    rintro k h1 ⟨hk, hs⟩
    have hle := fill_len l (List.replicate l.length 0) k (by simp)
    rw [List.length_replicate] at hle
    repeat' (first
      | refine AW.seq ?_
      | (refine AW.region ?_; conv => whnf)
      | refine AW.block ?_
      | (refine AW.skip ?_; conv => whnf)
      | (refine AW.ret ?_; conv => whnf)
      | (refine AW.exit ?_; conv => whnf)
      | refine AW.cond (by rfl) ?_
      | (refine Br.tt ?_; conv => whnf)
      | (refine Br.ff ?_; conv => whnf)
      | refine Br.not ?_
      | (refine Br.t (beq_self_eq_true _) ?_; conv => whnf)
      | (refine Br.t (by assumption) ?_; conv => whnf)
      | (refine Br.f (by assumption) ?_; conv => whnf)
      | (refine Br.dt (by omega) ?_; conv => whnf)
      | (refine Br.df (by omega) ?_; conv => whnf)
      | (refine Br.it (by omega) ?_; conv => whnf)
      | (refine Br.if (by omega) ?_; conv => whnf)
      | (refine Br.nt (by omega) ?_; conv => whnf)
      | (refine Br.nf (by omega) ?_; conv => whnf)
      | (refine Br.dec (fun hc => ?_) (fun hc => ?_) <;> conv => whnf)
      | (refine Br.ieq (fun hc => ?_) (fun hc => ?_) <;> conv => whnf)
      | (refine Br.ine (fun hc => ?_) (fun hc => ?_) <;> conv => whnf)
      | (refine Br.mk (fun hc => ?_) (fun hc => ?_) <;> conv => whnf)
      | (refine Wr.i64 (by omega) ?_; conv => whnf)
      | (refine Ck.mk (by omega) ?_; conv => whnf)
      | (refine Wr.i64 (by simp only [List.length_drop, List.length_take, List.length_append, List.length_cons, List.length_nil]; omega) ?_; conv => whnf)
      | (refine Ck.mk (by simp only [List.length_drop, List.length_take, List.length_append, List.length_cons, List.length_nil]; omega) ?_; conv => whnf)
      | (refine NewG.stZ (by assumption) rfl (fun bt h' hs' => ?_); conv => whnf)
      | (refine Ck.slice (by omega) (by omega) (by omega) (by decide) ?_; conv => whnf)
      | (refine Has.load1 (by first | assumption | exact St.has (by assumption) (by repeat first | exact .head _ | apply List.Mem.tail) | exact St.arg (by assumption) (by assumption)) ?_; conv => whnf)
      | (refine Has.loadZ (by first | assumption | exact St.has (by assumption) (by repeat first | exact .head _ | apply List.Mem.tail) | exact St.arg (by assumption) (by assumption)) rfl (by first | (simp; done) | omega | (simp only [List.length_set, List.length_append, List.length_cons, List.length_nil, List.length_replicate, tab_length]; omega) | (simp; omega)) ?_; conv => whnf)
      | (refine StoreG.st1 (by assumption) (by repeat first | exact .here | apply Spot.there) rfl (fun h' hs' => ?_); conv => whnf)
      | (refine StoreG.stZ (by assumption) (by repeat first | exact .here | apply Spot.there) rfl (by first | (simp; done) | omega | (simp only [List.length_set, List.length_append, List.length_cons, List.length_nil, List.length_replicate, tab_length]; omega) | (simp; omega)) (fun h' hs' => ?_); conv => whnf)
      | (refine Ck.mk (by simp; omega) ?_; conv => whnf))
    · refine ⟨k + 1, (Less.cons rfl (Less.cons rfl (Less.cons rfl (Less.nil _)))), ⟨by omega, ?_⟩, by omega⟩
      rw [← fill_set l _ 0 k (by omega) (by simp; omega)]
      exact hs'
    · rw [fill_all l _ k (by simp) (by omega)] at hs
      exact ⟨_, rfl, hs.toNew⟩

/-- a place of a matching is as it must be -/
def okAt (l : List Int) (i : Nat) : Prop := (0 ≤ l.getD i 0 ∧ l.getD i 0 ≤ (l.length : Int) - 1) ∧ l.getD i 0 ≠ i ∧ l.getD (l.getD i 0).toNat 0 = i
instance (l : List Int) (i : Nat) : Decidable (okAt l i) := by unfold okAt; infer_instance
def isM (l : List Int) : Bool := decide (l.length ≤ 16 ∧ ∀ i, i < l.length → okAt l i)
def crossAt (l : List Int) (a c : Nat) : Prop := a < c ∧ (c : Int) < l.getD a 0 ∧ l.getD a 0 < l.getD c 0
instance (l : List Int) (a c : Nat) : Decidable (crossAt l a c) := by unfold crossAt; infer_instance
def crossless (l : List Int) (i j : Nat) : Prop := ∀ a c, c < l.length → (a < i ∨ (a = i ∧ c < j)) → ¬ crossAt l a c
def isNC (l : List Int) : Bool := isM l && decide (∀ a, a < l.length → ∀ c, c < l.length → ¬ crossAt l a c)
theorem isM_spec {l : List Int} (h : isM l = true) : l.length ≤ 16 ∧ ∀ i, i < l.length → okAt l i := of_decide_eq_true h
theorem isNC_spec {l : List Int} (h : isNC l = true) : isM l = true := by
  unfold isNC at h
  simp only [Bool.and_eq_true] at h
  exact h.1

theorem crossless_zero (l : List Int) : crossless l 0 0 := fun a c _ h => by omega
theorem crossless_hit {l : List Int} {i j : Nat} (hj : j < l.length) (h : crossAt l i j) : ¬ crossless l i (j + 1) := fun n => n i j hj (.inr ⟨rfl, by omega⟩) h
theorem crossless_miss {l : List Int} {i j : Nat} (h : ¬ crossAt l i j) : crossless l i (j + 1) ↔ crossless l i j := by
  constructor
  · exact fun n a c hc hh => n a c hc (by omega)
  · intro n a c hc hh
    by_cases e : a = i ∧ c = j
    · rw [e.1, e.2]; exact h
    · exact n a c hc (by omega)
theorem crossless_row {l : List Int} {i j : Nat} (hj : l.length ≤ j) : crossless l (i + 1) 0 ↔ crossless l i j := by
  constructor
  · exact fun n a c hc hh => n a c hc (by omega)
  · exact fun n a c hc hh => n a c hc (by omega)
theorem crossless_start {l : List Int} {i : Nat} : crossless l i (i + 1) ↔ crossless l i 0 := by
  constructor
  · exact fun n a c hc hh => n a c hc (by omega)
  · intro n a c hc hh
    by_cases e : a = i
    · subst e
      intro hx
      unfold crossAt at hx
      omega
    · exact n a c hc (by omega)
theorem crossless_all {l : List Int} (i : Nat) (h : l.length ≤ i) : crossless l i 0 ↔ ∀ a, a < l.length → ∀ c, c < l.length → ¬ crossAt l a c := by
  constructor
  · exact fun n a ha c hc => n a c hc (.inl (by omega))
  · intro n a c hc hh hx
    exact n a (by unfold crossAt at hx; omega) c hc hx


theorem isM_all {l : List Int} (h : ∀ i, i < l.length → okAt l i) : isM l = decide ((l.length : Int) ≤ 16) := decide_eq_decide.2 ⟨fun g => by have := g.1; omega, fun g => ⟨by omega, h⟩⟩



theorem beq_zero (k : Nat) : ((k : Int) == 0) = decide (k = 0) := by
  cases k <;> rfl
theorem isNC_of {l : List Int} (h : isM l = true) {p : Prop} [Decidable p] (g : p ↔ ∀ a, a < l.length → ∀ c, c < l.length → ¬ crossAt l a c) : decide p = isNC l := by
  unfold isNC
  rw [h, Bool.true_and]
  exact decide_eq_decide.2 g



def isD (l : List Int) : Bool := decide (2 ≤ (l.length : Int)) && isNC l
theorem isD_spec {l : List Int} (h : isD l = true) : 2 ≤ l.length ∧ isNC l = true := by
  unfold isD at h
  simp only [Bool.and_eq_true, decide_eq_true_eq] at h
  exact ⟨by omega, h.2⟩





/-- the arcs from above to below, among the first points -/
def thrTo (l : List Int) : Nat → Nat
  | 0 => 0
  | i + 1 => thrTo l i + if ((l.length / 2 : Nat) : Int) ≤ l.getD i 0 then 1 else 0
theorem thrTo_le (l : List Int) : ∀ i, thrTo l i ≤ i
  | 0 => Nat.le_refl _
  | i + 1 => by
    have := thrTo_le l i
    simp only [thrTo]
    split <;> omega
def thr (l : List Int) : Int := if isD l = true then (thrTo l (l.length / 2) : Int) else -1

theorem half_len (n : Nat) : (n : Int).tdiv 2 = ((n / 2 : Nat) : Int) := rfl




/-- a law's row, in its two forms -/
theorem intsArg_two {h : H} {v : AV} (m : IntsArg h v) : ∃ l, bdI l ∧ l.length ≤ 9223372036854775807 ∧ CellsAt h v (ints l) ∧ ((v = .nilslice ∧ l = []) ∨ ∃ b c, v = .slice b 0 l.length c) := by
  obtain ⟨l, bd, hl, hv⟩ := m
  refine ⟨l, bd, hl, hv, ?_⟩
  rcases hv with ⟨rfl, e⟩ | ⟨b, c, rfl, hb⟩
  · exact .inl ⟨rfl, List.eq_nil_of_length_eq_zero (by rw [← ints_length, e]; rfl)⟩
  · exact .inr ⟨b, c, by rw [ints_length]⟩



end Go.Proofs.Ytcepogfmajlcjaa

/-
  Plain laws of matchings and of loops of two of them are proved.
  They hold for all rows of numbers.
-/
set_option linter.unusedVariables false
set_option linter.unusedSimpArgs false
namespace Go.Proofs.Ytcepogfmajlcjaa
open Go.Proofs.Ytcepogfmajlcjaa.Ab Go.Proofs.Ytcepogfmajlcjaa.Pl

/-- a row as a map of places -/
def ga (l : List Int) (i : Nat) : Nat := (l.getD i 0).toNat
theorem okAt_ga {l : List Int} {i : Nat} (h : okAt l i) (hi : i < l.length) : ga l i < l.length ∧ ga l i ≠ i ∧ l.getD i 0 = ga l i ∧ l.getD (ga l i) 0 = i := by
  obtain ⟨⟨h1, h2⟩, h3, h4⟩ := h
  unfold ga
  refine ⟨by omega, by omega, by omega, h4⟩
theorem isM_ga {l : List Int} (h : isM l = true) {i : Nat} (hi : i < l.length) : ga l i < l.length ∧ ga l i ≠ i ∧ l.getD i 0 = ga l i ∧ ga l (ga l i) = i := by
  obtain ⟨h1, h2, h3, h4⟩ := okAt_ga ((isM_spec h).2 i hi) hi
  exact ⟨h1, h2, h3, by rw [ga, h4]; rfl⟩

/-- an involution without fixed points moves evenly many things -/
theorem even_of_inv (n : Nat) (m : Nat → Nat) (h1 : ∀ i, i < n → m i < n) (h2 : ∀ i, i < n → m i ≠ i) (h3 : ∀ i, i < n → m (m i) = i) : n % 2 = 0 := by
  have hp : ((List.range n).map m).Perm (List.range n) := by
    refine (List.perm_ext_iff_of_nodup ?_ List.nodup_range).2 fun x => ?_
    · refine List.pairwise_map.2 (List.Pairwise.imp_of_mem (fun {a b} ha hb hne e => hne ?_) List.nodup_range)
      rw [← h3 a (List.mem_range.1 ha), ← h3 b (List.mem_range.1 hb), e]
    · constructor
      · intro hx
        obtain ⟨i, hi, rfl⟩ := List.mem_map.1 hx
        exact List.mem_range.2 (h1 i (List.mem_range.1 hi))
      · intro hx
        have hx := List.mem_range.1 hx
        exact List.mem_map.2 ⟨m x, List.mem_range.2 (h1 x hx), h3 x hx⟩
  have e1 := hp.countP_eq (fun i => decide (i < m i))
  rw [List.countP_map] at e1
  have e2 : List.countP ((fun i => decide (i < m i)) ∘ m) (List.range n) = List.countP (fun i => decide (¬ (decide (i < m i)) = true)) (List.range n) := by
    refine List.countP_congr fun i hi => ?_
    have hi := List.mem_range.1 hi
    have a := h2 i hi
    have b := h3 i hi
    simp only [Function.comp, decide_eq_true_eq, b]
    omega
  have e3 := List.length_eq_countP_add_countP (fun i => decide (i < m i)) (l := List.range n)
  rw [List.length_range] at e3
  omega
theorem isM_even {l : List Int} (h : isM l = true) : l.length % 2 = 0 :=
  even_of_inv l.length (ga l) (fun i hi => (isM_ga h hi).1) (fun i hi => (isM_ga h hi).2.1) fun i hi => (isM_ga h hi).2.2.2

/-! marks -/
theorem count_mark {s : List Bool} {x : Nat} (hx : x < s.length) (h : s.getD x false = false) : (s.set x true).count false + 1 = s.count false := by
  have e : s[x] = false := by simpa [List.getD, hx] using h
  rw [List.count_set hx, e]
  have : 0 < s.count false := List.count_pos_iff.2 (by rw [← e]; exact List.getElem_mem hx)
  simp
  omega
theorem count_more {s : List Bool} {x : Nat} (hx : x < s.length) : (s.set x true).count false ≤ s.count false := by
  rw [List.count_set hx]
  simp
theorem count_zero {s : List Bool} (h : s.count false = 0) {x : Nat} (hx : x < s.length) : s.getD x false = true := by
  have := List.count_eq_zero.1 h
  cases e : s.getD x false with
  | true => rfl
  | false =>
    exfalso
    apply this
    have e2 : s[x] = false := by simpa [List.getD, hx] using e
    rw [← e2]
    exact List.getElem_mem hx

/-- one loop is gone round: two maps in turn, all places are marked -/
def trail (f g : Nat → Nat) : Nat → List Bool → Nat → List Bool
  | 0, s, _ => s
  | k + 1, s, x => if s.getD x false then s else trail f g k ((s.set x true).set (f x) true) (g (f x))
theorem trail_seen (f g : Nat → Nat) (k : Nat) {s : List Bool} {x : Nat} (h : s.getD x false = true) : trail f g k s x = s := by
  cases k with
  | zero => rfl
  | succ k => simp only [trail]; rw [if_pos h]
theorem trail_step (f g : Nat → Nat) (k : Nat) {s : List Bool} {x : Nat} (h : s.getD x false = false) : trail f g (k + 1) s x = trail f g k ((s.set x true).set (f x) true) (g (f x)) := by
  simp only [trail]
  rw [if_neg (by rw [h]; decide)]
theorem trail_len (f g : Nat → Nat) : ∀ (k : Nat) (s : List Bool) (x : Nat), (trail f g k s x).length = s.length := by
  intro k
  induction k with
  | zero => intro s x; rfl
  | succ k ih =>
    intro s x
    simp only [trail]
    split
    · rfl
    · rw [ih]; simp
/-- all loops, from each place that has no mark yet -/
def roundsTo (f g : Nat → Nat) (n : Nat) : Nat → List Bool × Nat
  | 0 => (List.replicate n false, 0)
  | i + 1 => let r := roundsTo f g n i
    if r.1.getD i false then r else (trail f g n r.1 i, r.2 + 1)
theorem roundsTo_len (f g : Nat → Nat) (n : Nat) : ∀ i, (roundsTo f g n i).1.length = n := by
  intro i
  induction i with
  | zero => simp [roundsTo]
  | succ i ih =>
    simp only [roundsTo]
    split
    · exact ih
    · rw [trail_len]; exact ih
theorem roundsTo_le (f g : Nat → Nat) (n : Nat) : ∀ i, (roundsTo f g n i).2 ≤ i := by
  intro i
  induction i with
  | zero => simp [roundsTo]
  | succ i ih =>
    simp only [roundsTo]
    split <;> (try dsimp only) <;> omega
theorem roundsTo_seen {f g : Nat → Nat} {n i k : Nat} {s : List Bool} (e : roundsTo f g n i = (s, k)) (h : s.getD i false = true) : roundsTo f g n (i + 1) = (s, k) := by
  simp only [roundsTo, e]
  rw [if_pos h]
theorem roundsTo_new {f g : Nat → Nat} {n i k : Nat} {s : List Bool} (e : roundsTo f g n i = (s, k)) (h : s.getD i false = false) : roundsTo f g n (i + 1) = (trail f g n s i, k + 1) := by
  simp only [roundsTo, e]
  rw [if_neg (by rw [h]; decide)]
def loopsN (f g : Nat → Nat) (n : Nat) : Nat := (roundsTo f g n n).2
/-- the loops of two matchings -/
def loopsOf (a b : List Int) : Int := if isNC a = true ∧ isNC b = true ∧ a.length = b.length then (loopsN (ga a) (ga b) a.length : Int) else -1

end Go.Proofs.Ytcepogfmajlcjaa

/-
  Plain laws of ways and loops in two diagrams, one above the other, are proved.
  They hold for all matchings.
-/
set_option linter.unusedVariables false
set_option linter.unusedSimpArgs false
namespace Go.Proofs.Ytcepogfmajlcjaa
open Go.Proofs.Ytcepogfmajlcjaa.Ab Go.Proofs.Ytcepogfmajlcjaa.Pl

/-- more values than places: two are alike -/
theorem pigeon : ∀ (N : Nat) (x : Nat → Nat), (∀ i, i ≤ N → x i < N) → ∃ i j, i < j ∧ j ≤ N ∧ x i = x j := by
  intro N
  induction N with
  | zero =>
    intro x hx
    have := hx 0 (Nat.le_refl _)
    omega
  | succ N ih =>
    intro x hx
    by_cases h : ∃ i, i ≤ N ∧ x i = x (N + 1)
    · obtain ⟨i, hi, e⟩ := h
      exact ⟨i, N + 1, by omega, Nat.le_refl _, e⟩
    · have hne : ∀ i, i ≤ N → x i ≠ x (N + 1) := fun i hi e => h ⟨i, hi, e⟩
      obtain ⟨i, j, hij, hj, e⟩ := ih (fun i => if x (N + 1) < x i then x i - 1 else x i) (fun i hi => by
        have a := hx i (by omega)
        have b := hx (N + 1) (Nat.le_refl _)
        have c := hne i hi
        split <;> omega)
      refine ⟨i, j, hij, by omega, ?_⟩
      have a := hne i (by omega)
      have b := hne j hj
      split at e <;> split at e <;> omega

/-- an involution of 2 n places -/
def Inv2 (n : Nat) (A : Nat → Nat) : Prop := ∀ i, i < 2 * n → A i < 2 * n ∧ A (A i) = i ∧ A i ≠ i

section
variable (n : Nat) (A B : Nat → Nat)

/-- one step of a way: states below 2 n are places of the upper diagram, the others those of the lower one -/
def stepW (st : Nat) : Option Nat :=
  if st < 2 * n then (if A st < n then none else some (2 * n + (2 * n - 1 - A st))) else (if n ≤ B (st - 2 * n) then none else some (2 * n - 1 - B (st - 2 * n)))
def iterW (s : Nat) : Nat → Option Nat
  | 0 => some s
  | k + 1 => (iterW s k).bind (stepW n A B)
def isStart (s : Nat) : Prop := s < n ∨ (3 * n ≤ s ∧ s < 4 * n)
/-- the middle point of a state -/
def midW (st : Nat) : Nat := if st < 2 * n then 2 * n - 1 - st else st - 2 * n
def endsW : Nat → Nat → Bool
  | 0, _ => false
  | f + 1, st => match stepW n A B st with
    | none => true
    | some z => endsW f z
def endV (st : Nat) : Nat := if st < 2 * n then A st else B (st - 2 * n)
def wayV : Nat → Nat → Nat
  | 0, _ => 0
  | f + 1, st => match stepW n A B st with
    | none => endV n A B st
    | some z => wayV f z
def wayM : Nat → Nat → List Bool → List Bool
  | 0, _, s => s
  | f + 1, st, s => match stepW n A B st with
    | none => s
    | some z => wayM f z (s.set (midW n z) true)

variable {n A B}
theorem step_lt {x z : Nat} (h : stepW n A B x = some z) (hx : x < 4 * n) : (2 * n ≤ z ∧ z < 3 * n ∧ x < 2 * n ∧ n ≤ A x ∧ z = 2 * n + (2 * n - 1 - A x)) ∨ (n ≤ z ∧ z < 2 * n ∧ 2 * n ≤ x ∧ B (x - 2 * n) < n ∧ z = 2 * n - 1 - B (x - 2 * n)) := by
  unfold stepW at h
  split at h
  · split at h
    · cases h
    · injection h with h
      left
      omega
  · split at h
    · cases h
    · injection h with h
      right
      omega
theorem step_inj (hA : Inv2 n A) (hB : Inv2 n B) {x y z : Nat} (h : stepW n A B x = some z) (k : stepW n A B y = some z) (hx : x < 4 * n) (hy : y < 4 * n) : x = y := by
  rcases step_lt h hx with ⟨a1, a2, a3, a4, a5⟩ | ⟨a1, a2, a3, a4, a5⟩ <;> rcases step_lt k hy with ⟨b1, b2, b3, b4, b5⟩ | ⟨b1, b2, b3, b4, b5⟩
  · have h1 := hA x a3
    have h2 := hA y b3
    have e : A x = A y := by omega
    rw [← h1.2.1, e, h2.2.1]
  · omega
  · omega
  · have h1 := hB (x - 2 * n) (by omega)
    have h2 := hB (y - 2 * n) (by omega)
    have e : B (x - 2 * n) = B (y - 2 * n) := by omega
    have : x - 2 * n = y - 2 * n := by rw [← h1.2.1, e, h2.2.1]
    omega
theorem step_start {x z : Nat} (h : stepW n A B x = some z) (hx : x < 4 * n) : ¬ isStart n z := by
  rcases step_lt h hx with ⟨a1, a2, _⟩ | ⟨a1, a2, _⟩ <;> (unfold isStart; omega)
theorem iter_lt {s : Nat} (hs : s < 4 * n) : ∀ k z, iterW n A B s k = some z → z < 4 * n := by
  intro k
  induction k with
  | zero =>
    intro z h
    simp only [iterW, Option.some.injEq] at h
    omega
  | succ k ih =>
    intro z h
    simp only [iterW, Option.bind_eq_some_iff] at h
    obtain ⟨y, h1, h2⟩ := h
    rcases step_lt h2 (ih y h1) with ⟨a1, a2, _⟩ | ⟨a1, a2, _⟩ <;> omega
theorem iter_apart (hA : Inv2 n A) (hB : Inv2 n B) {s : Nat} (hs : s < 4 * n) (st : isStart n s) : ∀ i j v, i < j → iterW n A B s i = some v → iterW n A B s j = some v → False := by
  intro i
  induction i with
  | zero =>
    intro j v hij h1 h2
    obtain ⟨m, rfl⟩ : ∃ m, j = m + 1 := ⟨j - 1, by omega⟩
    simp only [iterW, Option.some.injEq] at h1
    subst h1
    simp only [iterW, Option.bind_eq_some_iff] at h2
    obtain ⟨y, h3, h4⟩ := h2
    exact step_start h4 (iter_lt hs m y h3) st
  | succ i ih =>
    intro j v hij h1 h2
    obtain ⟨m, rfl⟩ : ∃ m, j = m + 1 := ⟨j - 1, by omega⟩
    simp only [iterW, Option.bind_eq_some_iff] at h1 h2
    obtain ⟨y, h3, h4⟩ := h1
    obtain ⟨y', h5, h6⟩ := h2
    have e := step_inj hA hB h4 h6 (iter_lt hs i y h3) (iter_lt hs m y' h5)
    subst e
    exact ih m y (by omega) h3 h5
theorem iter_none (hA : Inv2 n A) (hB : Inv2 n B) {s : Nat} (hs : s < 4 * n) (st : isStart n s) : ∃ k, k ≤ 4 * n ∧ iterW n A B s k = none := by
  apply Classical.byContradiction
  intro hno
  have hsome : ∀ k, k ≤ 4 * n → ∃ v, iterW n A B s k = some v := fun k hk => by
    cases e : iterW n A B s k with
    | none => exact absurd ⟨k, hk, e⟩ hno
    | some v => exact ⟨v, rfl⟩
  obtain ⟨i, j, hij, hj, e⟩ := pigeon (4 * n) (fun k => (iterW n A B s k).getD 0) (fun i hi => by
    obtain ⟨v, hv⟩ := hsome i hi
    rw [hv]
    exact iter_lt hs i v hv)
  obtain ⟨v, hv⟩ := hsome i (by omega)
  obtain ⟨u, hu⟩ := hsome j hj
  rw [hv, hu] at e
  simp only [Option.getD_some] at e
  subst e
  exact iter_apart hA hB hs st i j v hij hv hu
theorem iter_shift (s : Nat) : ∀ k, iterW n A B s (k + 1) = (stepW n A B s).bind fun z => iterW n A B z k := by
  intro k
  induction k with
  | zero =>
    simp only [iterW, Option.bind_some]
    cases stepW n A B s <;> rfl
  | succ k ih =>
    rw [iterW, ih]
    cases stepW n A B s with
    | none => rfl
    | some z => rfl
theorem ends_of_none : ∀ (k f s : Nat), iterW n A B s k = none → k ≤ f → endsW n A B f s = true := by
  intro k
  induction k with
  | zero => intro f s h; simp [iterW] at h
  | succ k ih =>
    intro f s h hf
    obtain ⟨f, rfl⟩ : ∃ g, f = g + 1 := ⟨f - 1, by omega⟩
    rw [iter_shift] at h
    simp only [endsW]
    cases hz : stepW n A B s with
    | none => rfl
    | some z =>
      rw [hz] at h
      exact ih f z h (by omega)
theorem ends_start (hA : Inv2 n A) (hB : Inv2 n B) {s : Nat} (hs : s < 4 * n) (st : isStart n s) : endsW n A B (4 * n) s = true := by
  obtain ⟨k, hk, e⟩ := iter_none hA hB hs st
  exact ends_of_none k _ s e hk

theorem wayM_len : ∀ (f st : Nat) (s : List Bool), (wayM n A B f st s).length = s.length := by
  intro f
  induction f with
  | zero => intro st s; rfl
  | succ f ih =>
    intro st s
    simp only [wayM]
    split
    · rfl
    · rw [ih]; simp
theorem getD_mark (s : List Bool) (x j : Nat) (hj : j < s.length) : (s.set x true).getD j false = true ↔ (x = j ∨ s.getD j false = true) := by
  simp only [List.getD, List.getElem?_set]
  by_cases e : x = j
  · subst e
    simp [hj]
  · simp [e]
/-- what a way marks -/
def Marks (n : Nat) (A B : Nat → Nat) (st j : Nat) : Prop := ∃ k z, iterW n A B st (k + 1) = some z ∧ midW n z = j
theorem wayM_getD : ∀ (f st : Nat) (s : List Bool) (j : Nat), endsW n A B f st = true → j < s.length → ((wayM n A B f st s).getD j false = true ↔ s.getD j false = true ∨ Marks n A B st j) := by
  intro f
  induction f with
  | zero => intro st s j h; cases h
  | succ f ih =>
    intro st s j h hj
    simp only [endsW] at h
    simp only [wayM]
    cases hz : stepW n A B st with
    | none =>
      dsimp only
      constructor
      · exact .inl
      · rintro (h | ⟨k, z, h1, _⟩)
        · exact h
        · rw [iter_shift, hz] at h1
          cases h1
    | some z =>
      rw [hz] at h
      dsimp only at h ⊢
      rw [ih z _ j h (by simpa using hj), getD_mark _ _ _ hj]
      constructor
      · rintro ((h1 | h1) | ⟨k, y, h1, h2⟩)
        · exact .inr ⟨0, z, by rw [iter_shift, hz]; rfl, h1⟩
        · exact .inl h1
        · exact .inr ⟨k + 1, y, by rw [iter_shift, hz]; exact h1, h2⟩
      · rintro (h1 | ⟨k, y, h1, h2⟩)
        · exact .inl (.inr h1)
        · rw [iter_shift, hz] at h1
          cases k with
          | zero =>
            simp only [Option.bind_some, iterW, Option.some.injEq] at h1
            subst h1
            exact .inl (.inl h2)
          | succ k => exact .inr ⟨k, y, h1, h2⟩

/-- the marks of some ways, one after the other -/
def marksAll (n : Nat) (A B : Nat → Nat) (l : List Nat) (s : List Bool) : List Bool := l.foldl (fun s st => wayM n A B (4 * n) st s) s
theorem marksAll_len (l : List Nat) : ∀ s : List Bool, (marksAll n A B l s).length = s.length := by
  induction l with
  | nil => intro s; rfl
  | cons x l ih =>
    intro s
    show (marksAll n A B l (wayM n A B (4 * n) x s)).length = _
    rw [ih, wayM_len]
theorem marksAll_getD (hA : Inv2 n A) (hB : Inv2 n B) (l : List Nat) : ∀ (s : List Bool) (j : Nat), (∀ x ∈ l, isStart n x) → j < s.length → ((marksAll n A B l s).getD j false = true ↔ s.getD j false = true ∨ ∃ x, x ∈ l ∧ Marks n A B x j) := by
  induction l with
  | nil =>
    intro s j _ hj
    simp [marksAll]
  | cons x l ih =>
    intro s j hl hj
    show (marksAll n A B l (wayM n A B (4 * n) x s)).getD j false = true ↔ _
    have hx := hl x (.head _)
    rw [ih _ j (fun y hy => hl y (.tail _ hy)) (by rw [wayM_len]; exact hj), wayM_getD _ _ _ _ (ends_start hA hB (by unfold isStart at hx; omega) hx) hj]
    constructor
    · rintro ((h | h) | ⟨y, hy, h⟩)
      · exact .inl h
      · exact .inr ⟨x, .head _, h⟩
      · exact .inr ⟨y, .tail _ hy, h⟩
    · rintro (h | ⟨y, hy, h⟩)
      · exact .inl (.inl h)
      · cases hy with
        | head => exact .inl (.inr h)
        | tail _ hy => exact .inr ⟨y, hy, h⟩
theorem bools_ext {s t : List Bool} (hl : s.length = t.length) (h : ∀ j, j < s.length → (s.getD j false = true ↔ t.getD j false = true)) : s = t := by
  apply List.ext_getElem hl
  intro i h1 h2
  have := h i h1
  simp only [List.getD, List.getElem?_eq_getElem h1, List.getElem?_eq_getElem h2, Option.getD_some] at this
  cases e1 : s[i] <;> cases e2 : t[i] <;> simp_all
theorem marksAll_same (hA : Inv2 n A) (hB : Inv2 n B) {l l' : List Nat} (s : List Bool) (h : ∀ x ∈ l, isStart n x) (h' : ∀ x ∈ l', isStart n x) (hm : ∀ x, x ∈ l ↔ x ∈ l') : marksAll n A B l s = marksAll n A B l' s := by
  apply bools_ext
  · rw [marksAll_len, marksAll_len]
  · intro j hj
    rw [marksAll_len] at hj
    rw [marksAll_getD hA hB l s j h hj, marksAll_getD hA hB l' s j h' hj]
    simp only [hm]

/-- the starts of all ways -/
def startsW (n : Nat) : List Nat := (List.range (2 * n)).map fun i => if i < n then i else 2 * n + i
theorem startsW_mem (x : Nat) : x ∈ startsW n ↔ isStart n x := by
  unfold startsW isStart
  rw [List.mem_map]
  constructor
  · rintro ⟨i, hi, rfl⟩
    have := List.mem_range.1 hi
    split <;> omega
  · intro h
    by_cases hx : x < n
    · exact ⟨x, List.mem_range.2 (by omega), by rw [if_pos hx]⟩
    · exact ⟨x - 2 * n, List.mem_range.2 (by omega), by rw [if_neg (by omega)]; omega⟩
def seenW (n : Nat) (A B : Nat → Nat) : List Bool := marksAll n A B (startsW n) (List.replicate n false)
theorem seenW_len : (seenW n A B).length = n := by rw [seenW, marksAll_len]; simp
theorem seenW_getD (hA : Inv2 n A) (hB : Inv2 n B) {j : Nat} (hj : j < n) : (seenW n A B).getD j false = true ↔ ∃ x, isStart n x ∧ Marks n A B x j := by
  rw [seenW, marksAll_getD hA hB _ _ j (fun x hx => (startsW_mem x).1 hx) (by simpa using hj)]
  simp only [startsW_mem]
  have : (List.replicate n false).getD j false = false := by simp [List.getD, hj]
  rw [this]
  simp

/-- places without a mark, and two maps that stay among them -/
def Cl (n : Nat) (f g : Nat → Nat) (s : List Bool) : Prop :=
  s.length = n ∧ ∀ j, j < n → s.getD j false = false → (f j < n ∧ s.getD (f j) false = false ∧ f (f j) = j ∧ f j ≠ j) ∧ (g j < n ∧ s.getD (g j) false = false ∧ g (g j) = j ∧ g j ≠ j)
theorem Cl.swap {f g : Nat → Nat} {s : List Bool} (h : Cl n f g s) : Cl n g f s := ⟨h.1, fun j hj hs => ⟨(h.2 j hj hs).2, (h.2 j hj hs).1⟩⟩

theorem seenW_cl (hA : Inv2 n A) (hB : Inv2 n B) : Cl n (fun j => 2 * n - 1 - A (2 * n - 1 - j)) B (seenW n A B) ∧ ∀ j, j < n → (seenW n A B).getD j false = false → n ≤ A (2 * n - 1 - j) := by
  have un : ∀ j, j < n → (seenW n A B).getD j false = false → ∀ x, isStart n x → ¬ Marks n A B x j := fun j hj hs x hx hm => by
    have := (seenW_getD hA hB hj).2 ⟨x, hx, hm⟩
    rw [hs] at this
    cases this
  have fls : ∀ j, j < n → (∀ x, isStart n x → ¬ Marks n A B x j) → (seenW n A B).getD j false = false := fun j hj h => by
    cases e : (seenW n A B).getD j false with
    | false => rfl
    | true =>
      obtain ⟨x, hx, hm⟩ := (seenW_getD hA hB hj).1 e
      exact absurd hm (h x hx)
  have hb1 : ∀ j, j < n → (seenW n A B).getD j false = false → B j < n := fun j hj hs => by
    apply Classical.byContradiction
    intro hge
    have hB1 := hB j (by omega)
    refine un j hj hs (2 * n + B j) (by unfold isStart; omega) ⟨0, 2 * n - 1 - j, ?_, by unfold midW; rw [if_pos (by omega)]; omega⟩
    rw [iter_shift]
    have : stepW n A B (2 * n + B j) = some (2 * n - 1 - j) := by
      unfold stepW
      rw [if_neg (by omega), show 2 * n + B j - 2 * n = B j by omega, hB1.2.1, if_neg (by omega)]
    rw [this]
    rfl
  have ha1 : ∀ j, j < n → (seenW n A B).getD j false = false → n ≤ A (2 * n - 1 - j) := fun j hj hs => by
    apply Classical.byContradiction
    intro hge
    have hA1 := hA (2 * n - 1 - j) (by omega)
    refine un j hj hs (A (2 * n - 1 - j)) (by unfold isStart; omega) ⟨0, 2 * n + j, ?_, by unfold midW; rw [if_neg (by omega)]; omega⟩
    rw [iter_shift]
    have : stepW n A B (A (2 * n - 1 - j)) = some (2 * n + j) := by
      unfold stepW
      rw [if_pos (by omega), hA1.2.1, if_neg (by omega), show 2 * n - 1 - (2 * n - 1 - j) = j by omega]
    rw [this]
    rfl
  have hb2 : ∀ j, j < n → (seenW n A B).getD j false = false → (seenW n A B).getD (B j) false = false := fun j hj hs => by
    have hBn := hb1 j hj hs
    have hB1 := hB j (by omega)
    refine fls (B j) hBn fun x hx => ?_
    rintro ⟨k, z, h1, h2⟩
    have hx4 : x < 4 * n := by unfold isStart at hx; omega
    have hz4 := iter_lt hx4 _ _ h1
    unfold midW at h2
    split at h2
    · rename_i hz2
      simp only [iterW, Option.bind_eq_some_iff] at h1
      obtain ⟨y, h3, h4⟩ := h1
      rcases step_lt h4 (iter_lt hx4 _ _ h3) with ⟨a1, a2, a3, a4, a5⟩ | ⟨a1, a2, a3, a4, a5⟩
      · omega
      · have hy := iter_lt hx4 _ _ h3
        have hB2 := hB (y - 2 * n) (by omega)
        have e : B (y - 2 * n) = B j := by omega
        have e2 : y - 2 * n = j := by rw [← hB2.2.1, e, hB1.2.1]
        cases k with
        | zero =>
          simp only [iterW, Option.some.injEq] at h3
          unfold isStart at hx
          omega
        | succ k => exact un j hj hs x hx ⟨k, y, h3, by unfold midW; rw [if_neg (by omega)]; exact e2⟩
    · rename_i hz2
      refine un j hj hs x hx ⟨k + 1, 2 * n - 1 - j, ?_, by unfold midW; rw [if_pos (by omega)]; omega⟩
      rw [iterW, h1]
      show stepW n A B z = _
      unfold stepW
      rw [if_neg hz2, h2, hB1.2.1, if_neg (by omega)]
  have ha2 : ∀ j, j < n → (seenW n A B).getD j false = false → (seenW n A B).getD (2 * n - 1 - A (2 * n - 1 - j)) false = false := fun j hj hs => by
    have hAn := ha1 j hj hs
    have hA1 := hA (2 * n - 1 - j) (by omega)
    refine fls _ (by omega) fun x hx => ?_
    rintro ⟨k, z, h1, h2⟩
    have hx4 : x < 4 * n := by unfold isStart at hx; omega
    have hz4 := iter_lt hx4 _ _ h1
    unfold midW at h2
    split at h2
    · rename_i hz2
      have ez : z = A (2 * n - 1 - j) := by omega
      refine un j hj hs x hx ⟨k + 1, 2 * n + j, ?_, by unfold midW; rw [if_neg (by omega)]; omega⟩
      rw [iterW, h1]
      show stepW n A B z = _
      unfold stepW
      rw [if_pos hz2, ez, hA1.2.1, if_neg (by omega), show 2 * n - 1 - (2 * n - 1 - j) = j by omega]
    · rename_i hz2
      simp only [iterW, Option.bind_eq_some_iff] at h1
      obtain ⟨y, h3, h4⟩ := h1
      rcases step_lt h4 (iter_lt hx4 _ _ h3) with ⟨a1, a2, a3, a4, a5⟩ | ⟨a1, a2, a3, a4, a5⟩
      · have hA2 := hA y a3
        have e : A y = A (2 * n - 1 - j) := by omega
        have e2 : y = 2 * n - 1 - j := by rw [← hA2.2.1, e, hA1.2.1]
        cases k with
        | zero =>
          simp only [iterW, Option.some.injEq] at h3
          unfold isStart at hx
          omega
        | succ k => exact un j hj hs x hx ⟨k, y, h3, by unfold midW; rw [if_pos (by omega)]; omega⟩
      · omega
  refine ⟨⟨seenW_len, fun j hj hs => ⟨⟨?_, ha2 j hj hs, ?_, ?_⟩, hb1 j hj hs, hb2 j hj hs, (hB j (by omega)).2.1, (hB j (by omega)).2.2⟩⟩, ha1⟩
  · have := hA (2 * n - 1 - j) (by omega)
    have := ha1 j hj hs
    dsimp only
    omega
  · have h1 := hA (2 * n - 1 - j) (by omega)
    have := ha1 j hj hs
    dsimp only
    rw [show 2 * n - 1 - (2 * n - 1 - A (2 * n - 1 - j)) = A (2 * n - 1 - j) by omega, h1.2.1]
    omega
  · have h1 := hA (2 * n - 1 - j) (by omega)
    have := ha1 j hj hs
    dsimp only
    omega
end

section
variable {n : Nat}

/-- a loop's marks, while it is gone round -/
structure Tr (n : Nat) (f g : Nat → Nat) (s0 : List Bool) (x0 : Nat) (s : List Bool) (x p : Nat) : Prop where
  len : s.length = n
  up : ∀ y, s0.getD y false = true → s.getD y false = true
  cf : ∀ y, y < n → s.getD y false = true → s0.getD y false = false → s.getD (f y) false = true
  hp : p < n ∧ s.getD p false = true ∧ s0.getD p false = false
  hx : s.getD x0 false = true
  nx : x = g p
  cg : ∀ y, y < n → s.getD y false = true → s0.getD y false = false → y ≠ x0 → y ≠ p → s.getD (g y) false = true ∧ g y ≠ p

/-- a loop's marks, at the end -/
structure Fin0 (n : Nat) (f g : Nat → Nat) (s0 : List Bool) (x0 : Nat) (s : List Bool) : Prop where
  len : s.length = n
  up : ∀ y, s0.getD y false = true → s.getD y false = true
  hx : s.getD x0 false = true
  cf : ∀ y, y < n → s.getD y false = true → s0.getD y false = false → s.getD (f y) false = true
  cg : ∀ y, y < n → s.getD y false = true → s0.getD y false = false → s.getD (g y) false = true

theorem getD_two {s : List Bool} {a b j : Nat} (hj : j < s.length) : ((s.set a true).set b true).getD j false = true ↔ (b = j ∨ a = j ∨ s.getD j false = true) := by
  rw [getD_mark _ _ _ (by simpa using hj), getD_mark _ _ _ hj]
theorem getD_true_lt {s : List Bool} {j : Nat} (h : s.getD j false = true) : j < s.length := by
  apply Classical.byContradiction
  intro hge
  rw [List.getD, List.getElem?_eq_none (by omega)] at h
  cases h

theorem tr_end {f g : Nat → Nat} {s0 : List Bool} (c : Cl n f g s0) {x0 : Nat} (hx0 : x0 < n) (hs0 : s0.getD x0 false = false) : ∀ (k : Nat) (s : List Bool) (x p : Nat), Tr n f g s0 x0 s x p → s.count false ≤ k → Fin0 n f g s0 x0 (trail f g k s x) := by
  have close : ∀ (s : List Bool) (x p : Nat), Tr n f g s0 x0 s x p → s.getD x false = true → Fin0 n f g s0 x0 s := by
    intro s x p t hx
    have cp := c.2 p t.hp.1 t.hp.2.2
    rw [← t.nx] at cp
    have hxn : x < n := cp.2.1
    have h0x : s0.getD x false = false := cp.2.2.1
    have e : x = x0 := by
      apply Classical.byContradiction
      intro hne
      have := (t.cg x hxn hx h0x hne cp.2.2.2.2).2
      exact this cp.2.2.2.1
    refine ⟨t.len, t.up, t.hx, t.cf, fun y hy h1 h2 => ?_⟩
    by_cases e1 : y = p
    · rw [e1, ← t.nx, e]
      exact t.hx
    · by_cases e2 : y = x0
      · rw [e2, ← e, cp.2.2.2.1]
        exact t.hp.2.1
      · exact (t.cg y hy h1 h2 e2 e1).1
  intro k
  induction k with
  | zero =>
    intro s x p t hk
    have cp := c.2 p t.hp.1 t.hp.2.2
    rw [← t.nx] at cp
    exact close s x p t (count_zero (by omega) (by rw [t.len]; exact cp.2.1))
  | succ k ih =>
    intro s x p t hk
    have cp := c.2 p t.hp.1 t.hp.2.2
    rw [← t.nx] at cp
    have hxn : x < n := cp.2.1
    have h0x : s0.getD x false = false := cp.2.2.1
    cases hx : s.getD x false with
    | true =>
      rw [trail_seen _ _ _ hx]
      exact close s x p t hx
    | false =>
      rw [trail_step _ _ _ hx]
      have cx := c.2 x hxn h0x
      have hlx : x < s.length := by rw [t.len]; exact hxn
      have c1 := count_mark hlx hx
      have c2 := count_more (s := s.set x true) (x := f x) (by simp only [List.length_set]; rw [t.len]; exact cx.1.1)
      have g2 : ∀ j, j < n → (((s.set x true).set (f x) true).getD j false = true ↔ (f x = j ∨ x = j ∨ s.getD j false = true)) := fun j hj => getD_two (by rw [t.len]; exact hj)
      have fxs : s.getD (f x) false = false := by
        cases e : s.getD (f x) false with
        | false => rfl
        | true =>
          have := t.cf (f x) cx.1.1 e cx.1.2.1
          rw [cx.1.2.2.1, hx] at this
          cases this
      refine ih _ _ (f x) ⟨by simpa using t.len, fun y hy => ?_, fun y hy h1 h2 => ?_, ⟨cx.1.1, (g2 _ cx.1.1).2 (.inl rfl), cx.1.2.1⟩, (g2 _ hx0).2 (.inr (.inr t.hx)), rfl, fun y hy h1 h2 h3 h4 => ?_⟩ (by omega)
      · have hyn : y < n := by have := getD_true_lt (t.up y hy); rw [t.len] at this; exact this
        exact (g2 y hyn).2 (.inr (.inr (t.up y hy)))
      · have cy := c.2 y hy h2
        rcases (g2 y hy).1 h1 with e | e | e
        · refine (g2 _ cy.1.1).2 (.inr (.inl ?_))
          rw [← e, cx.1.2.2.1]
        · exact (g2 _ cy.1.1).2 (.inl (by rw [e]))
        · exact (g2 _ cy.1.1).2 (.inr (.inr (t.cf y hy e h2)))
      · have cy := c.2 y hy h2
        rcases (g2 y hy).1 h1 with e | e | e
        · exact absurd e.symm h4
        · subst e
          rw [cp.2.2.2.1]
          exact ⟨(g2 _ t.hp.1).2 (.inr (.inr t.hp.2.1)), fun e => by rw [← e, t.hp.2.1] at fxs; cases fxs⟩
        · by_cases e1 : y = p
          · rw [e1, ← t.nx]
            exact ⟨(g2 _ hxn).2 (.inr (.inl rfl)), fun e => cx.1.2.2.2 e.symm⟩
          · have := t.cg y hy e h2 h3 e1
            exact ⟨(g2 _ cy.2.1).2 (.inr (.inr this.1)), fun e => by rw [← e, this.1] at fxs; cases fxs⟩

theorem trail_fin {f g : Nat → Nat} {s0 : List Bool} (c : Cl n f g s0) {x0 : Nat} (hx0 : x0 < n) (hs0 : s0.getD x0 false = false) {k : Nat} (hk : s0.count false ≤ k) : Fin0 n f g s0 x0 (trail f g k s0 x0) := by
  have cx := c.2 x0 hx0 hs0
  have hlx : x0 < s0.length := by rw [c.1]; exact hx0
  have c1 := count_mark hlx hs0
  obtain ⟨k, rfl⟩ : ∃ m, k = m + 1 := ⟨k - 1, by omega⟩
  rw [trail_step _ _ _ hs0]
  have c2 := count_more (s := s0.set x0 true) (x := f x0) (by simp only [List.length_set]; rw [c.1]; exact cx.1.1)
  have g2 : ∀ j, j < n → (((s0.set x0 true).set (f x0) true).getD j false = true ↔ (f x0 = j ∨ x0 = j ∨ s0.getD j false = true)) := fun j hj => getD_two (by rw [c.1]; exact hj)
  refine tr_end c hx0 hs0 k _ _ (f x0) ⟨by simpa using c.1, fun y hy => ?_, fun y hy h1 h2 => ?_, ⟨cx.1.1, (g2 _ cx.1.1).2 (.inl rfl), cx.1.2.1⟩, (g2 _ hx0).2 (.inr (.inl rfl)), rfl, fun y hy h1 h2 h3 h4 => ?_⟩ (by omega)
  · have hyn : y < n := by have := getD_true_lt hy; rw [c.1] at this; exact this
    exact (g2 y hyn).2 (.inr (.inr hy))
  · have cy := c.2 y hy h2
    rcases (g2 y hy).1 h1 with e | e | e
    · refine (g2 _ cy.1.1).2 (.inr (.inl ?_))
      rw [← e, cx.1.2.2.1]
    · exact (g2 _ cy.1.1).2 (.inl (by rw [e]))
    · rw [h2] at e; cases e
  · rcases (g2 y hy).1 h1 with e | e | e
    · exact absurd e.symm h4
    · exact absurd e.symm h3
    · rw [h2] at e; cases e

/-- a loop marks nothing but what can be reached -/
theorem trail_sub {f g : Nat → Nat} {P : Nat → Prop} (hf : ∀ y, P y → P (f y)) (hg : ∀ y, P y → P (g y)) : ∀ (k : Nat) (s : List Bool) (x y : Nat), P x → y < s.length → (trail f g k s x).getD y false = true → s.getD y false = true ∨ P y := by
  intro k
  induction k with
  | zero => intro s x y hx hy h; exact .inl h
  | succ k ih =>
    intro s x y hx hy h
    cases hs : s.getD x false with
    | true => rw [trail_seen _ _ _ hs] at h; exact .inl h
    | false =>
      rw [trail_step _ _ _ hs] at h
      rcases ih _ _ y (hg _ (hf _ hx)) (by simpa using hy) h with h | h
      · rcases (getD_two hy).1 h with e | e | e
        · exact .inr (e ▸ hf x hx)
        · exact .inr (e ▸ hx)
        · exact .inl e
      · exact .inr h

theorem trail_swap {f g : Nat → Nat} {s0 : List Bool} (c : Cl n f g s0) {x0 : Nat} (hx0 : x0 < n) (hs0 : s0.getD x0 false = false) {k : Nat} (hk : s0.count false ≤ k) : trail f g k s0 x0 = trail g f k s0 x0 := by
  have F := trail_fin c hx0 hs0 hk
  have G := trail_fin c.swap hx0 hs0 hk
  have half : ∀ {f g : Nat → Nat} {t : List Bool}, Cl n f g s0 → Fin0 n f g s0 x0 t → ∀ {f' g' : Nat → Nat}, (f' = f ∧ g' = g ∨ f' = g ∧ g' = f) → ∀ y, y < n → (trail f' g' k s0 x0).getD y false = true → t.getD y false = true := by
    intro f g t c T f' g' hfg y hy h
    have key : ∀ (h : Nat → Nat), (h = f ∨ h = g) → ∀ y, (y < n ∧ s0.getD y false = false ∧ t.getD y false = true) → (h y < n ∧ s0.getD (h y) false = false ∧ t.getD (h y) false = true) := by
      rintro h (rfl | rfl) y ⟨h1, h2, h3⟩
      · exact ⟨(c.2 y h1 h2).1.1, (c.2 y h1 h2).1.2.1, T.cf y h1 h3 h2⟩
      · exact ⟨(c.2 y h1 h2).2.1, (c.2 y h1 h2).2.2.1, T.cg y h1 h3 h2⟩
    rcases trail_sub (P := fun y => y < n ∧ s0.getD y false = false ∧ t.getD y false = true) (key f' (by rcases hfg with ⟨e, _⟩ | ⟨e, _⟩ <;> simp [e])) (key g' (by rcases hfg with ⟨_, e⟩ | ⟨_, e⟩ <;> simp [e])) k s0 x0 y ⟨hx0, hs0, T.hx⟩ (by rw [c.1]; exact hy) h with h | h
    · exact T.up y h
    · exact h.2.2
  apply bools_ext
  · rw [trail_len, trail_len]
  · intro j hj
    rw [trail_len, c.1] at hj
    exact ⟨half c.swap G (.inr ⟨rfl, rfl⟩) j hj, half c F (.inr ⟨rfl, rfl⟩) j hj⟩
theorem trail_cl {f g : Nat → Nat} {s0 : List Bool} (c : Cl n f g s0) {x0 : Nat} (hx0 : x0 < n) (hs0 : s0.getD x0 false = false) {k : Nat} (hk : s0.count false ≤ k) : Cl n f g (trail f g k s0 x0) := by
  have F := trail_fin c hx0 hs0 hk
  refine ⟨F.len, fun j hj hs => ?_⟩
  have h0 : s0.getD j false = false := by
    cases e : s0.getD j false with
    | false => rfl
    | true => rw [F.up j e] at hs; cases hs
  have cj := c.2 j hj h0
  refine ⟨⟨cj.1.1, ?_, cj.1.2.2⟩, cj.2.1, ?_, cj.2.2.2⟩
  · cases e : (trail f g k s0 x0).getD (f j) false with
    | false => rfl
    | true =>
      have := F.cf (f j) cj.1.1 e cj.1.2.1
      rw [cj.1.2.2.1, hs] at this
      cases this
  · cases e : (trail f g k s0 x0).getD (g j) false with
    | false => rfl
    | true =>
      have := F.cg (g j) cj.2.1 e cj.2.2.1
      rw [cj.2.2.2.1, hs] at this
      cases this

/-- all loops that go on from some marks -/
def roundsFr (f g : Nat → Nat) (n : Nat) (s0 : List Bool) : Nat → List Bool × Nat
  | 0 => (s0, 0)
  | i + 1 => let r := roundsFr f g n s0 i
    if r.1.getD i false then r else (trail f g n r.1 i, r.2 + 1)
theorem roundsFr_seen {f g : Nat → Nat} {i k : Nat} {s s0 : List Bool} (e : roundsFr f g n s0 i = (s, k)) (h : s.getD i false = true) : roundsFr f g n s0 (i + 1) = (s, k) := by
  simp only [roundsFr, e]
  rw [if_pos h]
theorem roundsFr_new {f g : Nat → Nat} {i k : Nat} {s s0 : List Bool} (e : roundsFr f g n s0 i = (s, k)) (h : s.getD i false = false) : roundsFr f g n s0 (i + 1) = (trail f g n s i, k + 1) := by
  simp only [roundsFr, e]
  rw [if_neg (by rw [h]; decide)]
theorem roundsFr_le (f g : Nat → Nat) (s0 : List Bool) : ∀ i, (roundsFr f g n s0 i).2 ≤ i := by
  intro i
  induction i with
  | zero => simp [roundsFr]
  | succ i ih =>
    simp only [roundsFr]
    split <;> (try dsimp only) <;> omega
theorem roundsFr_cl {f g : Nat → Nat} {s0 : List Bool} (c : Cl n f g s0) : ∀ i, i ≤ n → Cl n f g (roundsFr f g n s0 i).1 := by
  intro i
  induction i with
  | zero => intro _; exact c
  | succ i ih =>
    intro hi
    have ci := ih (by omega)
    obtain ⟨⟨s, k⟩, hr⟩ : ∃ r, roundsFr f g n s0 i = r := ⟨_, rfl⟩
    rw [hr] at ci
    cases hs : s.getD i false with
    | true => rw [roundsFr_seen hr hs]; exact ci
    | false =>
      rw [roundsFr_new hr hs]
      exact trail_cl ci (by omega) hs (by rw [← ci.1]; exact List.count_le_length)
theorem roundsFr_swap {f g : Nat → Nat} {s0 : List Bool} (c : Cl n f g s0) : ∀ i, i ≤ n → roundsFr f g n s0 i = roundsFr g f n s0 i := by
  intro i
  induction i with
  | zero => intro _; rfl
  | succ i ih =>
    intro hi
    have e := ih (by omega)
    have ci := roundsFr_cl c i (by omega)
    obtain ⟨⟨s, k⟩, hr⟩ : ∃ r, roundsFr f g n s0 i = r := ⟨_, rfl⟩
    rw [hr] at e ci
    cases hs : s.getD i false with
    | true => rw [roundsFr_seen hr hs, roundsFr_seen e.symm hs]
    | false => rw [roundsFr_new hr hs, roundsFr_new e.symm hs, trail_swap ci (by omega) hs (by rw [← ci.1]; exact List.count_le_length)]
end

end Go.Proofs.Ytcepogfmajlcjaa

/-
  Contracts of loops of matchings are proved.
  They hold for all rows of numbers.
-/
set_option linter.unusedVariables false
set_option linter.unusedSimpArgs false
namespace Go.Proofs.Ytcepogfmajlcjaa
open Go.Proofs.Ytcepogfmajlcjaa.Ab Go.Proofs.Ytcepogfmajlcjaa.Pl

theorem loopsOf_yes {a b : List Int} (ha : isNC a = true) (hb : isNC b = true) (he : a.length = b.length) : loopsOf a b = (loopsN (ga a) (ga b) a.length : Int) := if_pos ⟨ha, hb, he⟩
/-- the maps that loops follow stay among the places -/
def into (l : List Int) (n : Nat) : Prop := ∀ i, i < n → l.getD i 0 = ga l i ∧ ga l i < n
theorem into_of {l : List Int} (h : isM l = true) : into l l.length := fun i hi => ⟨(isM_ga h hi).2.2.1, (isM_ga h hi).1⟩








end Go.Proofs.Ytcepogfmajlcjaa

/-
  Contracts of diagrams that are closed or flipped, and of matchings that are turned, are proved.
  They hold for all rows of numbers.
-/
set_option linter.unusedVariables false
set_option linter.unusedSimpArgs false
namespace Go.Proofs.Ytcepogfmajlcjaa
open Go.Proofs.Ytcepogfmajlcjaa.Ab Go.Proofs.Ytcepogfmajlcjaa.Pl


theorem idD_len (n : Nat) : (idD n).length = 2 * n := by simp [idD]
theorem ga_idD {n i : Nat} (h : i < 2 * n) : (idD n).getD i 0 = ((2 * n - 1 - i : Nat) : Int) ∧ ga (idD n) i = 2 * n - 1 - i := by
  have e : (idD n).getD i 0 = ((2 * n - 1 - i : Nat) : Int) := by
    rw [idD, tab_getD _ h]
    omega
  exact ⟨e, by rw [ga, e]; rfl⟩
def traceL (l : List Int) : Int := if isD l = true then (loopsN (ga l) (ga (idD (l.length / 2))) l.length : Int) else -1




/-- a diagram upside down, so many points of it -/
def flipTo (l : List Int) : Nat → List Int
  | 0 => List.replicate l.length 0
  | i + 1 => (flipTo l i).set ((l.length : Int) - 1 - (i : Int)).toNat ((l.length : Int) - 1 - l.getD i 0)
theorem flipTo_len (l : List Int) : ∀ i, (flipTo l i).length = l.length := by
  intro i
  induction i with
  | zero => simp [flipTo]
  | succ i ih => simp [flipTo, ih]
def flipD (l : List Int) : List Int × Bool := if isD l = true then (flipTo l l.length, true) else ([], false)
theorem flipD_len (l : List Int) : (flipD l).1.length ≤ 16 := by
  unfold flipD
  split
  · rename_i h
    have := (isM_spec (isNC_spec (isD_spec h).2)).1
    rw [flipTo_len]
    exact this
  · simp





/-- a matching turned, so many points of it -/
def turnTo (l : List Int) (k : Int) : Nat → List Int
  | 0 => List.replicate l.length 0
  | i + 1 => (turnTo l k i).set (((i : Int) - k + l.length).tmod l.length).toNat ((l.getD i 0 - k + l.length).tmod l.length)
theorem turnTo_len (l : List Int) (k : Int) : ∀ i, (turnTo l k i).length = l.length := by
  intro i
  induction i with
  | zero => simp [turnTo]
  | succ i ih => simp [turnTo, ih]
def turnOk (l : List Int) (k : Int) : Prop := isM l = true ∧ 0 ≤ k ∧ k ≤ max 0 ((l.length : Int) - 1)
instance (l : List Int) (k : Int) : Decidable (turnOk l k) := by unfold turnOk; infer_instance
def turnM (l : List Int) (k : Int) : List Int × Bool := if turnOk l k then (turnTo l k l.length, true) else ([], false)
theorem turnM_len (l : List Int) (k : Int) : (turnM l k).1.length ≤ 16 := by
  unfold turnM
  split
  · rename_i h
    have := (isM_spec h.1).1
    rw [turnTo_len]
    exact this
  · simp
theorem tmod_in {a n : Int} (ha : 0 ≤ a) (hn : 0 < n) : 0 ≤ a.tmod n ∧ a.tmod n < n := ⟨Int.tmod_nonneg _ ha, Int.tmod_lt_of_pos _ hn⟩



/-- two rows and whether there are some -/
def Ret2 (x y : List Int) (t : Bool) (h0 : H) (v : AV) (h' : H) : Prop := ∃ b c, v = .tup [.slice b 0 x.length x.length, .slice c 0 y.length y.length, .bool t] ∧ St h0 h' [(c, row (ints y)), (b, row (ints x))]
def turn2 (l m : List Int) : List Int × List Int × Bool := if loopsOf l m < 1 then ([], [], false) else ((turnM l 1).1, (turnM m 1).1, true)
theorem turn2_len (l m : List Int) : (turn2 l m).1.length ≤ 16 ∧ (turn2 l m).2.1.length ≤ 16 := by
  unfold turn2
  split
  · simp
  · exact ⟨turnM_len l 1, turnM_len m 1⟩




end Go.Proofs.Ytcepogfmajlcjaa

/-
  Contracts of words of Fuss that are joined, ranked and split are proved.
  They hold for all arguments.
-/
set_option linter.unusedVariables false
set_option linter.unusedSimpArgs false
namespace Go.Proofs.Ytcepogfmajlcjaa
open Go.Proofs.Ytcepogfmajlcjaa.Ab Go.Proofs.Ytcepogfmajlcjaa.Pl

theorem strsArg_two {h : H} {v : AV} (m : StrsArg h v) : ∃ l, (∀ s ∈ l, s.length ≤ 9223372036854775807) ∧ l.length ≤ 9223372036854775807 ∧ CellsAt h v (strs l) ∧ ((v = .nilslice ∧ l = []) ∨ ∃ b c, v = .slice b 0 l.length c) := by
  obtain ⟨l, bd, hl, hv⟩ := m
  refine ⟨l, bd, hl, hv, ?_⟩
  rcases hv with ⟨rfl, e⟩ | ⟨b, c, rfl, hb⟩
  · exact .inl ⟨rfl, List.eq_nil_of_length_eq_zero (by rw [← strs_length, e]; rfl)⟩
  · exact .inr ⟨b, c, by rw [strs_length]⟩
theorem getD_bd {l : List (List UInt8)} {M : Nat} (h : ∀ s ∈ l, s.length ≤ M) (i : Nat) : (l.getD i []).length ≤ M := by
  by_cases hi : i < l.length
  · rw [List.getD, List.getElem?_eq_getElem hi]
    exact h _ (List.getElem_mem hi)
  · rw [List.getD, List.getElem?_eq_none (by omega)]
    exact Nat.zero_le _



/-- words that are joined by d, so many of them -/
def glueTo (l : List (List UInt8)) : Nat → List UInt8
  | 0 => []
  | i + 1 => (glueTo l i ++ (if 0 < i then [100] else [])) ++ l.getD i []
theorem glueTo_len {l : List (List UInt8)} (h : ∀ i, (l.getD i []).length ≤ 24) : ∀ i, (glueTo l i).length ≤ 25 * i := by
  intro i
  induction i with
  | zero => simp [glueTo]
  | succ i ih =>
    have := h i
    simp only [glueTo, List.length_append]
    split <;> simp only [List.length_cons, List.length_nil] <;> omega
def joinOk (m : Int) (l : List (List UInt8)) : Prop := (1 ≤ m ∧ m ≤ 4) ∧ (l.length : Int) = m ∧ (∀ i, i < l.length → isFuss m (l.getD i []) = true) ∧ isFuss m (117 :: glueTo l l.length) = true
instance (m : Int) (l : List (List UInt8)) : Decidable (joinOk m l) := by unfold joinOk; infer_instance
def joinF (m : Int) (l : List (List UInt8)) : List UInt8 × Bool := if joinOk m l then (117 :: glueTo l l.length, true) else ([], false)
theorem isFuss_len {m : Int} {w : List UInt8} (h : isFuss m w = true) : (1 ≤ m ∧ m ≤ 4) ∧ w.length ≤ 24 := by
  unfold isFuss at h
  simp only [Bool.and_eq_true, decide_eq_true_eq] at h
  exact h.1

theorem glued_ok (l : List (List UInt8)) (b C : Nat) (h0 : H) (hb : Has h0 b (strs l)) (hl : l.length ≤ 4) (hw : ∀ i, (l.getD i []).length ≤ 24) : AC env 102 [.slice b 0 l.length C, .str [100]] h0 fun v h' => v = .str (glueTo l l.length) ∧ h' = h0 := by
  refine AC.enter Try.func102 Try.call102 rfl Try.ntmps102 (of_decide_eq_true (by rfl)) ?_
  repeat' (first
    | refine AW.seq ?_
    | (refine AW.region ?_; conv => whnf)
    | refine AW.block ?_
    | (refine AW.skip ?_; conv => whnf)
    | (refine AW.ret ?_; conv => whnf)
    | (refine AW.exit ?_; conv => whnf)
    | refine AW.cond (by rfl) ?_
    | (refine Br.tt ?_; conv => whnf)
    | (refine Br.ff ?_; conv => whnf)
    | refine Br.not ?_
    | (refine Br.t (beq_self_eq_true _) ?_; conv => whnf)
    | (refine Br.t (by assumption) ?_; conv => whnf)
    | (refine Br.f (by assumption) ?_; conv => whnf)
    | (refine Br.dt (by omega) ?_; conv => whnf)
    | (refine Br.df (by omega) ?_; conv => whnf)
    | (refine Br.it (by omega) ?_; conv => whnf)
    | (refine Br.if (by omega) ?_; conv => whnf)
    | (refine Br.nt (by omega) ?_; conv => whnf)
    | (refine Br.nf (by omega) ?_; conv => whnf)
    | (refine Br.dec (fun hc => ?_) (fun hc => ?_) <;> conv => whnf)
    | (refine Br.ieq (fun hc => ?_) (fun hc => ?_) <;> conv => whnf)
    | (refine Br.ine (fun hc => ?_) (fun hc => ?_) <;> conv => whnf)
    | (refine Br.mk (fun hc => ?_) (fun hc => ?_) <;> conv => whnf)
    | (refine Wr.i64 (by omega) ?_; conv => whnf)
    | (refine Ck.mk (by omega) ?_; conv => whnf)
    | (refine Wr.i64 (by simp only [List.length_drop, List.length_take, List.length_append, List.length_cons, List.length_nil]; omega) ?_; conv => whnf)
    | (refine Ck.mk (by simp only [List.length_drop, List.length_take, List.length_append, List.length_cons, List.length_nil]; omega) ?_; conv => whnf)
    | (refine Has.load1 (by first | assumption | exact St.has (by assumption) (by repeat first | exact .head _ | apply List.Mem.tail) | exact St.arg (by assumption) (by assumption)) ?_; conv => whnf)
    | (refine Has.loadS (by first | assumption | exact St.has (by assumption) (by repeat first | exact .head _ | apply List.Mem.tail) | exact St.arg (by assumption) (by assumption)) rfl (by first | (simp; done) | omega | (simp only [List.length_set, List.length_append, List.length_cons, List.length_nil, List.length_replicate, tab_length]; omega) | (simp; omega)) ?_; conv => whnf)
    | (refine Ck.mk (by simp; omega) ?_; conv => whnf))
  refine AW.loop2 (fun (s : List UInt8) (i : Nat) => [(1, .str [100]), (5, .str s), (8, .slice b 0 l.length C), (9, .int .i64 l.length), (10, .int .i64 i)]) (fun s i h' => i ≤ l.length ∧ s = glueTo l i ∧ h' = h0) (fun _ i => l.length - i) [] 0
    (Less.cons rfl (Less.cons rfl (Less.cons rfl (Less.cons rfl (Less.cons rfl (Less.nil _)))))) ⟨by omega, rfl, rfl⟩ ?_
  rintro s i h1 ⟨hi, rfl, rfl⟩
  have bi : (l.getD (i : Int).toNat []).length ≤ 24 := hw i
  have bg := glueTo_len hw i
  repeat' (first
    | refine AW.seq ?_
    | (refine AW.region ?_; conv => whnf)
    | refine AW.block ?_
    | (refine AW.skip ?_; conv => whnf)
    | (refine AW.ret ?_; conv => whnf)
    | (refine AW.exit ?_; conv => whnf)
    | refine AW.cond (by rfl) ?_
    | (refine Br.tt ?_; conv => whnf)
    | (refine Br.ff ?_; conv => whnf)
    | refine Br.not ?_
    | (refine Br.t (beq_self_eq_true _) ?_; conv => whnf)
    | (refine Br.t (by assumption) ?_; conv => whnf)
    | (refine Br.f (by assumption) ?_; conv => whnf)
    | (refine Br.dt (by omega) ?_; conv => whnf)
    | (refine Br.df (by omega) ?_; conv => whnf)
    | (refine Br.it (by omega) ?_; conv => whnf)
    | (refine Br.if (by omega) ?_; conv => whnf)
    | (refine Br.nt (by omega) ?_; conv => whnf)
    | (refine Br.nf (by omega) ?_; conv => whnf)
    | (refine Br.dec (fun hc => ?_) (fun hc => ?_) <;> conv => whnf)
    | (refine Br.ieq (fun hc => ?_) (fun hc => ?_) <;> conv => whnf)
    | (refine Br.ine (fun hc => ?_) (fun hc => ?_) <;> conv => whnf)
    | (refine Br.mk (fun hc => ?_) (fun hc => ?_) <;> conv => whnf)
    | (refine Wr.i64 (by omega) ?_; conv => whnf)
    | (refine Ck.mk (by omega) ?_; conv => whnf)
    | (refine Wr.i64 (by simp only [List.length_drop, List.length_take, List.length_append, List.length_cons, List.length_nil]; omega) ?_; conv => whnf)
    | (refine Ck.mk (by simp only [List.length_drop, List.length_take, List.length_append, List.length_cons, List.length_nil]; omega) ?_; conv => whnf)
    | (refine Has.load1 (by first | assumption | exact St.has (by assumption) (by repeat first | exact .head _ | apply List.Mem.tail) | exact St.arg (by assumption) (by assumption)) ?_; conv => whnf)
    | (refine Has.loadS (by first | assumption | exact St.has (by assumption) (by repeat first | exact .head _ | apply List.Mem.tail) | exact St.arg (by assumption) (by assumption)) rfl (by first | (simp; done) | omega | (simp only [List.length_set, List.length_append, List.length_cons, List.length_nil, List.length_replicate, tab_length]; omega) | (simp; omega)) ?_; conv => whnf)
    | (refine Ck.mk (by simp; omega) ?_; conv => whnf))
  · exact ⟨_, i + 1, (Less.cons rfl (Less.cons rfl (Less.cons rfl (Less.cons rfl (Less.cons rfl (Less.nil _)))))), ⟨by omega, by rw [glueTo, if_pos (by omega)]; rfl, rfl⟩, by omega⟩
  · exact ⟨_, i + 1, (Less.cons rfl (Less.cons rfl (Less.cons rfl (Less.cons rfl (Less.cons rfl (Less.nil _)))))), ⟨by omega, by rw [glueTo, if_neg (by omega), List.append_nil]; rfl, rfl⟩, by omega⟩
  · rw [show i = l.length by omega]
    exact ⟨rfl, rfl⟩




/-- the first place of a word in a list, or -1 -/
def rankIn (l : List (List UInt8)) (w : List UInt8) : Int := if l.findIdx (· == w) < l.length then (l.findIdx (· == w) : Int) else -1
theorem rankIn_hit {l : List (List UInt8)} {w : List UInt8} {i : Nat} (hi : i < l.length) (h : l.getD i [] = w) (no : ∀ j, j < i → l.getD j [] ≠ w) : rankIn l w = i := by
  have e : l.findIdx (· == w) = i := by
    refine (List.findIdx_eq hi).2 ⟨?_, fun j hj => ?_⟩
    · have : l[i] = w := by simpa [List.getD, hi] using h
      simp [this]
    · have := no j hj
      have hj2 : j < l.length := by omega
      have h3 : ¬ l[j] = w := by simpa [List.getD, hj2] using this
      simp [h3]
  unfold rankIn
  rw [e, if_pos hi]
theorem rankIn_none {l : List (List UInt8)} {w : List UInt8} (no : ∀ j, j < l.length → l.getD j [] ≠ w) : rankIn l w = -1 := by
  unfold rankIn
  rw [if_neg]
  intro h
  have h2 := List.findIdx_getElem (w := h)
  have := no _ h
  rw [List.getD, List.getElem?_eq_getElem h] at this
  exact this (by simpa using h2)
def rankF (m : Int) (w : List UInt8) : Int := if isFuss m w = true then rankIn (fussP m (cntB w 117)).1 w else -1




/-- the height of a word of Fuss behind so many letters -/
def hF (m : Int) (w : List UInt8) (i : Nat) : Int := (walkH (m - 1) (-1) false (w.take i) 0).getD 0
theorem hF_step {m : Int} {w : List UInt8} (h : isFuss m w = true) {i : Nat} (hi : i < w.length) : 0 ≤ hF m w i ∧ hF m w i ≤ 72 ∧ 0 ≤ hF m w (i + 1) ∧ ((w.getD i 0 = 117 ∧ hF m w (i + 1) = hF m w i + m - 1) ∨ (w.getD i 0 = 100 ∧ hF m w (i + 1) = hF m w i - 1)) := by
  have hb := isFuss_len h
  have hw : walkH (m - 1) (-1) false w 0 = some 0 := by
    unfold isFuss at h
    simp only [Bool.and_eq_true, beq_iff_eq] at h
    exact h.2
  cases hx : walkH (m - 1) (-1) false (w.take i) 0 with
  | none => rw [walkH_take_none hx] at hw; cases hw
  | some g =>
    have e : hF m w i = g := by rw [hF, hx]; rfl
    have bd := walkH_bd (by omega) (by omega) _ _ _ (by omega) hx
    have bl : (w.take i).length ≤ 24 := by simp; omega
    have b2 : (m - 1) * ((w.take i).length : Int) ≤ 3 * 24 := Int.mul_le_mul (by omega) (by omega) (by omega) (by omega)
    rw [e]
    by_cases h1 : w.getD i 0 = 117
    · have hst : stepOf (m - 1) (-1) false (w.getD i 0) = some (m - 1) := stepOf_u ((byte_117 _).2 h1)
      have nx := walkH_next hi hx hst (by omega)
      have e2 : hF m w (i + 1) = g + (m - 1) := by rw [hF, nx]; rfl
      exact ⟨by omega, by omega, by omega, .inl ⟨h1, by omega⟩⟩
    · by_cases h2 : w.getD i 0 = 100
      · have hst : stepOf (m - 1) (-1) false (w.getD i 0) = some (-1) := stepOf_d ((byte_100 _).2 h2)
        by_cases hlow : g + (-1) < 0
        · rw [walkH_low hi hx hst hlow] at hw; cases hw
        · have nx := walkH_next hi hx hst hlow
          have e2 : hF m w (i + 1) = g + (-1) := by rw [hF, nx]; rfl
          exact ⟨by omega, by omega, by omega, .inr ⟨h2, by omega⟩⟩
      · rw [walkH_bad hi hx (stepOf_no (fun e => h1 ((byte_117 _).1 e)) (fun e => h2 ((byte_100 _).1 e)) (.inr rfl))] at hw
        cases hw
theorem hF_zero (m : Int) (w : List UInt8) : hF m w 0 = 0 := rfl
theorem hF_end {m : Int} {w : List UInt8} (h : isFuss m w = true) : hF m w w.length = 0 := by
  have hw : walkH (m - 1) (-1) false w 0 = some 0 := by
    unfold isFuss at h
    simp only [Bool.and_eq_true, beq_iff_eq] at h
    exact h.2
  rw [hF, List.take_length, hw]
  rfl

/-- the parts that are cut off before a place, where the next one begins, and its height -/
def splTo (m : Int) (w : List UInt8) : Nat → List (List UInt8) × Nat × Int
  | 0 => ([], 1, m - 1)
  | i + 1 => let r := splTo m w i
    if 0 < i ∧ 0 < r.2.2 ∧ w.getD i 0 ≠ 117 ∧ hF m w (i + 1) < r.2.2 then (r.1 ++ [(w.take i).drop r.2.1], i + 1, r.2.2 - 1) else r
theorem splTo_cut {m : Int} {w : List UInt8} {i f : Nat} {o : List (List UInt8)} {lv : Int} (e : splTo m w i = (o, f, lv)) (h : 0 < i ∧ 0 < lv ∧ w.getD i 0 ≠ 117 ∧ hF m w (i + 1) < lv) : splTo m w (i + 1) = (o ++ [(w.take i).drop f], i + 1, lv - 1) := by
  simp only [splTo, e]
  rw [if_pos h]
theorem splTo_on {m : Int} {w : List UInt8} {i f : Nat} {o : List (List UInt8)} {lv : Int} (e : splTo m w i = (o, f, lv)) (h : ¬ (0 < i ∧ 0 < lv ∧ w.getD i 0 ≠ 117 ∧ hF m w (i + 1) < lv)) : splTo m w (i + 1) = (o, f, lv) := by
  simp only [splTo, e]
  rw [if_neg h]
theorem splTo_done {m : Int} {w : List UInt8} {i f : Nat} {o : List (List UInt8)} {lv : Int} (e : splTo m w i = (o, f, lv)) (h : lv ≤ 0) : ∀ j, i ≤ j → splTo m w j = (o, f, lv) := by
  intro j
  induction j with
  | zero => intro hj; have : i = 0 := by omega
            subst this; exact e
  | succ j ih =>
    intro hj
    by_cases hij : i = j + 1
    · subst hij; exact e
    · exact splTo_on (ih (by omega)) (by omega)
theorem splTo_len (m : Int) (w : List UInt8) : ∀ i, (splTo m w i).1.length ≤ i := by
  intro i
  induction i with
  | zero => simp [splTo]
  | succ i ih =>
    simp only [splTo]
    split
    · rw [List.length_append]; simp; omega
    · omega
def finS (m : Int) (w : List UInt8) : List (List UInt8) := (splTo m w w.length).1 ++ [w.drop (splTo m w w.length).2.1]
def splitF (m : Int) (w : List UInt8) : List (List UInt8) × Bool := if isFuss m w = true ∧ w ≠ [] then (finS m w, true) else ([], false)
theorem finS_eq {m : Int} {w : List UInt8} {f : Nat} {o : List (List UInt8)} {lv : Int} (e : splTo m w w.length = (o, f, lv)) : finS m w = o ++ [w.drop f] := by rw [finS, e]
theorem splitF_len (m : Int) (w : List UInt8) : (splitF m w).1.length ≤ 25 := by
  unfold splitF
  split
  · rename_i h
    have := (isFuss_len h.1).2
    have := splTo_len m w w.length
    simp only [finS, List.length_append, List.length_cons, List.length_nil]
    omega
  · simp
def RetS (p : List (List UInt8) × Bool) (h0 : H) (v : AV) (h' : H) : Prop := ∃ b, v = .tup [.slice b 0 p.1.length p.1.length, .bool p.2] ∧ New h0 h' b (strs p.1)
theorem RetS.mk' {p : List (List UInt8) × Bool} {h0 h' : H} {b n : Nat} {l : List (List UInt8)} {t : Bool} (e : p = (l, t)) (hn : n = l.length) (m : New h0 h' b (strs l)) : RetS p h0 (.tup [.slice b 0 n n, .bool t]) h' := by
  subst e hn
  exact ⟨b, rfl, m⟩




end Go.Proofs.Ytcepogfmajlcjaa

/-
  Contracts of products of diagrams are proved.
  They hold for all rows of numbers.
-/
set_option linter.unusedVariables false
set_option linter.unusedSimpArgs false
namespace Go.Proofs.Ytcepogfmajlcjaa
open Go.Proofs.Ytcepogfmajlcjaa.Ab Go.Proofs.Ytcepogfmajlcjaa.Pl

theorem inv_of {l : List Int} {n : Nat} (h : isM l = true) (e : l.length = 2 * n) : Inv2 n (ga l) := fun i hi => by
  obtain ⟨h1, h2, h3, h4⟩ := isM_ga h (by omega : i < l.length)
  exact ⟨by omega, h4, h2⟩
theorem into_inv {l : List Int} {n : Nat} (h : isM l = true) (e : l.length = 2 * n) : ∀ i, i < 2 * n → l.getD i 0 = ga l i ∧ ga l i < 2 * n := fun i hi => by
  obtain ⟨h1, h2, h3, h4⟩ := isM_ga h (by omega : i < l.length)
  exact ⟨h3, by omega⟩
def startOf (n i : Nat) : Nat := if i < n then i else 2 * n + i
def prodL (a b : List Int) : List Int := tab a.length fun i => (wayV (a.length / 2) (ga a) (ga b) (4 * (a.length / 2)) (startOf (a.length / 2) i) : Int)
def upA (a : List Int) (n : Nat) : Nat → Nat := fun j => 2 * n - 1 - ga a (2 * n - 1 - j)
def loopsD (a b : List Int) : Nat := (roundsFr (upA a (a.length / 2)) (ga b) (a.length / 2) (seenW (a.length / 2) (ga a) (ga b)) (a.length / 2)).2
def mulD (a b : List Int) : List Int × Int × Bool := if isD a = true ∧ isD b = true ∧ a.length = b.length then (prodL a b, loopsD a b, true) else ([], 0, false)
def RetM (p : List Int × Int × Bool) (h0 : H) (v : AV) (h' : H) : Prop := ∃ b, v = .tup [.slice b 0 p.1.length p.1.length, .int .i64 p.2.1, .bool p.2.2] ∧ New h0 h' b (ints p.1)
theorem RetM.mk' {p : List Int × Int × Bool} {h0 h' : H} {b m : Nat} {l : List Int} {k : Int} {t : Bool} (e : p = (l, k, t)) (hn : m = l.length) (w : New h0 h' b (ints l)) : RetM p h0 (.tup [.slice b 0 m m, .int .i64 k, .bool t]) h' := by
  subst e hn
  exact ⟨b, rfl, w⟩

/-- a way's values, by one step -/
theorem wayV_end {n : Nat} {A B : Nat → Nat} {f st : Nat} (h : stepW n A B st = none) : wayV n A B (f + 1) st = endV n A B st := by simp only [wayV, h]
theorem wayV_go {n : Nat} {A B : Nat → Nat} {f st z : Nat} (h : stepW n A B st = some z) : wayV n A B (f + 1) st = wayV n A B f z := by simp only [wayV, h]
theorem wayM_end {n : Nat} {A B : Nat → Nat} {f st : Nat} {s : List Bool} (h : stepW n A B st = none) : wayM n A B (f + 1) st s = s := by simp only [wayM, h]
theorem wayM_go {n : Nat} {A B : Nat → Nat} {f st z : Nat} {s : List Bool} (h : stepW n A B st = some z) : wayM n A B (f + 1) st s = wayM n A B f z (s.set (midW n z) true) := by simp only [wayM, h]
theorem endsW_go {n : Nat} {A B : Nat → Nat} {f st z : Nat} (h : stepW n A B st = some z) : endsW n A B (f + 1) st = endsW n A B f z := by simp only [endsW, h]
theorem step_up {n : Nat} {A B : Nat → Nat} {x : Nat} (h : x < 2 * n) : stepW n A B x = if A x < n then none else some (2 * n + (2 * n - 1 - A x)) := by unfold stepW; rw [if_pos h]
theorem step_dn {n : Nat} {A B : Nat → Nat} {x : Nat} : stepW n A B (2 * n + x) = if n ≤ B x then none else some (2 * n - 1 - B x) := by unfold stepW; rw [if_neg (by omega), show 2 * n + x - 2 * n = x by omega]
theorem mid_up {n j : Nat} (h : j < n) : midW n (2 * n - 1 - j) = j := by unfold midW; rw [if_pos (by omega)]; omega
theorem mid_dn {n j : Nat} : midW n (2 * n + j) = j := by unfold midW; rw [if_neg (by omega)]; omega


theorem startsI_same (n : Nat) (A B : Nat → Nat) (hA : Inv2 n A) (hB : Inv2 n B) : marksAll n A B ((List.range n).flatMap fun j => [j, 3 * n + j]) (List.replicate n false) = seenW n A B := by
  refine marksAll_same hA hB _ (fun x hx => ?_) (fun x hx => (startsW_mem x).1 hx) fun x => ?_
  · obtain ⟨j, hj, hx⟩ := List.mem_flatMap.1 hx
    have := List.mem_range.1 hj
    unfold isStart
    simp at hx
    omega
  · rw [startsW_mem, List.mem_flatMap]
    unfold isStart
    constructor
    · rintro ⟨j, hj, hx⟩
      have := List.mem_range.1 hj
      simp at hx
      omega
    · intro h
      by_cases hx : x < n
      · exact ⟨x, List.mem_range.2 hx, by simp⟩
      · exact ⟨x - 3 * n, List.mem_range.2 (by omega), by simp; omega⟩
theorem marksI_next (n : Nat) (A B : Nat → Nat) (i : Nat) (s0 : List Bool) : marksAll n A B ((List.range (i + 1)).flatMap fun j => [j, 3 * n + j]) s0 = wayM n A B (4 * n) (3 * n + i) (wayM n A B (4 * n) i (marksAll n A B ((List.range i).flatMap fun j => [j, 3 * n + j]) s0)) := by
  rw [List.range_succ, List.flatMap_append, marksAll, List.foldl_append]
  rfl
theorem marksS_next (n : Nat) (A B : Nat → Nat) (i : Nat) (s0 : List Bool) : marksAll n A B ((List.range (i + 1)).map (startOf n)) s0 = wayM n A B (4 * n) (startOf n i) (marksAll n A B ((List.range i).map (startOf n)) s0) := by
  rw [List.range_succ, List.map_append, marksAll, List.foldl_append]
  rfl
/-- the values of all ways, as places of the product -/
def wayP (n : Nat) (A B : Nat → Nat) (k : Nat) : Int := (wayV n A B (4 * n) (startOf n k) : Nat)
theorem wayP_up {n : Nat} {A B : Nat → Nat} {i : Nat} (h : i < n) : wayP n A B i = (wayV n A B (4 * n) i : Nat) := by rw [wayP, startOf, if_pos h]
theorem wayP_dn {n : Nat} {A B : Nat → Nat} {i : Nat} : wayP n A B (n + i) = (wayV n A B (4 * n) (3 * n + i) : Nat) := by rw [wayP, startOf, if_neg (by omega), show 2 * n + (n + i) = 3 * n + i by omega]
theorem wayP_fill {n : Nat} {A B : Nat → Nat} {i k : Nat} (hi : i < n) : (if k = n + i then ((wayV n A B (4 * n) (3 * n + i) : Nat) : Int) else if k = i then ((wayV n A B (4 * n) i : Nat) : Int) else if k < i ∨ (n ≤ k ∧ k < n + i) then wayP n A B k else 0) = if k < i + 1 ∨ (n ≤ k ∧ k < n + (i + 1)) then wayP n A B k else 0 := by
  by_cases h1 : k = n + i
  · rw [if_pos h1, if_pos (by omega), h1, wayP_dn]
  · rw [if_neg h1]
    by_cases h2 : k = i
    · rw [if_pos h2, if_pos (by omega), h2, wayP_up hi]
    · rw [if_neg h2]
      by_cases h3 : k < i ∨ (n ≤ k ∧ k < n + i)
      · rw [if_pos h3, if_pos (by omega)]
      · rw [if_neg h3, if_neg (by omega)]
theorem wayP_tab {n : Nat} {A B : Nat → Nat} {i : Nat} (hi : i < n) : (tab (2 * n) fun k => if k < i + 1 ∨ (n ≤ k ∧ k < n + (i + 1)) then wayP n A B k else 0) = tab (2 * n) fun k => if k = n + i then ((wayV n A B (4 * n) (3 * n + i) : Nat) : Int) else if k = i then ((wayV n A B (4 * n) i : Nat) : Int) else if k < i ∨ (n ≤ k ∧ k < n + i) then wayP n A B k else 0 :=
  tab_congr fun k hk => (wayP_fill hi).symm
theorem newOf {h0 h : H} {L : List (Nat × Blk)} {b : Nat} {cs : List AV} (s : St h0 h L) (m : (b, row cs) ∈ L) : New h0 h b cs := ⟨s.is _ m, s.new _ m, s.keeps⟩
theorem prodL_eq {a b : List Int} {n : Nat} (ea : a.length = 2 * n) : prodL a b = tab (2 * n) (wayP n (ga a) (ga b)) := by
  unfold prodL wayP
  rw [ea, show 2 * n / 2 = n by omega]
theorem loopsD_eq {a b : List Int} {n : Nat} (ea : a.length = 2 * n) : loopsD a b = (roundsFr (upA a n) (ga b) n (seenW n (ga a) (ga b)) n).2 := by
  unfold loopsD
  rw [ea, show 2 * n / 2 = n by omega]
theorem upA_eq (a : List Int) (n j : Nat) : upA a n j = 2 * n - 1 - ga a (2 * n - 1 - j) := rfl


theorem startOf_up {n i : Nat} (h : i < n) : startOf n i = i := if_pos h
theorem startOf_dn {n i : Nat} (h : ¬ i < n) : startOf n i = 2 * n + i := if_neg h
theorem startOf_is {n i : Nat} (h : i < 2 * n) : isStart n (startOf n i) := by
  unfold startOf isStart
  split <;> omega
theorem wayS_tab {n : Nat} {A B : Nat → Nat} {i : Nat} : (tab (2 * n) fun k => if k < i + 1 then wayP n A B k else 0) = tab (2 * n) fun k => if k = i then ((wayV n A B (4 * n) (startOf n i) : Nat) : Int) else if k < i then wayP n A B k else 0 :=
  tab_congr fun k hk => by
    by_cases h : k = i
    · rw [if_pos h, if_pos (by omega), h, wayP]
    · rw [if_neg h]
      by_cases h2 : k < i
      · rw [if_pos h2, if_pos (by omega)]
      · rw [if_neg h2, if_neg (by omega)]


theorem mulD_len (a b : List Int) : (mulD a b).1.length ≤ 16 := by
  unfold mulD
  split
  · rename_i h
    have := (isM_spec (isNC_spec (isD_spec h.1).2)).1
    simp only [prodL, tab_length]
    exact this
  · simp


end Go.Proofs.Ytcepogfmajlcjaa
