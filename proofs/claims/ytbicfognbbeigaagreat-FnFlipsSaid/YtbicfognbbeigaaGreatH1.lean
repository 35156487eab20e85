/-
  Contracts of numbers of words are proved: level steps, binomials, numbers of Fuss.
  They hold for all arguments within the sizes that the statements' code allows.
-/
import Derived.Test.YtbicfognbbeigaaGreatH0
import Derived.Test.YtbicfognbbeigaaGreatGX
set_option linter.unusedVariables false
set_option linter.unusedSimpArgs false
namespace Go.Proofs.YtbicfognbbeigaaGreat
open Go.Proofs.YtbicfognbbeigaaGreat.Ab Go.Proofs.YtbicfognbbeigaaGreat.Pl


/-- level steps -/
def levels (w : List UInt8) : Int := if isMotzkin w then (cntB w 108 : Int) else -1











end Go.Proofs.YtbicfognbbeigaaGreat

/-
  Plain laws of heights of words are proved.
  They hold for all lists of bytes.
-/
set_option linter.unusedVariables false
set_option linter.unusedSimpArgs false
namespace Go.Proofs.YtbicfognbbeigaaGreat.Pl

theorem hgt_nil : hgt [] = 0 := by decide

/-- a walk's height is that of its letters -/
theorem walkH_hgt : ∀ (w : List UInt8) (h g : Int), walkH 1 (-1) false w h = some g → g = h + hgt w := by
  intro w
  induction w with
  | nil => intro h g e; simp only [walkH] at e; injection e with e; rw [hgt_nil]; omega
  | cons x r ih =>
    intro h g e
    have e1 : hgt (x :: r) = hgt r + (if (x.toNat : Int) = 117 then 1 else 0) - (if (x.toNat : Int) = 100 then 1 else 0) := by
      have f1 : cntB (x :: r) 117 = cntB r 117 + if (x.toNat : Int) = 117 then 1 else 0 := by unfold cntB; by_cases h : (x.toNat : Int) = 117 <;> simp [h]
      have f2 : cntB (x :: r) 100 = cntB r 100 + if (x.toNat : Int) = 100 then 1 else 0 := by unfold cntB; by_cases h : (x.toNat : Int) = 100 <;> simp [h]
      unfold hgt
      rw [f1, f2]
      split <;> split <;> omega
    simp only [walkH] at e
    cases hs : stepOf 1 (-1) false x with
    | none => rw [hs] at e; cases e
    | some d =>
      rw [hs] at e
      dsimp only at e
      by_cases hd : h + d < 0
      · simp [hd] at e
      · simp only [hd, if_false] at e
        have := ih _ _ e
        rw [e1]
        unfold stepOf at hs
        split at hs
        · injection hs with hs
          rename_i h1
          rw [if_pos h1, if_neg (by omega)]
          omega
        · split at hs
          · injection hs with hs
            rename_i h1 h2
            rw [if_neg h1, if_pos h2]
            omega
          · split at hs
            · rename_i h3
              cases h3.2
            · cases hs

/-- the heights before the letters and at the end -/
def htsTo (w : List UInt8) (k : Nat) : List Int := (List.range (k + 1)).map fun j => hgt (w.take j)
def hts (w : List UInt8) : List Int := htsTo w w.length
theorem htsTo_zero (w : List UInt8) : htsTo w 0 = [0] := by simp [htsTo, hgt_nil]
theorem htsTo_succ (w : List UInt8) (k : Nat) : htsTo w (k + 1) = htsTo w k ++ [hgt (w.take (k + 1))] := by
  unfold htsTo
  rw [List.range_succ, List.map_append]
  rfl
@[simp] theorem htsTo_length (w : List UInt8) (k : Nat) : (htsTo w k).length = k + 1 := by simp [htsTo]

end Go.Proofs.YtbicfognbbeigaaGreat.Pl

/-
  Contracts of functions that make rows of numbers are proved: heights, paths, diagrams of the identity and of hooks.
  They hold for all arguments within the sizes that the statements' code allows.
-/
set_option linter.unusedVariables false
set_option linter.unusedSimpArgs false
namespace Go.Proofs.YtbicfognbbeigaaGreat
open Go.Proofs.YtbicfognbbeigaaGreat.Ab Go.Proofs.YtbicfognbbeigaaGreat.Pl

theorem heights_ok (w : List UInt8) (hw : w.length ≤ 1000000) (h0 : H) : AC env 146 [.str w] h0 fun v h' => Keeps h0 h' ∧ match walkH 1 (-1) false w 0 with
    | none => v = .tup [.nilslice, .bool false]
    | some g => ∃ b, v = .tup [.slice b 0 (w.length + 1) (w.length + 1), .bool (g == 0)] ∧ New h0 h' b (ints (hts w)) := by
  refine AC.enter Tryz.func146 Tryz.call146 rfl Tryz.ntmps146 (of_decide_eq_true (by rfl)) ?_
  repeat' (first
    | refine AW.seq ?_
    | (refine AW.region ?_; conv => whnf)
    | refine AW.block ?_
    | (refine NewG.mk (fun bt hbt => ?_); conv => whnf))
  refine AW.loop3 (fun (b k : Nat) (g : Int) => [(0, .str w), (4, .slice b 0 (k + 1) (k + 1)), (5, .int .i64 g), (6, .int .i64 k)]) (fun b k g h' => k ≤ w.length ∧ walkH 1 (-1) false (w.take k) 0 = some g ∧ New h0 h' b (ints (htsTo w k))) (fun _ k _ => w.length - k) bt 0 0
    (Less.cons rfl (Less.cons rfl (Less.cons rfl (Less.cons rfl (Less.nil _))))) ⟨by omega, rfl, by rw [htsTo_zero]; exact New.make (Keeps.refl _) hbt⟩ ?_
  rintro b k g h' ⟨hk, hx, hn⟩
  have b1 := walkH_bd (by decide) (by decide) _ _ _ (by decide) hx
  have b2 : (w.take k).length ≤ k := List.length_take_le _ _
  repeat' (first
    | refine AW.seq ?_
    | (refine AW.region ?_; conv => whnf)
    | refine AW.block ?_
    | (refine AW.skip ?_; conv => whnf)
    | (refine AW.ret ?_; conv => whnf)
    | (refine AW.exit ?_; conv => whnf)
    | refine AW.cond (by rfl) ?_
    | (refine Br.df (by omega) ?_; conv => whnf)
    | (refine Br.dec (fun hc => ?_) (fun hc => ?_) <;> conv => whnf)
    | (refine Wr.i64 (by omega) ?_; conv => whnf)
    | (refine Ck.mk (by omega) ?_; conv => whnf)
    | (refine NewG.mk (fun bt hbt => ?_); conv => whnf)
    | (refine LoadsG.made (by rfl) ?_; conv => whnf)
    | (refine New.appI (New.upd (by assumption) (by assumption) _) (by first | rfl | (simp; done) | omega | (simp; omega)) (by first | (simp; done) | omega | (simp; omega)) (by decide) (fun b' h' hn' ho' => ?_); conv => whnf))
  · have e := walkH_next (by omega) hx (stepOf_u (by simpa using hc)) (by omega)
    have e2 := walkH_hgt _ _ _ e
    exact ⟨_, k + 1, _, (Less.cons rfl (Less.cons rfl (Less.cons rfl (Less.cons rfl (Less.nil _))))), ⟨by omega, e, by rw [htsTo_succ, ← show g + 1 = hgt (w.take (k + 1)) by omega]; exact hn'⟩, by omega⟩
  · exact ⟨hn.keeps, by rw [walkH_low (by omega) hx (stepOf_d (by simpa using ‹_ = (100 : Int)›)) (by omega)]⟩
  · have e := walkH_next (by omega) hx (stepOf_d (by simpa using ‹_ = (100 : Int)›)) (by omega)
    have e2 := walkH_hgt _ _ _ e
    exact ⟨_, k + 1, _, (Less.cons rfl (Less.cons rfl (Less.cons rfl (Less.cons rfl (Less.nil _))))), ⟨by omega, e, by rw [htsTo_succ, ← show g - 1 = hgt (w.take (k + 1)) by omega]; exact hn'⟩, by omega⟩
  · exact ⟨hn.keeps, by rw [walkH_bad (by omega) hx (stepOf_no (by simpa using ‹¬ _ = (117 : Int)›) (by simpa using ‹¬ _ = (100 : Int)›) (.inr rfl))]⟩
  · have e : k = w.length := by omega
    subst e
    rw [List.take_length] at hx
    rw [hx]
    exact ⟨hn.keeps, b, rfl, hn⟩

theorem iIsDyck_ok (w : List UInt8) (hw : w.length ≤ 9223372036854775807) (h0 : H) : AC env 143 [.str w] h0 fun v h' => v = .bool (isDyck w) ∧ Keeps h0 h' := by
  refine AC.enter Tryz.func143 Tryz.call143 rfl Tryz.ntmps143 (of_decide_eq_true (by rfl)) ?_
  repeat' (first
    | refine AW.seq ?_
    | (refine AW.region ?_; conv => whnf)
    | (refine AW.skip ?_; conv => whnf)
    | (refine AW.ret ?_; conv => whnf)
    | refine AW.cond (by rfl) ?_
    | (refine Br.dec (fun hc => ?_) (fun hc => ?_) <;> conv => whnf))
  · exact ⟨congrArg AV.bool (by unfold isDyck; rw [decide_eq_false (by omega)]; rfl), Keeps.refl _⟩
  · refine (heights_ok w (by omega) _).mono ?_
    rintro v h' ⟨hk, hv⟩
    have e : isDyck w = (walkH 1 (-1) false w 0 == some 0) := by unfold isDyck; rw [decide_eq_true (by omega)]; rfl
    rw [e]
    cases hg : walkH 1 (-1) false w 0 with
    | none =>
      rw [hg] at hv
      subst hv
      conv => whnf
      repeat' (first
        | refine AW.seq ?_
        | (refine AW.region ?_; conv => whnf)
        | (refine AW.ret ?_; conv => whnf))
      exact ⟨rfl, hk⟩
    | some g =>
      rw [hg] at hv
      obtain ⟨b, rfl, hn⟩ := hv
      conv => whnf
      repeat' (first
        | refine AW.seq ?_
        | (refine AW.region ?_; conv => whnf)
        | (refine AW.ret ?_; conv => whnf))
      exact ⟨congrArg AV.bool (by simp), hk⟩


/-- a word of a circle -/
def circle (w : List UInt8) (k : Int) : List UInt8 × Bool := if isDyck w then shiftW (w ++ [100]) k else ([], false)




end Go.Proofs.YtbicfognbbeigaaGreat

/-
  Contracts of functions that make rows of numbers are proved: rows that are equal, marked and held, and diagrams of the identity and of hooks.
  They hold for all arguments within the sizes that the statements' code allows.
-/
set_option linter.unusedVariables false
set_option linter.unusedSimpArgs false
namespace Go.Proofs.YtbicfognbbeigaaGreat
open Go.Proofs.YtbicfognbbeigaaGreat.Ab Go.Proofs.YtbicfognbbeigaaGreat.Pl


/-- marked rows -/
def iota (k : Int) (n : Nat) : List Int := tab n fun j => k + j



end Go.Proofs.YtbicfognbbeigaaGreat

/-
  Contracts of the diagrams of the identity and of hooks are proved.
  They hold for all arguments.
-/
set_option linter.unusedVariables false
set_option linter.unusedSimpArgs false
namespace Go.Proofs.YtbicfognbbeigaaGreat
open Go.Proofs.YtbicfognbbeigaaGreat.Ab Go.Proofs.YtbicfognbbeigaaGreat.Pl

/-- a row of numbers and whether there is one -/
def RetI (p : List Int × Bool) (h0 : H) (v : AV) (h' : H) : Prop := ∃ b, v = .tup [.slice b 0 p.1.length p.1.length, .bool p.2] ∧ New h0 h' b (ints p.1)

theorem RetI.mk' {p : List Int × Bool} {h0 h' : H} {b n : Nat} {l : List Int} {t : Bool} (e : p = (l, t)) (hn : n = l.length) (m : New h0 h' b (ints l)) : RetI p h0 (.tup [.slice b 0 n n, .bool t]) h' := by
  subst e hn
  exact ⟨b, rfl, m⟩

/-- the diagram that joins each point with the one below -/
def idD (n : Nat) : List Int := tab (2 * n) fun i => 2 * n - 1 - i
def idDI (n : Int) : List Int × Bool := if 1 ≤ n ∧ n ≤ 8 then (idD n.toNat, true) else ([], false)




theorem idDI_len (n : Int) : (idDI n).1.length ≤ 1000 := by
  unfold idDI
  split
  · simp [idD]
    omega
  · simp


/-- the diagram with one hook above and one below -/
def hookD (n i : Nat) : List Int := ((((idD n).set i (i + 1)).set (i + 1) i).set (2 * n - 1 - i) (2 * n - 2 - i)).set (2 * n - 2 - i) (2 * n - 1 - i)
def hookDI (n i : Int) : List Int × Bool := if (1 ≤ n ∧ n ≤ 8) ∧ 0 ≤ i ∧ i ≤ n - 2 then (hookD n.toNat i.toNat, true) else ([], false)

theorem hookDI_len (n i : Int) : (hookDI n i).1.length ≤ 1000 := by
  unfold hookDI
  split
  · simp [hookD, idD]
    omega
  · simp




end Go.Proofs.YtbicfognbbeigaaGreat

/-
  Plain laws of the numbers of Motzkin are proved: two recurrences give the same numbers.
  They hold for the numbers up to 20.
-/
set_option linter.unusedVariables false
set_option linter.unusedSimpArgs false
namespace Go.Proofs.YtbicfognbbeigaaGreat.Pl

/-- words of letters u, l and d that end at a height, by length -/
def motT : List (List Int) := [[1],
  [1, 1],
  [2, 2, 1],
  [4, 5, 3, 1],
  [9, 12, 9, 4, 1],
  [21, 30, 25, 14, 5, 1],
  [51, 76, 69, 44, 20, 6, 1],
  [127, 196, 189, 133, 70, 27, 7, 1],
  [323, 512, 518, 392, 230, 104, 35, 8, 1],
  [835, 1353, 1422, 1140, 726, 369, 147, 44, 9, 1],
  [2188, 3610, 3915, 3288, 2235, 1242, 560, 200, 54, 10, 1],
  [5798, 9713, 10813, 9438, 6765, 4037, 2002, 814, 264, 65, 11, 1],
  [15511, 26324, 29964, 27016, 20240, 12804, 6853, 3080, 1143, 340, 77, 12, 1],
  [41835, 71799, 83304, 77220, 60060, 39897, 22737, 11076, 4563, 1560, 429, 90, 13, 1],
  [113634, 196938, 232323, 220584, 177177, 122694, 73710, 38376, 17199, 6552, 2079, 532, 104, 14, 1],
  [310572, 542895, 649845, 630084, 520455, 373581, 234780, 129285, 62127, 25830, 9163, 2715, 650, 119, 15, 1],
  [853467, 1503312, 1822824, 1800384, 1524120, 1128816, 737646, 426192, 217242, 97120, 37708, 12528, 3484, 784, 135, 16, 1],
  [2356779, 4179603, 5126520, 5147328, 4453320, 3390582, 2292654, 1381080, 740554, 352070, 147356, 53720, 16796, 4403, 935, 152, 17, 1],
  [6536382, 11662902, 14453451, 14727168, 12991230, 10136556, 7064316, 4414288, 2473704, 1239980, 553146, 217872, 74919, 22134, 5490, 1104, 170, 18, 1],
  [18199284, 32652735, 40843521, 42171849, 37854954, 30192102, 21615160, 13952308, 8127972, 4266830, 2010998, 845937, 314925, 102543, 28728, 6764, 1292, 189, 19, 1],
  [50852019, 91695540, 115668105, 120870324, 110218905, 89662216, 65759570, 43695440, 26347110, 14405800, 7123765, 3171860, 1263405, 446196, 138035, 36784, 8245, 1500, 209, 20, 1]]
def motV (k h : Nat) : Int := (motT.getD k []).getD h 0
theorem motV_step : ∀ k, k < 20 → ∀ h, h < 23 → motV (k + 1) h = motV k h + motV k (h + 1) + if h = 0 then 0 else motV k (h - 1) := by decide +kernel
theorem motV_bd0 : ∀ k, k < 21 → ∀ h, h < 25 → 0 ≤ motV k h ∧ motV k h ≤ 1000000000 := by decide +kernel
theorem motV_bd (k h : Nat) : 0 ≤ motV k h ∧ motV k h ≤ 1000000000 := by
  by_cases hk : k < 21
  · by_cases hh : h < 25
    · exact motV_bd0 k hk h hh
    · have e : ∀ k, k < 21 → (motT.getD k []).length ≤ 25 := by decide +kernel
      have := e k hk
      have e2 : motV k h = 0 := by
        unfold motV
        rw [List.getD_eq_getElem?_getD, List.getElem?_eq_none (by omega)]
        rfl
      rw [e2]
      decide
  · have e2 : motV k h = 0 := by
      unfold motV
      rw [List.getD_eq_getElem?_getD (l := motT), List.getElem?_eq_none (by show 21 ≤ k; omega)]
      rfl
    rw [e2]
    decide

theorem motV_zero : ∀ k, k < 21 → ∀ h, h < 25 → k < h → motV k h = 0 := by decide +kernel

/-- the reference's sum, as far as it has come -/
def motS (m : Nat) : Nat → Int
  | 0 => motV (m - 1) 0
  | k + 1 => motS m k + motV k 0 * motV (m - 2 - k) 0
theorem motS_end : ∀ m, m < 21 → m ≠ 0 → motS m (m - 1) = motV m 0 := by decide +kernel
theorem motS_bd : ∀ m, m < 21 → m ≠ 0 → ∀ k, k < m → 0 ≤ motS m k ∧ motS m k ≤ 1000000000 := by decide +kernel
theorem motP_bd : ∀ m, m < 21 → ∀ k, k < m → 0 ≤ motV k 0 * motV (m - 2 - k) 0 ∧ motV k 0 * motV (m - 2 - k) 0 ≤ 1000000000 := by decide +kernel

end Go.Proofs.YtbicfognbbeigaaGreat.Pl

/-
  Contracts of the numbers of Motzkin are proved.
  They hold for all arguments.
-/
set_option linter.unusedVariables false
set_option linter.unusedSimpArgs false
namespace Go.Proofs.YtbicfognbbeigaaGreat
open Go.Proofs.YtbicfognbbeigaaGreat.Ab Go.Proofs.YtbicfognbbeigaaGreat.Pl

def motN (n : Int) : Int := if 0 ≤ n ∧ n ≤ 20 then motV n.toNat 0 else -1




end Go.Proofs.YtbicfognbbeigaaGreat

/-
  Plain laws of words that are doubled and read by pairs are proved, and of texts that mark rows.
  They hold for all lists of bytes.
-/
set_option linter.unusedVariables false
set_option linter.unusedSimpArgs false
namespace Go.Proofs.YtbicfognbbeigaaGreat.Pl

/-- a letter doubled -/
def two (x : UInt8) : List UInt8 := if (x.toNat : Int) = 117 then [117, 117] else if (x.toNat : Int) = 100 then [100, 100] else [117, 100]
def dyckOfM (w : List UInt8) : List UInt8 × Bool := if isMotzkin w = true ∧ w.length ≤ 8 then (w.flatMap two, true) else ([], false)
theorem two_snoc (w : List UInt8) (k : Nat) (h : k < w.length) : (w.take (k + 1)).flatMap two = (w.take k).flatMap two ++ two (w.getD k 0) := by
  rw [take_snoc w k h, List.flatMap_append]
  simp
theorem two_len (w : List UInt8) : (w.flatMap two).length = 2 * w.length := by
  induction w with
  | nil => rfl
  | cons x r ih =>
    rw [List.flatMap_cons, List.length_append, ih]
    have : (two x).length = 2 := by unfold two; split <;> (try split) <;> rfl
    simp only [this, List.length_cons]
    omega

/-- two letters as one -/
def half (x y : UInt8) : Option UInt8 :=
  if x = 117 ∧ y = 117 then some 117 else if x = 100 ∧ y = 100 then some 100 else if x = 117 ∧ y = 100 then some 108 else none
/-- pairs of letters, as many -/
def pairsTo (w : List UInt8) : Nat → Option (List UInt8)
  | 0 => some []
  | k + 1 => match pairsTo w k, half (w.getD (2 * k) 0) (w.getD (2 * k + 1) 0) with
    | some s, some c => some (s ++ [c])
    | _, _ => none
def motzOf (w : List UInt8) : List UInt8 × Bool := if isDyck w = true then match pairsTo w (w.length / 2) with
  | some s => (s, true)
  | none => ([], false) else ([], false)
theorem pairsTo_none (w : List UInt8) {k : Nat} (h : pairsTo w k = none) : ∀ m, k ≤ m → pairsTo w m = none := by
  intro m
  induction m with
  | zero => intro hm; have : k = 0 := by omega
            subst this; exact h
  | succ m ih =>
    intro hm
    by_cases e : k = m + 1
    · subst e; exact h
    · simp only [pairsTo, ih (by omega)]
theorem pairsTo_len (w : List UInt8) : ∀ (k : Nat) (s : List UInt8), pairsTo w k = some s → s.length = k := by
  intro k
  induction k with
  | zero => intro s h; injection h with h; subst h; rfl
  | succ k ih =>
    intro s h
    simp only [pairsTo] at h
    split at h
    · rename_i s' c e1 e2
      injection h with h
      subst h
      simp [ih _ e1]
    · cases h
theorem take_two (w : List UInt8) (k : Nat) (h : k + 1 < w.length) : (w.drop k).take 2 = [w.getD k 0, w.getD (k + 1) 0] := by
  have e : (w.drop k).take 2 = [w[k], w[k + 1]] := by
    rw [List.drop_eq_getElem_cons (by omega), List.drop_eq_getElem_cons h]
    rfl
  rw [e]
  simp [List.getD, h, show k < w.length by omega]

theorem cut_two (w : List UInt8) (i : Nat) (h : i + 1 < w.length) : (w.take ((i : Int) + 2).toNat).drop (i : Int).toNat = [w.getD i 0, w.getD (i + 1) 0] := by
  rw [show ((i : Int) + 2).toNat = i + 2 by omega, Int.toNat_natCast, List.drop_take, show i + 2 - i = 2 by omega, take_two w i h]

theorem pairsTo_step {w : List UInt8} {k : Nat} {s : List UInt8} (hs : pairsTo w k = some s) : pairsTo w (k + 1) = match half (w.getD (2 * k) 0) (w.getD (2 * k + 1) 0) with
    | some c => some (s ++ [c])
    | none => none := by
  simp only [pairsTo, hs]
  cases half (w.getD (2 * k) 0) (w.getD (2 * k + 1) 0) <;> rfl

/-- a path has an even number of letters -/
theorem isDyck_even {w : List UInt8} (h : isDyck w = true) : w.length = 2 * (w.length / 2) ∧ w.length ≤ 16 := by
  unfold isDyck at h
  simp only [Bool.and_eq_true, decide_eq_true_eq, beq_iff_eq] at h
  have key : ∀ (w : List UInt8) (h g : Int), walkH 1 (-1) false w h = some g → (w.length : Int) % 2 = (h + g) % 2 := by
    intro w
    induction w with
    | nil => intro h g e; simp only [walkH] at e; injection e with e; subst e; simp; omega
    | cons x r ih =>
      intro h g e
      simp only [walkH] at e
      cases hs : stepOf 1 (-1) false x with
      | none => rw [hs] at e; cases e
      | some d =>
        rw [hs] at e
        dsimp only at e
        split at e
        · cases e
        · have := ih _ _ e
          have hd : d = 1 ∨ d = -1 := by
            unfold stepOf at hs
            split at hs
            · injection hs with hs; omega
            · split at hs
              · injection hs with hs; omega
              · split at hs
                · rename_i h3; cases h3.2
                · cases hs
          simp only [List.length_cons, Int.natCast_add]
          rcases hd with rfl | rfl <;> omega
  have := key w 0 0 h.2
  exact ⟨by omega, h.1⟩

/-- decimal digits -/
def digits (k : Nat) : List UInt8 := if h : k = 0 then [] else digits (k / 10) ++ [UInt8.ofNat (48 + k % 10)]
decreasing_by omega
def markT (k : Nat) : List UInt8 := 109 :: digits k
theorem digits_zero : digits 0 = [] := by unfold digits; rfl
theorem digits_pos {k : Nat} (h : k ≠ 0) : digits k = digits (k / 10) ++ [UInt8.ofNat (48 + k % 10)] := by
  rw [digits, dif_neg h]

end Go.Proofs.YtbicfognbbeigaaGreat.Pl

/-
  Contracts of words that are doubled and read by pairs are proved.
  They hold for all words within the sizes that the statements' code allows.
-/
set_option linter.unusedVariables false
set_option linter.unusedSimpArgs false
namespace Go.Proofs.YtbicfognbbeigaaGreat
open Go.Proofs.YtbicfognbbeigaaGreat.Ab Go.Proofs.YtbicfognbbeigaaGreat.Pl







end Go.Proofs.YtbicfognbbeigaaGreat

/-
  Contracts of the shifts that are paths are proved.
  They hold for all words within the sizes that the statements' code allows.
-/
set_option linter.unusedVariables false
set_option linter.unusedSimpArgs false
namespace Go.Proofs.YtbicfognbbeigaaGreat
open Go.Proofs.YtbicfognbbeigaaGreat.Ab Go.Proofs.YtbicfognbbeigaaGreat.Pl

/-- a path and one more d -/
def goodW (s : List UInt8) : Bool := decide (0 < s.length) && (((s.getD (s.length - 1) 0).toNat : Int) == 100) && isDyck (s.take (s.length - 1))
def rot (w : List UInt8) (k : Nat) : List UInt8 := w.drop k ++ w.take k
theorem rot_len (w : List UInt8) (k : Nat) : (rot w k).length = w.length := by simp [rot]; omega
def goodShift (w : List UInt8) : Int × Bool := if isBal w then match (List.range w.length).find? fun j => goodW (rot w j) with
  | some k => (k, true)
  | none => (0, false) else (0, false)
def goodsTo (w : List UInt8) (k : Nat) : Nat := ((List.range k).filter fun j => goodW (rot w j)).length
def goods (w : List UInt8) : Int := if isBal w then goodsTo w w.length else -1
theorem goodsTo_le (w : List UInt8) (k : Nat) : goodsTo w k ≤ k := by
  have := List.length_filter_le (fun j => goodW (rot w j)) (List.range k)
  rwa [List.length_range] at this
theorem goodsTo_succ (w : List UInt8) (k : Nat) : goodsTo w (k + 1) = goodsTo w k + if goodW (rot w k) = true then 1 else 0 := by
  unfold goodsTo
  rw [List.range_succ, List.filter_append, List.length_append]
  by_cases h : goodW (rot w k) = true <;> simp [h]









end Go.Proofs.YtbicfognbbeigaaGreat

/-
  Contracts of words of Schroeder whose level steps are lifted are proved.
  They hold for all words within the sizes that the statements' code allows.
-/
set_option linter.unusedVariables false
set_option linter.unusedSimpArgs false
namespace Go.Proofs.YtbicfognbbeigaaGreat
open Go.Proofs.YtbicfognbbeigaaGreat.Ab Go.Proofs.YtbicfognbbeigaaGreat.Pl

theorem or64 (s k : Nat) (hs : s < 2 ^ k) (hk : k ≤ 60) : IntKind.i64.wrap ((BitVec.ofInt IntKind.i64.bits (s : Int) ||| BitVec.ofInt IntKind.i64.bits ((1 : Int) * 2 ^ min (k : Int).toNat IntKind.i64.bits)).toNat : Int) = (s : Int) + 2 ^ k := by
  have h1 : (2 : Nat) ^ k ≤ 2 ^ 60 := Nat.pow_le_pow_right (by decide) hk
  have e1 : (1 : Int) * 2 ^ min (k : Int).toNat IntKind.i64.bits = ((2 ^ k : Nat) : Int) := by
    rw [Int.toNat_natCast, show min k IntKind.i64.bits = k from Nat.min_eq_left (by show k ≤ 64; omega), Int.one_mul]
    simp
  have e2 := Nat.two_pow_add_eq_or_of_lt hs 1
  rw [Nat.mul_one] at e2
  have e3 : (BitVec.ofInt IntKind.i64.bits (s : Int) ||| BitVec.ofInt IntKind.i64.bits ((2 ^ k : Nat) : Int)).toNat = 2 ^ k + s := by
    rw [BitVec.toNat_or, BitVec.ofInt_natCast, BitVec.ofInt_natCast, BitVec.toNat_ofNat, BitVec.toNat_ofNat]
    rw [show (2 : Nat) ^ IntKind.i64.bits = 2 ^ 64 from rfl, Nat.mod_eq_of_lt (show s < 2 ^ 64 by omega), Nat.mod_eq_of_lt (show 2 ^ k < 2 ^ 64 by omega), Nat.or_comm, ← e2]
  rw [e1, e3]
  have e4 : ((2 : Int) ^ k) = ((2 ^ k : Nat) : Int) := by simp
  rw [e4]
  have : IntKind.i64.wrap (((2 ^ k + s : Nat)) : Int) = ((2 ^ k + s : Nat) : Int) := by
    apply IntWalk.i64_in
    omega
  rw [this]
  omega

/-- the word, the set and the number of peaks after so many letters -/
def liftTo (w : List UInt8) : Nat → List UInt8 × Nat × Nat
  | 0 => ([], 0, 0)
  | i + 1 => let r := liftTo w i
    if ((w.getD i 0).toNat : Int) = 108 then (r.1 ++ [117, 100], r.2.1 + 2 ^ r.2.2, r.2.2 + 1)
    else (r.1 ++ [w.getD i 0], r.2.1, if ((w.getD i 0).toNat : Int) = 100 ∧ 0 < i ∧ ((w.getD (i - 1) 0).toNat : Int) = 117 then r.2.2 + 1 else r.2.2)

theorem liftTo_bd (w : List UInt8) : ∀ i, (liftTo w i).2.1 < 2 ^ (liftTo w i).2.2 ∧ (liftTo w i).2.2 ≤ i ∧ (liftTo w i).1.length ≤ 2 * i := by
  intro i
  induction i with
  | zero => exact ⟨by simp [liftTo], by simp [liftTo], by simp [liftTo]⟩
  | succ i ih =>
    simp only [liftTo]
    split
    · refine ⟨?_, by dsimp only; omega, by simp; omega⟩
      dsimp only
      rw [Nat.pow_succ]
      omega
    · refine ⟨?_, by dsimp only; split <;> omega, by simp; omega⟩
      dsimp only
      split
      · rw [Nat.pow_succ]
        omega
      · exact ih.1

theorem cut_one (w : List UInt8) (i : Nat) (h : i < w.length) : (w.take ((i : Int) + 1).toNat).drop (i : Int).toNat = [w.getD i 0] := by
  rw [show ((i : Int) + 1).toNat = i + 1 by omega, Int.toNat_natCast, List.drop_take, show i + 1 - i = 1 by omega]
  have e : (w.drop i).take 1 = [w[i]] := by
    rw [List.drop_eq_getElem_cons h]
    rfl
  rw [e]
  simp [List.getD, h]

def lift (w : List UInt8) : List UInt8 × Int × Bool := if isSchroeder w = true then ((liftTo w w.length).1, ((liftTo w w.length).2.1 : Int), true) else ([], 0, false)

theorem isSchroeder_len {w : List UInt8} (h : isSchroeder w = true) : w.length ≤ 16 := by
  unfold isSchroeder at h
  simp only [Bool.and_eq_true, decide_eq_true_eq] at h
  omega




end Go.Proofs.YtbicfognbbeigaaGreat

/-
  Contracts of peaks and of words whose peaks are flattened are proved.
  They hold for all words within the sizes that the statements' code allows.
-/
set_option linter.unusedVariables false
set_option linter.unusedSimpArgs false
namespace Go.Proofs.YtbicfognbbeigaaGreat
open Go.Proofs.YtbicfognbbeigaaGreat.Ab Go.Proofs.YtbicfognbbeigaaGreat.Pl

/-- a peak begins at this place -/
def peakAt (w : List UInt8) (i : Nat) : Prop := w.getD i 0 = 117 ∧ w.getD (i + 1) 0 = 100
instance (w : List UInt8) (i : Nat) : Decidable (peakAt w i) := by unfold peakAt; infer_instance
/-- the peaks that begin before this place -/
def peaksTo (w : List UInt8) : Nat → Nat
  | 0 => 0
  | i + 1 => peaksTo w i + if peakAt w i then 1 else 0
theorem peaksTo_le (w : List UInt8) : ∀ i, peaksTo w i ≤ i
  | 0 => Nat.le_refl _
  | i + 1 => by
    have := peaksTo_le w i
    simp only [peaksTo]
    split <;> omega
def peaks (w : List UInt8) : Int := if isDyck w = true then (peaksTo w (w.length - 1) : Int) else -1

theorem peaksTo_end (w : List UInt8) {i : Nat} (h : i = 0 ∨ i + 1 ≤ w.length) (g : ¬ ((i + 1 : Nat) : Int) < w.length) : i = w.length - 1 := by omega
theorem byte_117 (x : UInt8) : (x.toNat : Int) = 117 ↔ x = 117 := ⟨fun h => UInt8.toNat_inj.1 (by rw [show (117 : UInt8).toNat = 117 from rfl]; omega), fun h => by rw [h]; rfl⟩
theorem byte_100 (x : UInt8) : (x.toNat : Int) = 100 ↔ x = 100 := ⟨fun h => UInt8.toNat_inj.1 (by rw [show (100 : UInt8).toNat = 100 from rfl]; omega), fun h => by rw [h]; rfl⟩



end Go.Proofs.YtbicfognbbeigaaGreat

/-
  Contracts of words whose peaks are flattened are proved.
  They hold for all words within the sizes that the statements' code allows.
-/
set_option linter.unusedVariables false
set_option linter.unusedSimpArgs false
namespace Go.Proofs.YtbicfognbbeigaaGreat
open Go.Proofs.YtbicfognbbeigaaGreat.Ab Go.Proofs.YtbicfognbbeigaaGreat.Pl

theorem dyck_walk {w : List UInt8} (h : isDyck w = true) (i : Nat) : ∃ g, walkH 1 (-1) false (w.take i) 0 = some g ∧ 0 ≤ g := by
  unfold isDyck at h
  simp only [Bool.and_eq_true, decide_eq_true_eq, beq_iff_eq] at h
  cases hx : walkH 1 (-1) false (w.take i) 0 with
  | none => rw [walkH_take_none hx] at h; cases h.2
  | some g => exact ⟨g, rfl, (walkH_bd (by decide) (by decide) _ _ _ (by decide) hx).1⟩
theorem dyck_letters {w : List UInt8} (h : isDyck w = true) {i : Nat} (hi : i < w.length) (n : w.getD i 0 ≠ 100) : w.getD i 0 = 117 := by
  obtain ⟨g, hg, _⟩ := dyck_walk h i
  apply Classical.byContradiction
  intro n2
  have := walkH_bad hi hg (stepOf_no (fun e => n2 ((byte_117 _).1 e)) (fun e => n ((byte_100 _).1 e)) (.inr rfl))
  unfold isDyck at h
  rw [this] at h
  simp at h
theorem dyck_last {w : List UInt8} (h : isDyck w = true) {i : Nat} (hi : i < w.length) (n : w.getD i 0 = 117) : i + 1 < w.length := by
  obtain ⟨g, hg, h0⟩ := dyck_walk h i
  apply Classical.byContradiction
  intro n2
  have e : i + 1 = w.length := by omega
  have := walkH_next hi hg (stepOf_u ((byte_117 _).2 n)) (by omega)
  rw [e, List.take_length] at this
  unfold isDyck at h
  rw [this] at h
  simp only [Bool.and_eq_true, beq_iff_eq, Option.some.injEq] at h
  omega

/-- the bit of a set, as the code reads it -/
def bitP (set k : Int) : Prop := IntKind.i64.wrap ((BitVec.ofInt IntKind.i64.bits (set.fdiv (2 ^ min k.toNat IntKind.i64.bits)) &&& BitVec.ofInt IntKind.i64.bits 1).toNat : Int) = 1
instance (set k : Int) : Decidable (bitP set k) := by unfold bitP; infer_instance
/-- the word and the number of peaks after so many letters -/
def flTo (w : List UInt8) (set : Int) : Nat → List UInt8 × Nat
  | 0 => ([], 0)
  | i + 1 => let r := flTo w set i
    if peakAt w i then (r.1 ++ [if bitP set r.2 then 108 else 117], r.2 + 1)
    else if 0 < i ∧ peakAt w (i - 1) ∧ bitP set (r.2 - 1 : Nat) then r else (r.1 ++ [w.getD i 0], r.2)
theorem flTo_bd (w : List UInt8) (set : Int) : ∀ i, (flTo w set i).1.length ≤ i ∧ (flTo w set i).2 ≤ i := by
  intro i
  induction i with
  | zero => exact ⟨by simp [flTo], by simp [flTo]⟩
  | succ i ih =>
    simp only [flTo]
    split
    · exact ⟨by simp; omega, by dsimp only; omega⟩
    · split
      · exact ⟨by omega, by omega⟩
      · exact ⟨by simp; omega, by dsimp only; omega⟩
def flatOk (w : List UInt8) (set : Int) : Prop := isDyck w = true ∧ 0 ≤ set ∧ set ≤ (1 : Int) * 2 ^ min (peaks w).toNat IntKind.i64.bits - 1
instance (w : List UInt8) (set : Int) : Decidable (flatOk w set) := by unfold flatOk; infer_instance
def flat (w : List UInt8) (set : Int) : List UInt8 × Bool := if flatOk w set then ((flTo w set w.length).1, true) else ([], false)
theorem peaks_bd {w : List UInt8} (h : isDyck w = true) : (0 ≤ peaks w ∧ peaks w ≤ 16) ∧ 1 ≤ (1 : Int) * 2 ^ min (peaks w).toNat IntKind.i64.bits ∧ (1 : Int) * 2 ^ min (peaks w).toNat IntKind.i64.bits ≤ 65536 := by
  have e : peaks w = (peaksTo w (w.length - 1) : Int) := if_pos h
  have b := peaksTo_le w (w.length - 1)
  have l := (isDyck_even h).2
  have b1 : 0 ≤ peaks w ∧ peaks w ≤ 16 := by omega
  obtain ⟨n, hn⟩ := Int.eq_ofNat_of_zero_le b1.1
  refine ⟨b1, ?_⟩
  rw [hn, Int.toNat_natCast, show min n IntKind.i64.bits = n from Nat.min_eq_left (by show n ≤ 64; omega), Int.one_mul, show ((2 : Int) ^ n) = ((2 ^ n : Nat) : Int) by simp]
  have h1 : (2 : Nat) ^ n ≤ 2 ^ 16 := Nat.pow_le_pow_right (by decide) (by omega)
  have h2 : 0 < (2 : Nat) ^ n := Nat.pow_pos (by decide)
  omega

theorem flTo_peak {w : List UInt8} {set : Int} {i k : Nat} {s : List UInt8} (hs : flTo w set i = (s, k)) (h : peakAt w i) : flTo w set (i + 1) = (s ++ [if bitP set k then 108 else 117], k + 1) := by
  simp only [flTo, hs]
  rw [if_pos h]
theorem flTo_skip {w : List UInt8} {set : Int} {i k : Nat} {s : List UInt8} (hs : flTo w set i = (s, k)) (h : ¬ peakAt w i) (h2 : 0 < i ∧ peakAt w (i - 1) ∧ bitP set (k - 1 : Nat)) : flTo w set (i + 1) = (s, k) := by
  simp only [flTo, hs]
  rw [if_neg h, if_pos h2]
theorem flTo_plain {w : List UInt8} {set : Int} {i k : Nat} {s : List UInt8} (hs : flTo w set i = (s, k)) (h : ¬ peakAt w i) (h2 : ¬ (0 < i ∧ peakAt w (i - 1) ∧ bitP set (k - 1 : Nat))) : flTo w set (i + 1) = (s ++ [w.getD i 0], k) := by
  simp only [flTo, hs]
  rw [if_neg h, if_neg h2]




end Go.Proofs.YtbicfognbbeigaaGreat
