/-
  Plain laws of heights of words are proved.
  They hold for all lists of bytes.
-/
import Derived.Test.YthadkebcjlpkhaaH0
import Derived.Test.YthadkebcjlpkhaaGX
set_option linter.unusedVariables false
set_option linter.unusedSimpArgs false
namespace Go.Proofs.Ythadkebcjlpkhaa.Pl

theorem hgt_nil : hgt [] = 0 := by decide

/-- a walk's height is that of its letters -/
theorem walkH_hgt : ∀ (w : List UInt8) (h g : Int), walkH 1 (-1) false w h = some g → g = h + hgt w := by
  intro w
  induction w with
  | nil => intro h g e; simp only [walkH] at e; injection e with e; rw [hgt_nil]; omega
  | cons x r ih =>
    intro h g e
    have e1 : hgt (x :: r) = hgt r + (if (x.toNat : Int) = 117 then 1 else 0) - (if (x.toNat : Int) = 100 then 1 else 0) := by
      have f1 : cntB (x :: r) 117 = cntB r 117 + if (x.toNat : Int) = 117 then 1 else 0 := by unfold cntB; by_cases h : (x.toNat : Int) = 117 <;> simp [h]
      have f2 : cntB (x :: r) 100 = cntB r 100 + if (x.toNat : Int) = 100 then 1 else 0 := by unfold cntB; by_cases h : (x.toNat : Int) = 100 <;> simp [h]
      unfold hgt
      rw [f1, f2]
      split <;> split <;> omega
    simp only [walkH] at e
    cases hs : stepOf 1 (-1) false x with
    | none => rw [hs] at e; cases e
    | some d =>
      rw [hs] at e
      dsimp only at e
      by_cases hd : h + d < 0
      · simp [hd] at e
      · simp only [hd, if_false] at e
        have := ih _ _ e
        rw [e1]
        unfold stepOf at hs
        split at hs
        · injection hs with hs
          rename_i h1
          rw [if_pos h1, if_neg (by omega)]
          omega
        · split at hs
          · injection hs with hs
            rename_i h1 h2
            rw [if_neg h1, if_pos h2]
            omega
          · split at hs
            · rename_i h3
              cases h3.2
            · cases hs

/-- the heights before the letters and at the end -/
def htsTo (w : List UInt8) (k : Nat) : List Int := (List.range (k + 1)).map fun j => hgt (w.take j)
def hts (w : List UInt8) : List Int := htsTo w w.length
theorem htsTo_zero (w : List UInt8) : htsTo w 0 = [0] := by simp [htsTo, hgt_nil]
theorem htsTo_succ (w : List UInt8) (k : Nat) : htsTo w (k + 1) = htsTo w k ++ [hgt (w.take (k + 1))] := by
  unfold htsTo
  rw [List.range_succ, List.map_append]
  rfl
@[simp] theorem htsTo_length (w : List UInt8) (k : Nat) : (htsTo w k).length = k + 1 := by simp [htsTo]

end Go.Proofs.Ythadkebcjlpkhaa.Pl

/-
  Contracts of functions that make rows of numbers are proved: heights, paths, diagrams of the identity and of hooks.
  They hold for all arguments within the sizes that the statements' code allows.
-/
set_option linter.unusedVariables false
set_option linter.unusedSimpArgs false
namespace Go.Proofs.Ythadkebcjlpkhaa
open Go.Proofs.Ythadkebcjlpkhaa.Ab Go.Proofs.Ythadkebcjlpkhaa.Pl




/-- a word of a circle -/
def circle (w : List UInt8) (k : Int) : List UInt8 × Bool := if isDyck w then shiftW (w ++ [100]) k else ([], false)




end Go.Proofs.Ythadkebcjlpkhaa

/-
  Contracts of functions that make rows of numbers are proved: rows that are equal, marked and held, and diagrams of the identity and of hooks.
  They hold for all arguments within the sizes that the statements' code allows.
-/
set_option linter.unusedVariables false
set_option linter.unusedSimpArgs false
namespace Go.Proofs.Ythadkebcjlpkhaa
open Go.Proofs.Ythadkebcjlpkhaa.Ab Go.Proofs.Ythadkebcjlpkhaa.Pl

theorem eqIntS_ok (l : List Int) (b c N C D : Nat) (h0 : H) (hb : Has h0 b (ints l)) (hc' : Has h0 c (ints l)) (hN : N = l.length) (hl : N ≤ 1000000000) : AC env 16 [.slice b 0 N C, .slice c 0 N D] h0 fun v h' => v = .bool true ∧ h' = h0 := by
  refine AC.enter Try.func16 Try.call16 rfl Try.ntmps16 (of_decide_eq_true (by rfl)) ?_
  repeat' (first
    | refine AW.seq ?_
    | (refine AW.region ?_; conv => whnf)
    | refine AW.block ?_
    | (refine AW.skip ?_; conv => whnf)
    | (refine AW.ret ?_; conv => whnf)
    | (refine AW.exit ?_; conv => whnf)
    | refine AW.cond (by rfl) ?_
    | (refine AW.draw (id := 6) (.p 0 (.p 1 (.p 2 (.p 4 (.p 5 (.p 6 (.r 3 [8] (.r 7 [8] (.p 8 .done))))))))) (by kernel_rfl) (by kernel_rfl) ?_; conv => whnf)
    | (refine Br.tt ?_; conv => whnf)
    | (refine Br.ff ?_; conv => whnf)
    | refine Br.not ?_
    | (refine Br.t (beq_self_eq_true _) ?_; conv => whnf)
    | (refine Br.t (by assumption) ?_; conv => whnf)
    | (refine Br.f (by assumption) ?_; conv => whnf)
    | (refine Br.dt (by omega) ?_; conv => whnf)
    | (refine Br.df (by omega) ?_; conv => whnf)
    | (refine Br.it (by omega) ?_; conv => whnf)
    | (refine Br.if (by omega) ?_; conv => whnf)
    | (refine Br.nt (by omega) ?_; conv => whnf)
    | (refine Br.nf (by omega) ?_; conv => whnf)
    | (refine Br.dec (fun hc => ?_) (fun hc => ?_) <;> conv => whnf)
    | (refine Br.ieq (fun hc => ?_) (fun hc => ?_) <;> conv => whnf)
    | (refine Br.ine (fun hc => ?_) (fun hc => ?_) <;> conv => whnf)
    | (refine Br.mk (fun hc => ?_) (fun hc => ?_) <;> conv => whnf)
    | (refine Wr.i64 (by omega) ?_; conv => whnf)
    | (refine Ck.mk (by omega) ?_; conv => whnf)
    | (refine Wr.i64 (by simp only [List.length_drop, List.length_take, List.length_append, List.length_cons, List.length_nil]; omega) ?_; conv => whnf)
    | (refine Ck.mk (by simp only [List.length_drop, List.length_take, List.length_append, List.length_cons, List.length_nil]; omega) ?_; conv => whnf)
    | (refine NewG.zeros rfl (fun bt h' hbt hn' => ?_); conv => whnf)
    | (refine NewG.mk (fun bt hbt => ?_); conv => whnf)
    | (refine LoadsG.made (by rfl) ?_; conv => whnf)
    | (refine New.appI (New.upd (by assumption) (by assumption) _) (by first | rfl | (simp; done) | omega | (simp; omega)) (by first | (simp; done) | omega | (simp; omega)) (by decide) (fun b' h' hn' ho' => ?_); conv => whnf)
    | (refine New.loadZ (by assumption) rfl (by first | (simp; done) | omega | (simp only [List.length_set, tab_length]; omega) | (simp; omega)) ?_; conv => whnf)
    | (refine Has.loadZ (by assumption) rfl (by first | (simp; done) | omega | (simp only [List.length_set, tab_length]; omega) | (simp; omega)) ?_; conv => whnf)
    | (refine New.storeZ (by assumption) rfl (by first | (simp; done) | omega | (simp only [List.length_set, tab_length]; omega) | (simp; omega)) (fun h' hn' ho' => ?_); conv => whnf)
    | (refine Own.storeZ (by assumption) rfl (by first | (simp; done) | omega | (simp only [List.length_set, tab_length]; omega) | (simp; omega)) (fun h' hn' ho' => ?_); conv => whnf)
    | (refine Wr.u8 (by omega) ?_; conv => whnf)
    | (refine Wr.u32 (by omega) ?_; conv => whnf)
    | (refine Wr.u64 (by omega) ?_; conv => whnf)
    | (refine New.loadS (by assumption) rfl (by first | (simp; done) | omega | (simp only [List.length_set, tab_length]; omega) | (simp; omega)) ?_; conv => whnf)
    | (refine Has.loadS (by assumption) rfl (by first | (simp; done) | omega | (simp only [List.length_set, tab_length]; omega) | (simp; omega)) ?_; conv => whnf)
    | (refine Own.storeS (by assumption) rfl (by first | (simp; done) | omega | (simp only [List.length_set, tab_length]; omega) | (simp; omega)) (fun h' hn' ho' => ?_); conv => whnf)
    | (refine New.appS (New.upd (by assumption) (by assumption) _) (by first | rfl | (simp; done) | omega | (simp; omega)) (by first | (simp; done) | omega | (simp; omega)) (by decide) (fun b' h' hn' ho' => ?_); conv => whnf)
    | (refine Ck.slice (by omega) (by omega) (by omega) (by decide) ?_; conv => whnf)
    | (refine Ck.mk (by simp; omega) ?_; conv => whnf))
  refine AW.loop1 (fun (k : Nat) => [(0, .slice b 0 N C), (1, .slice c 0 N D), (5, .int .i64 k)]) (fun k h' => k ≤ N ∧ h' = h0) (fun k => N - k) 0 (Less.cons rfl (Less.cons rfl (Less.cons rfl (Less.nil _)))) ⟨by omega, rfl⟩ ?_
  rintro k h' ⟨hk, rfl⟩
  repeat' (first
    | refine AW.seq ?_
    | (refine AW.region ?_; conv => whnf)
    | refine AW.block ?_
    | (refine AW.skip ?_; conv => whnf)
    | (refine AW.ret ?_; conv => whnf)
    | (refine AW.exit ?_; conv => whnf)
    | refine AW.cond (by rfl) ?_
    | (refine AW.draw (id := 6) (.p 0 (.p 1 (.p 2 (.p 4 (.p 5 (.p 6 (.r 3 [8] (.r 7 [8] (.p 8 .done))))))))) (by kernel_rfl) (by kernel_rfl) ?_; conv => whnf)
    | (refine Br.tt ?_; conv => whnf)
    | (refine Br.ff ?_; conv => whnf)
    | refine Br.not ?_
    | (refine Br.t (beq_self_eq_true _) ?_; conv => whnf)
    | (refine Br.t (by assumption) ?_; conv => whnf)
    | (refine Br.f (by assumption) ?_; conv => whnf)
    | (refine Br.dt (by omega) ?_; conv => whnf)
    | (refine Br.df (by omega) ?_; conv => whnf)
    | (refine Br.it (by omega) ?_; conv => whnf)
    | (refine Br.if (by omega) ?_; conv => whnf)
    | (refine Br.nt (by omega) ?_; conv => whnf)
    | (refine Br.nf (by omega) ?_; conv => whnf)
    | (refine Br.dec (fun hc => ?_) (fun hc => ?_) <;> conv => whnf)
    | (refine Br.ieq (fun hc => ?_) (fun hc => ?_) <;> conv => whnf)
    | (refine Br.ine (fun hc => ?_) (fun hc => ?_) <;> conv => whnf)
    | (refine Br.mk (fun hc => ?_) (fun hc => ?_) <;> conv => whnf)
    | (refine Wr.i64 (by omega) ?_; conv => whnf)
    | (refine Ck.mk (by omega) ?_; conv => whnf)
    | (refine Wr.i64 (by simp only [List.length_drop, List.length_take, List.length_append, List.length_cons, List.length_nil]; omega) ?_; conv => whnf)
    | (refine Ck.mk (by simp only [List.length_drop, List.length_take, List.length_append, List.length_cons, List.length_nil]; omega) ?_; conv => whnf)
    | (refine NewG.zeros rfl (fun bt h' hbt hn' => ?_); conv => whnf)
    | (refine NewG.mk (fun bt hbt => ?_); conv => whnf)
    | (refine LoadsG.made (by rfl) ?_; conv => whnf)
    | (refine New.appI (New.upd (by assumption) (by assumption) _) (by first | rfl | (simp; done) | omega | (simp; omega)) (by first | (simp; done) | omega | (simp; omega)) (by decide) (fun b' h' hn' ho' => ?_); conv => whnf)
    | (refine New.loadZ (by assumption) rfl (by first | (simp; done) | omega | (simp only [List.length_set, tab_length]; omega) | (simp; omega)) ?_; conv => whnf)
    | (refine Has.loadZ (by assumption) rfl (by first | (simp; done) | omega | (simp only [List.length_set, tab_length]; omega) | (simp; omega)) ?_; conv => whnf)
    | (refine New.storeZ (by assumption) rfl (by first | (simp; done) | omega | (simp only [List.length_set, tab_length]; omega) | (simp; omega)) (fun h' hn' ho' => ?_); conv => whnf)
    | (refine Own.storeZ (by assumption) rfl (by first | (simp; done) | omega | (simp only [List.length_set, tab_length]; omega) | (simp; omega)) (fun h' hn' ho' => ?_); conv => whnf)
    | (refine Wr.u8 (by omega) ?_; conv => whnf)
    | (refine Wr.u32 (by omega) ?_; conv => whnf)
    | (refine Wr.u64 (by omega) ?_; conv => whnf)
    | (refine New.loadS (by assumption) rfl (by first | (simp; done) | omega | (simp only [List.length_set, tab_length]; omega) | (simp; omega)) ?_; conv => whnf)
    | (refine Has.loadS (by assumption) rfl (by first | (simp; done) | omega | (simp only [List.length_set, tab_length]; omega) | (simp; omega)) ?_; conv => whnf)
    | (refine Own.storeS (by assumption) rfl (by first | (simp; done) | omega | (simp only [List.length_set, tab_length]; omega) | (simp; omega)) (fun h' hn' ho' => ?_); conv => whnf)
    | (refine New.appS (New.upd (by assumption) (by assumption) _) (by first | rfl | (simp; done) | omega | (simp; omega)) (by first | (simp; done) | omega | (simp; omega)) (by decide) (fun b' h' hn' ho' => ?_); conv => whnf)
    | (refine Ck.slice (by omega) (by omega) (by omega) (by decide) ?_; conv => whnf)
    | (refine Ck.mk (by simp; omega) ?_; conv => whnf))
  · exact ⟨k + 1, (Less.cons rfl (Less.cons rfl (Less.cons rfl (Less.nil _)))), ⟨by omega, rfl⟩, by omega⟩
  · exact ⟨rfl, rfl⟩

/-- marked rows -/
def iota (k : Int) (n : Nat) : List Int := tab n fun j => k + j



end Go.Proofs.Ythadkebcjlpkhaa

/-
  Contracts of the diagrams of the identity and of hooks are proved.
  They hold for all arguments.
-/
set_option linter.unusedVariables false
set_option linter.unusedSimpArgs false
namespace Go.Proofs.Ythadkebcjlpkhaa
open Go.Proofs.Ythadkebcjlpkhaa.Ab Go.Proofs.Ythadkebcjlpkhaa.Pl

/-- a row of numbers and whether there is one -/
def RetI (p : List Int × Bool) (h0 : H) (v : AV) (h' : H) : Prop := ∃ b, v = .tup [.slice b 0 p.1.length p.1.length, .bool p.2] ∧ New h0 h' b (ints p.1)

theorem RetI.mk' {p : List Int × Bool} {h0 h' : H} {b n : Nat} {l : List Int} {t : Bool} (e : p = (l, t)) (hn : n = l.length) (m : New h0 h' b (ints l)) : RetI p h0 (.tup [.slice b 0 n n, .bool t]) h' := by
  subst e hn
  exact ⟨b, rfl, m⟩

/-- the diagram that joins each point with the one below -/
def idD (n : Nat) : List Int := tab (2 * n) fun i => 2 * n - 1 - i
def idDI (n : Int) : List Int × Bool := if 1 ≤ n ∧ n ≤ 8 then (idD n.toNat, true) else ([], false)




theorem idDI_len (n : Int) : (idDI n).1.length ≤ 1000 := by
  unfold idDI
  split
  · simp [idD]
    omega
  · simp


/-- the diagram with one hook above and one below -/
def hookD (n i : Nat) : List Int := ((((idD n).set i (i + 1)).set (i + 1) i).set (2 * n - 1 - i) (2 * n - 2 - i)).set (2 * n - 2 - i) (2 * n - 1 - i)
def hookDI (n i : Int) : List Int × Bool := if (1 ≤ n ∧ n ≤ 8) ∧ 0 ≤ i ∧ i ≤ n - 2 then (hookD n.toNat i.toNat, true) else ([], false)

theorem hookDI_len (n i : Int) : (hookDI n i).1.length ≤ 1000 := by
  unfold hookDI
  split
  · simp [hookD, idD]
    omega
  · simp




end Go.Proofs.Ythadkebcjlpkhaa

/-
  Plain laws of the numbers of Motzkin are proved: two recurrences give the same numbers.
  They hold for the numbers up to 20.
-/
set_option linter.unusedVariables false
set_option linter.unusedSimpArgs false
namespace Go.Proofs.Ythadkebcjlpkhaa.Pl

/-- words of letters u, l and d that end at a height, by length -/
def motT : List (List Int) := [[1],
  [1, 1],
  [2, 2, 1],
  [4, 5, 3, 1],
  [9, 12, 9, 4, 1],
  [21, 30, 25, 14, 5, 1],
  [51, 76, 69, 44, 20, 6, 1],
  [127, 196, 189, 133, 70, 27, 7, 1],
  [323, 512, 518, 392, 230, 104, 35, 8, 1],
  [835, 1353, 1422, 1140, 726, 369, 147, 44, 9, 1],
  [2188, 3610, 3915, 3288, 2235, 1242, 560, 200, 54, 10, 1],
  [5798, 9713, 10813, 9438, 6765, 4037, 2002, 814, 264, 65, 11, 1],
  [15511, 26324, 29964, 27016, 20240, 12804, 6853, 3080, 1143, 340, 77, 12, 1],
  [41835, 71799, 83304, 77220, 60060, 39897, 22737, 11076, 4563, 1560, 429, 90, 13, 1],
  [113634, 196938, 232323, 220584, 177177, 122694, 73710, 38376, 17199, 6552, 2079, 532, 104, 14, 1],
  [310572, 542895, 649845, 630084, 520455, 373581, 234780, 129285, 62127, 25830, 9163, 2715, 650, 119, 15, 1],
  [853467, 1503312, 1822824, 1800384, 1524120, 1128816, 737646, 426192, 217242, 97120, 37708, 12528, 3484, 784, 135, 16, 1],
  [2356779, 4179603, 5126520, 5147328, 4453320, 3390582, 2292654, 1381080, 740554, 352070, 147356, 53720, 16796, 4403, 935, 152, 17, 1],
  [6536382, 11662902, 14453451, 14727168, 12991230, 10136556, 7064316, 4414288, 2473704, 1239980, 553146, 217872, 74919, 22134, 5490, 1104, 170, 18, 1],
  [18199284, 32652735, 40843521, 42171849, 37854954, 30192102, 21615160, 13952308, 8127972, 4266830, 2010998, 845937, 314925, 102543, 28728, 6764, 1292, 189, 19, 1],
  [50852019, 91695540, 115668105, 120870324, 110218905, 89662216, 65759570, 43695440, 26347110, 14405800, 7123765, 3171860, 1263405, 446196, 138035, 36784, 8245, 1500, 209, 20, 1]]
def motV (k h : Nat) : Int := (motT.getD k []).getD h 0
theorem motV_step : ∀ k, k < 20 → ∀ h, h < 23 → motV (k + 1) h = motV k h + motV k (h + 1) + if h = 0 then 0 else motV k (h - 1) := by decide +kernel
theorem motV_bd0 : ∀ k, k < 21 → ∀ h, h < 25 → 0 ≤ motV k h ∧ motV k h ≤ 1000000000 := by decide +kernel
theorem motV_bd (k h : Nat) : 0 ≤ motV k h ∧ motV k h ≤ 1000000000 := by
  by_cases hk : k < 21
  · by_cases hh : h < 25
    · exact motV_bd0 k hk h hh
    · have e : ∀ k, k < 21 → (motT.getD k []).length ≤ 25 := by decide +kernel
      have := e k hk
      have e2 : motV k h = 0 := by
        unfold motV
        rw [List.getD_eq_getElem?_getD, List.getElem?_eq_none (by omega)]
        rfl
      rw [e2]
      decide
  · have e2 : motV k h = 0 := by
      unfold motV
      rw [List.getD_eq_getElem?_getD (l := motT), List.getElem?_eq_none (by show 21 ≤ k; omega)]
      rfl
    rw [e2]
    decide

theorem motV_zero : ∀ k, k < 21 → ∀ h, h < 25 → k < h → motV k h = 0 := by decide +kernel

/-- the reference's sum, as far as it has come -/
def motS (m : Nat) : Nat → Int
  | 0 => motV (m - 1) 0
  | k + 1 => motS m k + motV k 0 * motV (m - 2 - k) 0
theorem motS_end : ∀ m, m < 21 → m ≠ 0 → motS m (m - 1) = motV m 0 := by decide +kernel
theorem motS_bd : ∀ m, m < 21 → m ≠ 0 → ∀ k, k < m → 0 ≤ motS m k ∧ motS m k ≤ 1000000000 := by decide +kernel
theorem motP_bd : ∀ m, m < 21 → ∀ k, k < m → 0 ≤ motV k 0 * motV (m - 2 - k) 0 ∧ motV k 0 * motV (m - 2 - k) 0 ≤ 1000000000 := by decide +kernel

end Go.Proofs.Ythadkebcjlpkhaa.Pl

/-
  Contracts of the numbers of Motzkin are proved.
  They hold for all arguments.
-/
set_option linter.unusedVariables false
set_option linter.unusedSimpArgs false
namespace Go.Proofs.Ythadkebcjlpkhaa
open Go.Proofs.Ythadkebcjlpkhaa.Ab Go.Proofs.Ythadkebcjlpkhaa.Pl

def motN (n : Int) : Int := if 0 ≤ n ∧ n ≤ 20 then motV n.toNat 0 else -1




end Go.Proofs.Ythadkebcjlpkhaa
