/-
  Plain laws of heights of words are proved.
  They hold for all lists of bytes.
-/
import Derived.Test.YtdfdlnjijccpeaaP2
set_option linter.unusedVariables false
set_option linter.unusedSimpArgs false
namespace Go.Proofs.Ytdfdlnjijccpeaa.Pl

theorem hgt_nil : hgt [] = 0 := by decide

/-- a walk's height is that of its letters -/
theorem walkH_hgt : ∀ (w : List UInt8) (h g : Int), walkH 1 (-1) false w h = some g → g = h + hgt w := by
  intro w
  induction w with
  | nil => intro h g e; simp only [walkH] at e; injection e with e; rw [hgt_nil]; omega
  | cons x r ih =>
    intro h g e
    have e1 : hgt (x :: r) = hgt r + (if (x.toNat : Int) = 117 then 1 else 0) - (if (x.toNat : Int) = 100 then 1 else 0) := by
      have f1 : cntB (x :: r) 117 = cntB r 117 + if (x.toNat : Int) = 117 then 1 else 0 := by unfold cntB; by_cases h : (x.toNat : Int) = 117 <;> simp [h]
      have f2 : cntB (x :: r) 100 = cntB r 100 + if (x.toNat : Int) = 100 then 1 else 0 := by unfold cntB; by_cases h : (x.toNat : Int) = 100 <;> simp [h]
      unfold hgt
      rw [f1, f2]
      split <;> split <;> omega
    simp only [walkH] at e
    cases hs : stepOf 1 (-1) false x with
    | none => rw [hs] at e; cases e
    | some d =>
      rw [hs] at e
      dsimp only at e
      by_cases hd : h + d < 0
      · simp [hd] at e
      · simp only [hd, if_false] at e
        have := ih _ _ e
        rw [e1]
        unfold stepOf at hs
        split at hs
        · injection hs with hs
          rename_i h1
          rw [if_pos h1, if_neg (by omega)]
          omega
        · split at hs
          · injection hs with hs
            rename_i h1 h2
            rw [if_neg h1, if_pos h2]
            omega
          · split at hs
            · rename_i h3
              cases h3.2
            · cases hs

/-- the heights before the letters and at the end -/
def htsTo (w : List UInt8) (k : Nat) : List Int := (List.range (k + 1)).map fun j => hgt (w.take j)
def hts (w : List UInt8) : List Int := htsTo w w.length
theorem htsTo_zero (w : List UInt8) : htsTo w 0 = [0] := by simp [htsTo, hgt_nil]
theorem htsTo_succ (w : List UInt8) (k : Nat) : htsTo w (k + 1) = htsTo w k ++ [hgt (w.take (k + 1))] := by
  unfold htsTo
  rw [List.range_succ, List.map_append]
  rfl
@[simp] theorem htsTo_length (w : List UInt8) (k : Nat) : (htsTo w k).length = k + 1 := by simp [htsTo]

end Go.Proofs.Ytdfdlnjijccpeaa.Pl
