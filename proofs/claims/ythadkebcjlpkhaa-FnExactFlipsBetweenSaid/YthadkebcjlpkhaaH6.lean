/-
  Contracts of the matching of a path are proved.
  They hold for all paths for which the two ways agree.
-/
import Derived.Test.YthadkebcjlpkhaaH5
import Derived.Test.YthadkebcjlpkhaaGY
import Derived.Test.YthadkebcjlpkhaaH4
import Derived.Test.YthadkebcjlpkhaaH0
set_option linter.unusedVariables false
set_option linter.unusedSimpArgs false
namespace Go.Proofs.Ythadkebcjlpkhaa
open Go.Proofs.Ythadkebcjlpkhaa.Ab Go.Proofs.Ythadkebcjlpkhaa.Pl

def isU (x : UInt8) : Bool := x.toNat == 117
/-- the letter that belongs to one, onward -/
def scF (w : List UInt8) : Nat → Nat → Int → Option Nat
  | 0, _, _ => none
  | f + 1, k, h => if (if ((w.getD k 0).toNat : Int) = 117 then h + 1 else h - 1) = 0 then some k else scF w f (k + 1) (if ((w.getD k 0).toNat : Int) = 117 then h + 1 else h - 1)
/-- and backward -/
def scB (w : List UInt8) : Nat → Int → Option Nat
  | 0, _ => none
  | f + 1, h => if (if ((w.getD f 0).toNat : Int) = 100 then h + 1 else h - 1) = 0 then some f else scB w f (if ((w.getD f 0).toNat : Int) = 100 then h + 1 else h - 1)
def pt (w : List UInt8) (i : Nat) : Option Nat := if ((w.getD i 0).toNat : Int) = 117 then scF w (w.length - i) i 0 else scB w (i + 1) 0

/-- the open letters and the pairs so far -/
def stI (w : List UInt8) : Nat → Option (List Int × List Int)
  | 0 => some ([], List.replicate w.length 0)
  | k + 1 => match stI w k with
    | none => none
    | some (o, l) => if ((w.getD k 0).toNat : Int) = 117 then some (o ++ [(k : Int)], l) else if o.length = 0 then none else some (o.take (o.length - 1), (l.set k (o.getD (o.length - 1) 0)).set (o.getD (o.length - 1) 0).toNat k)
theorem stI_u {w : List UInt8} {k : Nat} {o l : List Int} (e : stI w k = some (o, l)) (h : ((w.getD k 0).toNat : Int) = 117) : stI w (k + 1) = some (o ++ [(k : Int)], l) := by
  simp only [stI, e, if_pos h]
theorem stI_d {w : List UInt8} {k : Nat} {o l : List Int} (e : stI w k = some (o, l)) (h : ¬ ((w.getD k 0).toNat : Int) = 117) (h2 : o.length ≠ 0) : stI w (k + 1) = some (o.take (o.length - 1), (l.set k (o.getD (o.length - 1) 0)).set (o.getD (o.length - 1) 0).toNat k) := by
  simp only [stI, e, if_neg h, if_neg h2]
theorem stI_e {w : List UInt8} {k : Nat} {o l : List Int} (e : stI w k = some (o, l)) (h : ¬ ((w.getD k 0).toNat : Int) = 117) (h2 : o.length = 0) : stI w (k + 1) = none := by
  simp only [stI, e, if_neg h, if_pos h2]
theorem stI_none {w : List UInt8} {k : Nat} (e : stI w k = none) : ∀ j, k ≤ j → stI w j = none := by
  intro j hj
  induction j with
  | zero => rw [← e, show k = 0 by omega]
  | succ j ih =>
    by_cases h : k = j + 1
    · rw [← h, e]
    · simp only [stI, ih (by omega)]
theorem stI_in {w : List UInt8} : ∀ k o l, k ≤ w.length → stI w k = some (o, l) → l.length = w.length ∧ o.length ≤ k ∧ ∀ i, i < o.length → 0 ≤ o.getD i 0 ∧ o.getD i 0 < k := by
  intro k
  induction k with
  | zero =>
    intro o l _ e
    simp only [stI] at e
    injection e with e
    injection e with e1 e2
    subst e1 e2
    exact ⟨by simp, by simp, fun i hi => by simp at hi⟩
  | succ k ih =>
    intro o l hk e
    cases e1 : stI w k with
    | none => simp only [stI, e1] at e; cases e
    | some p =>
      obtain ⟨o', l'⟩ := p
      obtain ⟨g1, g2, g3⟩ := ih o' l' (by omega) e1
      by_cases h : ((w.getD k 0).toNat : Int) = 117
      · rw [stI_u e1 h] at e
        injection e with e
        injection e with e2 e3
        subst e2 e3
        refine ⟨g1, by simp; omega, fun i hi => ?_⟩
        simp only [List.length_append, List.length_cons, List.length_nil] at hi
        by_cases c : i < o'.length
        · have := g3 i c
          have e4 : (o' ++ [(k : Int)]).getD i 0 = o'.getD i 0 := by simp [List.getD, List.getElem?_append_left c]
          rw [e4]
          omega
        · have e4 : (o' ++ [(k : Int)]).getD i 0 = k := by
            rw [show i = o'.length by omega]
            simp [List.getD]
          rw [e4]
          omega
      · by_cases h2 : o'.length = 0
        · rw [stI_e e1 h h2] at e
          cases e
        · rw [stI_d e1 h h2] at e
          injection e with e
          injection e with e2 e3
          subst e2 e3
          refine ⟨by simp [g1], by simp; omega, fun i hi => ?_⟩
          simp only [List.length_take] at hi
          have := g3 i (by omega)
          have e4 : (o'.take (o'.length - 1)).getD i 0 = o'.getD i 0 := by rw [List.getD, List.getD, List.getElem?_take, if_pos (by omega)]
          rw [e4]
          omega


theorem scF_at {w : List UInt8} {f k p : Nat} {h : Int} (e : scF w (f + 1) k h = some p) (y : Int) (hy : (if ((w.getD k 0).toNat : Int) = 117 then h + 1 else h - 1) = y) : (y = 0 ∧ p = k) ∨ (y ≠ 0 ∧ scF w f (k + 1) y = some p) := by
  simp only [scF, hy] at e
  by_cases c : y = 0
  · rw [if_pos c] at e
    injection e with e
    exact .inl ⟨c, e.symm⟩
  · rw [if_neg c] at e
    exact .inr ⟨c, e⟩
theorem scB_at {w : List UInt8} {f p : Nat} {h : Int} (e : scB w (f + 1) h = some p) (y : Int) (hy : (if ((w.getD f 0).toNat : Int) = 100 then h + 1 else h - 1) = y) : (y = 0 ∧ p = f) ∨ (y ≠ 0 ∧ scB w f y = some p) := by
  simp only [scB, hy] at e
  by_cases c : y = 0
  · rw [if_pos c] at e
    injection e with e
    exact .inl ⟨c, e.symm⟩
  · rw [if_neg c] at e
    exact .inr ⟨c, e⟩



end Go.Proofs.Ythadkebcjlpkhaa

/-
  Contracts of the matchings of all paths are proved.
  They hold for up to six letters of each kind.
-/
set_option linter.unusedVariables false
set_option linter.unusedSimpArgs false
namespace Go.Proofs.Ythadkebcjlpkhaa
open Go.Proofs.Ythadkebcjlpkhaa.Ab Go.Proofs.Ythadkebcjlpkhaa.Pl

def ptL (w : List UInt8) : List Int := (List.range w.length).map fun i => (((pt w i).getD 0 : Nat) : Int)
def okW (n : Nat) (w : List UInt8) : Bool := w.length == 2 * n && isDyck w && (List.range w.length).all (fun i => (pt w i).isSome) && (match stI w w.length with
  | some p => p.2 == ptL w
  | none => false) && isNC (ptL w)
theorem paths_fine : ∀ n, n < 7 → (dyAll (2 * n + 1) [] n n).all (okW n) = true := by decide +kernel
theorem ptL_len (w : List UInt8) : (ptL w).length = w.length := by simp [ptL]
theorem okW_spec {n : Nat} {w : List UInt8} (h : okW n w = true) : w.length = 2 * n ∧ isDyck w = true ∧ (∀ i, i < w.length → ∃ p : Nat, pt w i = some p ∧ (ptL w).getD i 0 = p) ∧ (∃ o, stI w w.length = some (o, ptL w)) ∧ isNC (ptL w) = true := by
  unfold okW at h
  simp only [Bool.and_eq_true, beq_iff_eq, List.all_eq_true, List.mem_range] at h
  obtain ⟨⟨⟨⟨h1, h2⟩, h3⟩, h4⟩, h5⟩ := h
  refine ⟨h1, h2, fun i hi => ?_, ?_, h5⟩
  · obtain ⟨p, hp⟩ := Option.isSome_iff_exists.1 (h3 i hi)
    refine ⟨p, hp, ?_⟩
    simp [ptL, List.getD, hi, hp]
  · cases e : stI w w.length with
    | none => rw [e] at h4; cases h4
    | some p =>
      rw [e] at h4
      obtain ⟨o, l⟩ := p
      simp only [beq_iff_eq] at h4
      exact ⟨o, by rw [← h4]⟩
/-- all paths of a size -/
def dyP (n : Nat) : List (List UInt8) := dyAll (2 * n + 1) [] n n
theorem dyP_len {n : Nat} (h : n ≤ 6) : (dyP n).length ≤ 8192 := by
  have := dyAll_len (2 * n + 1) [] n n
  have := Nat.pow_le_pow_right (n := 2) (by decide) (show 2 * n + 1 ≤ 13 by omega)
  unfold dyP
  omega
theorem dyP_at {n k : Nat} (h : n ≤ 6) (hk : k < (dyP n).length) : okW n ((dyP n).getD k []) = true := by
  have e : (dyP n).getD k [] = (dyP n)[k] := by simp [List.getD, hk]
  rw [e]
  exact List.all_eq_true.1 (paths_fine n (by omega)) _ (List.getElem_mem hk)


end Go.Proofs.Ythadkebcjlpkhaa

/-
  Contracts of sums and of rows that are compared are proved.
  They hold for all rows of at most 1000 numbers.
-/
set_option linter.unusedVariables false
set_option linter.unusedSimpArgs false
namespace Go.Proofs.Ythadkebcjlpkhaa
open Go.Proofs.Ythadkebcjlpkhaa.Ab Go.Proofs.Ythadkebcjlpkhaa.Pl



end Go.Proofs.Ythadkebcjlpkhaa

/-
  What the functions that draw paths give is one of the paths of that size.
  It holds for all sizes of at most 6.
-/
set_option linter.unusedVariables false
set_option linter.unusedSimpArgs false
namespace Go.Proofs.Ythadkebcjlpkhaa
open Go.Proofs.Ythadkebcjlpkhaa.Ab Go.Proofs.Ythadkebcjlpkhaa.Pl

theorem dyAll_up {f : Nat} {w : List UInt8} {u d : Int} (hd : d ≠ 0) (hu : 0 < u) {y : List UInt8} (h : y ∈ dyAll f (w ++ [117]) (u - 1) d) : y ∈ dyAll (f + 1) w u d := by
  unfold dyAll
  rw [if_neg hd, if_pos hu]
  exact List.mem_append_left _ h
theorem dyAll_down {f : Nat} {w : List UInt8} {u d : Int} (hd : d ≠ 0) (hu : u < d) {y : List UInt8} (h : y ∈ dyAll f (w ++ [100]) u (d - 1)) : y ∈ dyAll (f + 1) w u d := by
  unfold dyAll
  rw [if_neg hd, if_pos hu]
  exact List.mem_append_right _ h
theorem dyAll_end {f : Nat} {w : List UInt8} {u : Int} : w ∈ dyAll (f + 1) w u 0 := by
  unfold dyAll
  rw [if_pos rfl]
  exact List.mem_singleton.2 rfl



end Go.Proofs.Ythadkebcjlpkhaa
