/-
  Plain laws of words that are doubled and read by pairs are proved, and of texts that mark rows.
  They hold for all lists of bytes.
-/
import Derived.Test.YtdfdlnjijccpeaaP4
set_option linter.unusedVariables false
set_option linter.unusedSimpArgs false
namespace Go.Proofs.Ytdfdlnjijccpeaa.Pl

/-- a letter doubled -/
def two (x : UInt8) : List UInt8 := if (x.toNat : Int) = 117 then [117, 117] else if (x.toNat : Int) = 100 then [100, 100] else [117, 100]
def dyckOfM (w : List UInt8) : List UInt8 × Bool := if isMotzkin w = true ∧ w.length ≤ 8 then (w.flatMap two, true) else ([], false)
theorem two_snoc (w : List UInt8) (k : Nat) (h : k < w.length) : (w.take (k + 1)).flatMap two = (w.take k).flatMap two ++ two (w.getD k 0) := by
  rw [take_snoc w k h, List.flatMap_append]
  simp
theorem two_len (w : List UInt8) : (w.flatMap two).length = 2 * w.length := by
  induction w with
  | nil => rfl
  | cons x r ih =>
    rw [List.flatMap_cons, List.length_append, ih]
    have : (two x).length = 2 := by unfold two; split <;> (try split) <;> rfl
    simp only [this, List.length_cons]
    omega

/-- two letters as one -/
def half (x y : UInt8) : Option UInt8 :=
  if x = 117 ∧ y = 117 then some 117 else if x = 100 ∧ y = 100 then some 100 else if x = 117 ∧ y = 100 then some 108 else none
/-- pairs of letters, as many -/
def pairsTo (w : List UInt8) : Nat → Option (List UInt8)
  | 0 => some []
  | k + 1 => match pairsTo w k, half (w.getD (2 * k) 0) (w.getD (2 * k + 1) 0) with
    | some s, some c => some (s ++ [c])
    | _, _ => none
def motzOf (w : List UInt8) : List UInt8 × Bool := if isDyck w = true then match pairsTo w (w.length / 2) with
  | some s => (s, true)
  | none => ([], false) else ([], false)
theorem pairsTo_none (w : List UInt8) {k : Nat} (h : pairsTo w k = none) : ∀ m, k ≤ m → pairsTo w m = none := by
  intro m
  induction m with
  | zero => intro hm; have : k = 0 := by omega
            subst this; exact h
  | succ m ih =>
    intro hm
    by_cases e : k = m + 1
    · subst e; exact h
    · simp only [pairsTo, ih (by omega)]
theorem pairsTo_len (w : List UInt8) : ∀ (k : Nat) (s : List UInt8), pairsTo w k = some s → s.length = k := by
  intro k
  induction k with
  | zero => intro s h; injection h with h; subst h; rfl
  | succ k ih =>
    intro s h
    simp only [pairsTo] at h
    split at h
    · rename_i s' c e1 e2
      injection h with h
      subst h
      simp [ih _ e1]
    · cases h
theorem take_two (w : List UInt8) (k : Nat) (h : k + 1 < w.length) : (w.drop k).take 2 = [w.getD k 0, w.getD (k + 1) 0] := by
  have e : (w.drop k).take 2 = [w[k], w[k + 1]] := by
    rw [List.drop_eq_getElem_cons (by omega), List.drop_eq_getElem_cons h]
    rfl
  rw [e]
  simp [List.getD, h, show k < w.length by omega]

theorem cut_two (w : List UInt8) (i : Nat) (h : i + 1 < w.length) : (w.take ((i : Int) + 2).toNat).drop (i : Int).toNat = [w.getD i 0, w.getD (i + 1) 0] := by
  rw [show ((i : Int) + 2).toNat = i + 2 by omega, Int.toNat_natCast, List.drop_take, show i + 2 - i = 2 by omega, take_two w i h]

theorem pairsTo_step {w : List UInt8} {k : Nat} {s : List UInt8} (hs : pairsTo w k = some s) : pairsTo w (k + 1) = match half (w.getD (2 * k) 0) (w.getD (2 * k + 1) 0) with
    | some c => some (s ++ [c])
    | none => none := by
  simp only [pairsTo, hs]
  cases half (w.getD (2 * k) 0) (w.getD (2 * k + 1) 0) <;> rfl

/-- a path has an even number of letters -/
theorem isDyck_even {w : List UInt8} (h : isDyck w = true) : w.length = 2 * (w.length / 2) ∧ w.length ≤ 16 := by
  unfold isDyck at h
  simp only [Bool.and_eq_true, decide_eq_true_eq, beq_iff_eq] at h
  have key : ∀ (w : List UInt8) (h g : Int), walkH 1 (-1) false w h = some g → (w.length : Int) % 2 = (h + g) % 2 := by
    intro w
    induction w with
    | nil => intro h g e; simp only [walkH] at e; injection e with e; subst e; simp; omega
    | cons x r ih =>
      intro h g e
      simp only [walkH] at e
      cases hs : stepOf 1 (-1) false x with
      | none => rw [hs] at e; cases e
      | some d =>
        rw [hs] at e
        dsimp only at e
        split at e
        · cases e
        · have := ih _ _ e
          have hd : d = 1 ∨ d = -1 := by
            unfold stepOf at hs
            split at hs
            · injection hs with hs; omega
            · split at hs
              · injection hs with hs; omega
              · split at hs
                · rename_i h3; cases h3.2
                · cases hs
          simp only [List.length_cons, Int.natCast_add]
          rcases hd with rfl | rfl <;> omega
  have := key w 0 0 h.2
  exact ⟨by omega, h.1⟩

/-- decimal digits -/
def digits (k : Nat) : List UInt8 := if h : k = 0 then [] else digits (k / 10) ++ [UInt8.ofNat (48 + k % 10)]
decreasing_by omega
def markT (k : Nat) : List UInt8 := 109 :: digits k
theorem digits_zero : digits 0 = [] := by unfold digits; rfl
theorem digits_pos {k : Nat} (h : k ≠ 0) : digits k = digits (k / 10) ++ [UInt8.ofNat (48 + k % 10)] := by
  rw [digits, dif_neg h]

end Go.Proofs.Ytdfdlnjijccpeaa.Pl
