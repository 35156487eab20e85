/-
  Plain laws of words that are doubled and read by pairs are proved, and of texts that mark rows.
  They hold for all lists of bytes.
-/
import Derived.Test.YthadkebcjlpkhaaH1
import Derived.Test.YthadkebcjlpkhaaGX
set_option linter.unusedVariables false
set_option linter.unusedSimpArgs false
namespace Go.Proofs.Ythadkebcjlpkhaa.Pl

/-- a letter doubled -/
def two (x : UInt8) : List UInt8 := if (x.toNat : Int) = 117 then [117, 117] else if (x.toNat : Int) = 100 then [100, 100] else [117, 100]
def dyckOfM (w : List UInt8) : List UInt8 × Bool := if isMotzkin w = true ∧ w.length ≤ 8 then (w.flatMap two, true) else ([], false)
theorem two_snoc (w : List UInt8) (k : Nat) (h : k < w.length) : (w.take (k + 1)).flatMap two = (w.take k).flatMap two ++ two (w.getD k 0) := by
  rw [take_snoc w k h, List.flatMap_append]
  simp
theorem two_len (w : List UInt8) : (w.flatMap two).length = 2 * w.length := by
  induction w with
  | nil => rfl
  | cons x r ih =>
    rw [List.flatMap_cons, List.length_append, ih]
    have : (two x).length = 2 := by unfold two; split <;> (try split) <;> rfl
    simp only [this, List.length_cons]
    omega

/-- two letters as one -/
def half (x y : UInt8) : Option UInt8 :=
  if x = 117 ∧ y = 117 then some 117 else if x = 100 ∧ y = 100 then some 100 else if x = 117 ∧ y = 100 then some 108 else none
/-- pairs of letters, as many -/
def pairsTo (w : List UInt8) : Nat → Option (List UInt8)
  | 0 => some []
  | k + 1 => match pairsTo w k, half (w.getD (2 * k) 0) (w.getD (2 * k + 1) 0) with
    | some s, some c => some (s ++ [c])
    | _, _ => none
def motzOf (w : List UInt8) : List UInt8 × Bool := if isDyck w = true then match pairsTo w (w.length / 2) with
  | some s => (s, true)
  | none => ([], false) else ([], false)
theorem pairsTo_none (w : List UInt8) {k : Nat} (h : pairsTo w k = none) : ∀ m, k ≤ m → pairsTo w m = none := by
  intro m
  induction m with
  | zero => intro hm; have : k = 0 := by omega
            subst this; exact h
  | succ m ih =>
    intro hm
    by_cases e : k = m + 1
    · subst e; exact h
    · simp only [pairsTo, ih (by omega)]
theorem pairsTo_len (w : List UInt8) : ∀ (k : Nat) (s : List UInt8), pairsTo w k = some s → s.length = k := by
  intro k
  induction k with
  | zero => intro s h; injection h with h; subst h; rfl
  | succ k ih =>
    intro s h
    simp only [pairsTo] at h
    split at h
    · rename_i s' c e1 e2
      injection h with h
      subst h
      simp [ih _ e1]
    · cases h
theorem take_two (w : List UInt8) (k : Nat) (h : k + 1 < w.length) : (w.drop k).take 2 = [w.getD k 0, w.getD (k + 1) 0] := by
  have e : (w.drop k).take 2 = [w[k], w[k + 1]] := by
    rw [List.drop_eq_getElem_cons (by omega), List.drop_eq_getElem_cons h]
    rfl
  rw [e]
  simp [List.getD, h, show k < w.length by omega]

theorem cut_two (w : List UInt8) (i : Nat) (h : i + 1 < w.length) : (w.take ((i : Int) + 2).toNat).drop (i : Int).toNat = [w.getD i 0, w.getD (i + 1) 0] := by
  rw [show ((i : Int) + 2).toNat = i + 2 by omega, Int.toNat_natCast, List.drop_take, show i + 2 - i = 2 by omega, take_two w i h]

theorem pairsTo_step {w : List UInt8} {k : Nat} {s : List UInt8} (hs : pairsTo w k = some s) : pairsTo w (k + 1) = match half (w.getD (2 * k) 0) (w.getD (2 * k + 1) 0) with
    | some c => some (s ++ [c])
    | none => none := by
  simp only [pairsTo, hs]
  cases half (w.getD (2 * k) 0) (w.getD (2 * k + 1) 0) <;> rfl

/-- a path has an even number of letters -/
theorem isDyck_even {w : List UInt8} (h : isDyck w = true) : w.length = 2 * (w.length / 2) ∧ w.length ≤ 16 := by
  unfold isDyck at h
  simp only [Bool.and_eq_true, decide_eq_true_eq, beq_iff_eq] at h
  have key : ∀ (w : List UInt8) (h g : Int), walkH 1 (-1) false w h = some g → (w.length : Int) % 2 = (h + g) % 2 := by
    intro w
    induction w with
    | nil => intro h g e; simp only [walkH] at e; injection e with e; subst e; simp; omega
    | cons x r ih =>
      intro h g e
      simp only [walkH] at e
      cases hs : stepOf 1 (-1) false x with
      | none => rw [hs] at e; cases e
      | some d =>
        rw [hs] at e
        dsimp only at e
        split at e
        · cases e
        · have := ih _ _ e
          have hd : d = 1 ∨ d = -1 := by
            unfold stepOf at hs
            split at hs
            · injection hs with hs; omega
            · split at hs
              · injection hs with hs; omega
              · split at hs
                · rename_i h3; cases h3.2
                · cases hs
          simp only [List.length_cons, Int.natCast_add]
          rcases hd with rfl | rfl <;> omega
  have := key w 0 0 h.2
  exact ⟨by omega, h.1⟩

/-- decimal digits -/
def digits (k : Nat) : List UInt8 := if h : k = 0 then [] else digits (k / 10) ++ [UInt8.ofNat (48 + k % 10)]
decreasing_by omega
def markT (k : Nat) : List UInt8 := 109 :: digits k
theorem digits_zero : digits 0 = [] := by unfold digits; rfl
theorem digits_pos {k : Nat} (h : k ≠ 0) : digits k = digits (k / 10) ++ [UInt8.ofNat (48 + k % 10)] := by
  rw [digits, dif_neg h]

end Go.Proofs.Ythadkebcjlpkhaa.Pl

/-
  Contracts of words that are doubled and read by pairs are proved.
  They hold for all words within the sizes that the statements' code allows.
-/
set_option linter.unusedVariables false
set_option linter.unusedSimpArgs false
namespace Go.Proofs.Ythadkebcjlpkhaa
open Go.Proofs.Ythadkebcjlpkhaa.Ab Go.Proofs.Ythadkebcjlpkhaa.Pl







end Go.Proofs.Ythadkebcjlpkhaa

/-
  Contracts of the shifts that are paths are proved.
  They hold for all words within the sizes that the statements' code allows.
-/
set_option linter.unusedVariables false
set_option linter.unusedSimpArgs false
namespace Go.Proofs.Ythadkebcjlpkhaa
open Go.Proofs.Ythadkebcjlpkhaa.Ab Go.Proofs.Ythadkebcjlpkhaa.Pl

/-- a path and one more d -/
def goodW (s : List UInt8) : Bool := decide (0 < s.length) && (((s.getD (s.length - 1) 0).toNat : Int) == 100) && isDyck (s.take (s.length - 1))
def rot (w : List UInt8) (k : Nat) : List UInt8 := w.drop k ++ w.take k
theorem rot_len (w : List UInt8) (k : Nat) : (rot w k).length = w.length := by simp [rot]; omega
def goodShift (w : List UInt8) : Int × Bool := if isBal w then match (List.range w.length).find? fun j => goodW (rot w j) with
  | some k => (k, true)
  | none => (0, false) else (0, false)
def goodsTo (w : List UInt8) (k : Nat) : Nat := ((List.range k).filter fun j => goodW (rot w j)).length
def goods (w : List UInt8) : Int := if isBal w then goodsTo w w.length else -1
theorem goodsTo_le (w : List UInt8) (k : Nat) : goodsTo w k ≤ k := by
  have := List.length_filter_le (fun j => goodW (rot w j)) (List.range k)
  rwa [List.length_range] at this
theorem goodsTo_succ (w : List UInt8) (k : Nat) : goodsTo w (k + 1) = goodsTo w k + if goodW (rot w k) = true then 1 else 0 := by
  unfold goodsTo
  rw [List.range_succ, List.filter_append, List.length_append]
  by_cases h : goodW (rot w k) = true <;> simp [h]









end Go.Proofs.Ythadkebcjlpkhaa

/-
  Contracts of words of Schroeder whose level steps are lifted are proved.
  They hold for all words within the sizes that the statements' code allows.
-/
set_option linter.unusedVariables false
set_option linter.unusedSimpArgs false
namespace Go.Proofs.Ythadkebcjlpkhaa
open Go.Proofs.Ythadkebcjlpkhaa.Ab Go.Proofs.Ythadkebcjlpkhaa.Pl

theorem or64 (s k : Nat) (hs : s < 2 ^ k) (hk : k ≤ 60) : IntKind.i64.wrap ((BitVec.ofInt IntKind.i64.bits (s : Int) ||| BitVec.ofInt IntKind.i64.bits ((1 : Int) * 2 ^ min (k : Int).toNat IntKind.i64.bits)).toNat : Int) = (s : Int) + 2 ^ k := by
  have h1 : (2 : Nat) ^ k ≤ 2 ^ 60 := Nat.pow_le_pow_right (by decide) hk
  have e1 : (1 : Int) * 2 ^ min (k : Int).toNat IntKind.i64.bits = ((2 ^ k : Nat) : Int) := by
    rw [Int.toNat_natCast, show min k IntKind.i64.bits = k from Nat.min_eq_left (by show k ≤ 64; omega), Int.one_mul]
    simp
  have e2 := Nat.two_pow_add_eq_or_of_lt hs 1
  rw [Nat.mul_one] at e2
  have e3 : (BitVec.ofInt IntKind.i64.bits (s : Int) ||| BitVec.ofInt IntKind.i64.bits ((2 ^ k : Nat) : Int)).toNat = 2 ^ k + s := by
    rw [BitVec.toNat_or, BitVec.ofInt_natCast, BitVec.ofInt_natCast, BitVec.toNat_ofNat, BitVec.toNat_ofNat]
    rw [show (2 : Nat) ^ IntKind.i64.bits = 2 ^ 64 from rfl, Nat.mod_eq_of_lt (show s < 2 ^ 64 by omega), Nat.mod_eq_of_lt (show 2 ^ k < 2 ^ 64 by omega), Nat.or_comm, ← e2]
  rw [e1, e3]
  have e4 : ((2 : Int) ^ k) = ((2 ^ k : Nat) : Int) := by simp
  rw [e4]
  have : IntKind.i64.wrap (((2 ^ k + s : Nat)) : Int) = ((2 ^ k + s : Nat) : Int) := by
    apply IntWalk.i64_in
    omega
  rw [this]
  omega

/-- the word, the set and the number of peaks after so many letters -/
def liftTo (w : List UInt8) : Nat → List UInt8 × Nat × Nat
  | 0 => ([], 0, 0)
  | i + 1 => let r := liftTo w i
    if ((w.getD i 0).toNat : Int) = 108 then (r.1 ++ [117, 100], r.2.1 + 2 ^ r.2.2, r.2.2 + 1)
    else (r.1 ++ [w.getD i 0], r.2.1, if ((w.getD i 0).toNat : Int) = 100 ∧ 0 < i ∧ ((w.getD (i - 1) 0).toNat : Int) = 117 then r.2.2 + 1 else r.2.2)

theorem liftTo_bd (w : List UInt8) : ∀ i, (liftTo w i).2.1 < 2 ^ (liftTo w i).2.2 ∧ (liftTo w i).2.2 ≤ i ∧ (liftTo w i).1.length ≤ 2 * i := by
  intro i
  induction i with
  | zero => exact ⟨by simp [liftTo], by simp [liftTo], by simp [liftTo]⟩
  | succ i ih =>
    simp only [liftTo]
    split
    · refine ⟨?_, by dsimp only; omega, by simp; omega⟩
      dsimp only
      rw [Nat.pow_succ]
      omega
    · refine ⟨?_, by dsimp only; split <;> omega, by simp; omega⟩
      dsimp only
      split
      · rw [Nat.pow_succ]
        omega
      · exact ih.1

theorem cut_one (w : List UInt8) (i : Nat) (h : i < w.length) : (w.take ((i : Int) + 1).toNat).drop (i : Int).toNat = [w.getD i 0] := by
  rw [show ((i : Int) + 1).toNat = i + 1 by omega, Int.toNat_natCast, List.drop_take, show i + 1 - i = 1 by omega]
  have e : (w.drop i).take 1 = [w[i]] := by
    rw [List.drop_eq_getElem_cons h]
    rfl
  rw [e]
  simp [List.getD, h]

def lift (w : List UInt8) : List UInt8 × Int × Bool := if isSchroeder w = true then ((liftTo w w.length).1, ((liftTo w w.length).2.1 : Int), true) else ([], 0, false)

theorem isSchroeder_len {w : List UInt8} (h : isSchroeder w = true) : w.length ≤ 16 := by
  unfold isSchroeder at h
  simp only [Bool.and_eq_true, decide_eq_true_eq] at h
  omega




end Go.Proofs.Ythadkebcjlpkhaa

/-
  Contracts of peaks and of words whose peaks are flattened are proved.
  They hold for all words within the sizes that the statements' code allows.
-/
set_option linter.unusedVariables false
set_option linter.unusedSimpArgs false
namespace Go.Proofs.Ythadkebcjlpkhaa
open Go.Proofs.Ythadkebcjlpkhaa.Ab Go.Proofs.Ythadkebcjlpkhaa.Pl

/-- a peak begins at this place -/
def peakAt (w : List UInt8) (i : Nat) : Prop := w.getD i 0 = 117 ∧ w.getD (i + 1) 0 = 100
instance (w : List UInt8) (i : Nat) : Decidable (peakAt w i) := by unfold peakAt; infer_instance
/-- the peaks that begin before this place -/
def peaksTo (w : List UInt8) : Nat → Nat
  | 0 => 0
  | i + 1 => peaksTo w i + if peakAt w i then 1 else 0
theorem peaksTo_le (w : List UInt8) : ∀ i, peaksTo w i ≤ i
  | 0 => Nat.le_refl _
  | i + 1 => by
    have := peaksTo_le w i
    simp only [peaksTo]
    split <;> omega
def peaks (w : List UInt8) : Int := if isDyck w = true then (peaksTo w (w.length - 1) : Int) else -1

theorem peaksTo_end (w : List UInt8) {i : Nat} (h : i = 0 ∨ i + 1 ≤ w.length) (g : ¬ ((i + 1 : Nat) : Int) < w.length) : i = w.length - 1 := by omega
theorem byte_117 (x : UInt8) : (x.toNat : Int) = 117 ↔ x = 117 := ⟨fun h => UInt8.toNat_inj.1 (by rw [show (117 : UInt8).toNat = 117 from rfl]; omega), fun h => by rw [h]; rfl⟩
theorem byte_100 (x : UInt8) : (x.toNat : Int) = 100 ↔ x = 100 := ⟨fun h => UInt8.toNat_inj.1 (by rw [show (100 : UInt8).toNat = 100 from rfl]; omega), fun h => by rw [h]; rfl⟩



end Go.Proofs.Ythadkebcjlpkhaa

/-
  Contracts of words whose peaks are flattened are proved.
  They hold for all words within the sizes that the statements' code allows.
-/
set_option linter.unusedVariables false
set_option linter.unusedSimpArgs false
namespace Go.Proofs.Ythadkebcjlpkhaa
open Go.Proofs.Ythadkebcjlpkhaa.Ab Go.Proofs.Ythadkebcjlpkhaa.Pl

theorem dyck_walk {w : List UInt8} (h : isDyck w = true) (i : Nat) : ∃ g, walkH 1 (-1) false (w.take i) 0 = some g ∧ 0 ≤ g := by
  unfold isDyck at h
  simp only [Bool.and_eq_true, decide_eq_true_eq, beq_iff_eq] at h
  cases hx : walkH 1 (-1) false (w.take i) 0 with
  | none => rw [walkH_take_none hx] at h; cases h.2
  | some g => exact ⟨g, rfl, (walkH_bd (by decide) (by decide) _ _ _ (by decide) hx).1⟩
theorem dyck_letters {w : List UInt8} (h : isDyck w = true) {i : Nat} (hi : i < w.length) (n : w.getD i 0 ≠ 100) : w.getD i 0 = 117 := by
  obtain ⟨g, hg, _⟩ := dyck_walk h i
  apply Classical.byContradiction
  intro n2
  have := walkH_bad hi hg (stepOf_no (fun e => n2 ((byte_117 _).1 e)) (fun e => n ((byte_100 _).1 e)) (.inr rfl))
  unfold isDyck at h
  rw [this] at h
  simp at h
theorem dyck_last {w : List UInt8} (h : isDyck w = true) {i : Nat} (hi : i < w.length) (n : w.getD i 0 = 117) : i + 1 < w.length := by
  obtain ⟨g, hg, h0⟩ := dyck_walk h i
  apply Classical.byContradiction
  intro n2
  have e : i + 1 = w.length := by omega
  have := walkH_next hi hg (stepOf_u ((byte_117 _).2 n)) (by omega)
  rw [e, List.take_length] at this
  unfold isDyck at h
  rw [this] at h
  simp only [Bool.and_eq_true, beq_iff_eq, Option.some.injEq] at h
  omega

/-- the bit of a set, as the code reads it -/
def bitP (set k : Int) : Prop := IntKind.i64.wrap ((BitVec.ofInt IntKind.i64.bits (set.fdiv (2 ^ min k.toNat IntKind.i64.bits)) &&& BitVec.ofInt IntKind.i64.bits 1).toNat : Int) = 1
instance (set k : Int) : Decidable (bitP set k) := by unfold bitP; infer_instance
/-- the word and the number of peaks after so many letters -/
def flTo (w : List UInt8) (set : Int) : Nat → List UInt8 × Nat
  | 0 => ([], 0)
  | i + 1 => let r := flTo w set i
    if peakAt w i then (r.1 ++ [if bitP set r.2 then 108 else 117], r.2 + 1)
    else if 0 < i ∧ peakAt w (i - 1) ∧ bitP set (r.2 - 1 : Nat) then r else (r.1 ++ [w.getD i 0], r.2)
theorem flTo_bd (w : List UInt8) (set : Int) : ∀ i, (flTo w set i).1.length ≤ i ∧ (flTo w set i).2 ≤ i := by
  intro i
  induction i with
  | zero => exact ⟨by simp [flTo], by simp [flTo]⟩
  | succ i ih =>
    simp only [flTo]
    split
    · exact ⟨by simp; omega, by dsimp only; omega⟩
    · split
      · exact ⟨by omega, by omega⟩
      · exact ⟨by simp; omega, by dsimp only; omega⟩
def flatOk (w : List UInt8) (set : Int) : Prop := isDyck w = true ∧ 0 ≤ set ∧ set ≤ (1 : Int) * 2 ^ min (peaks w).toNat IntKind.i64.bits - 1
instance (w : List UInt8) (set : Int) : Decidable (flatOk w set) := by unfold flatOk; infer_instance
def flat (w : List UInt8) (set : Int) : List UInt8 × Bool := if flatOk w set then ((flTo w set w.length).1, true) else ([], false)
theorem peaks_bd {w : List UInt8} (h : isDyck w = true) : (0 ≤ peaks w ∧ peaks w ≤ 16) ∧ 1 ≤ (1 : Int) * 2 ^ min (peaks w).toNat IntKind.i64.bits ∧ (1 : Int) * 2 ^ min (peaks w).toNat IntKind.i64.bits ≤ 65536 := by
  have e : peaks w = (peaksTo w (w.length - 1) : Int) := if_pos h
  have b := peaksTo_le w (w.length - 1)
  have l := (isDyck_even h).2
  have b1 : 0 ≤ peaks w ∧ peaks w ≤ 16 := by omega
  obtain ⟨n, hn⟩ := Int.eq_ofNat_of_zero_le b1.1
  refine ⟨b1, ?_⟩
  rw [hn, Int.toNat_natCast, show min n IntKind.i64.bits = n from Nat.min_eq_left (by show n ≤ 64; omega), Int.one_mul, show ((2 : Int) ^ n) = ((2 ^ n : Nat) : Int) by simp]
  have h1 : (2 : Nat) ^ n ≤ 2 ^ 16 := Nat.pow_le_pow_right (by decide) (by omega)
  have h2 : 0 < (2 : Nat) ^ n := Nat.pow_pos (by decide)
  omega

theorem flTo_peak {w : List UInt8} {set : Int} {i k : Nat} {s : List UInt8} (hs : flTo w set i = (s, k)) (h : peakAt w i) : flTo w set (i + 1) = (s ++ [if bitP set k then 108 else 117], k + 1) := by
  simp only [flTo, hs]
  rw [if_pos h]
theorem flTo_skip {w : List UInt8} {set : Int} {i k : Nat} {s : List UInt8} (hs : flTo w set i = (s, k)) (h : ¬ peakAt w i) (h2 : 0 < i ∧ peakAt w (i - 1) ∧ bitP set (k - 1 : Nat)) : flTo w set (i + 1) = (s, k) := by
  simp only [flTo, hs]
  rw [if_neg h, if_pos h2]
theorem flTo_plain {w : List UInt8} {set : Int} {i k : Nat} {s : List UInt8} (hs : flTo w set i = (s, k)) (h : ¬ peakAt w i) (h2 : ¬ (0 < i ∧ peakAt w (i - 1) ∧ bitP set (k - 1 : Nat))) : flTo w set (i + 1) = (s ++ [w.getD i 0], k) := by
  simp only [flTo, hs]
  rw [if_neg h, if_neg h2]




end Go.Proofs.Ythadkebcjlpkhaa

/-
  Contracts of rows of texts that are equal, marked and held are proved.
  They hold for all rows of moderate length.
-/
set_option linter.unusedVariables false
set_option linter.unusedSimpArgs false
namespace Go.Proofs.Ythadkebcjlpkhaa
open Go.Proofs.Ythadkebcjlpkhaa.Ab Go.Proofs.Ythadkebcjlpkhaa.Pl

theorem digits_len : ∀ n k, k < 10 ^ n → (digits k).length ≤ n := by
  intro n
  induction n with
  | zero => intro k h; have : k = 0 := by omega
            subst this; rw [digits_zero]; exact Nat.le_refl _
  | succ n ih =>
    intro k h
    by_cases e : k = 0
    · subst e; rw [digits_zero]; exact Nat.zero_le _
    · rw [digits_pos e, List.length_append]
      have := ih (k / 10) (by rw [Nat.pow_succ] at h; omega)
      simp only [List.length_cons, List.length_nil]
      omega


/-- marked texts -/
def mtab (k n : Nat) : List (List UInt8) := (List.range n).map fun j => markT (k + j)


theorem mtab_set (l : List (List UInt8)) (k j : Nat) (h : j < l.length) : (mtab k j ++ l.drop j).set j (markT (k + j)) = mtab k (j + 1) ++ l.drop (j + 1) := by
  have e : (mtab k j).length = j := by simp [mtab]
  rw [List.set_append_right _ _ (by omega), e, Nat.sub_self, List.drop_eq_getElem_cons h, List.set_cons_zero]
  simp [mtab, List.range_succ]



end Go.Proofs.Ythadkebcjlpkhaa

/-
  Contracts of the lists of words of Fuss are proved.
  They hold for all arguments.
-/
set_option linter.unusedVariables false
set_option linter.unusedSimpArgs false
namespace Go.Proofs.Ythadkebcjlpkhaa
open Go.Proofs.Ythadkebcjlpkhaa.Ab Go.Proofs.Ythadkebcjlpkhaa.Pl

/-- words that go on, u before d -/
def fussAll (m : Nat) : Nat → List UInt8 → Nat → Nat → List (List UInt8)
  | 0, _, _, _ => []
  | f + 1, w, up, h => if up = 0 ∧ h = 0 then [w] else (if 0 < up then fussAll m f (w ++ [117]) (up - 1) (h + m - 1) else []) ++ (if 0 < h then fussAll m f (w ++ [100]) up (h - 1) else [])

theorem fussAll_len (m : Nat) : ∀ f w up h, (fussAll m f w up h).length ≤ 2 ^ f := by
  intro f
  induction f with
  | zero => intro w up h; simp [fussAll]
  | succ f ih =>
    intro w up h
    have := Nat.pow_succ 2 f
    have p := Nat.pow_pos (n := f) (show 0 < 2 by decide)
    have a := ih (w ++ [117]) (up - 1) (h + m - 1)
    have b := ih (w ++ [100]) up (h - 1)
    simp only [fussAll]
    split
    · simp; omega
    · rw [List.length_append]
      split <;> split <;> simp <;> omega


end Go.Proofs.Ythadkebcjlpkhaa
