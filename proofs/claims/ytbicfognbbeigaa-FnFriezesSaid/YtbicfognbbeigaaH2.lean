/-
  Contracts of words whose peaks are flattened are proved.
  They hold for all words within the sizes that the statements' code allows.
-/
import Derived.Test.YtbicfognbbeigaaH1
import Derived.Test.YtbicfognbbeigaaGX
import Derived.Test.YtbicfognbbeigaaGY
set_option linter.unusedVariables false
set_option linter.unusedSimpArgs false
namespace Go.Proofs.Ytbicfognbbeigaa
open Go.Proofs.Ytbicfognbbeigaa.Ab Go.Proofs.Ytbicfognbbeigaa.Pl

theorem dyck_walk {w : List UInt8} (h : isDyck w = true) (i : Nat) : ∃ g, walkH 1 (-1) false (w.take i) 0 = some g ∧ 0 ≤ g := by
  unfold isDyck at h
  simp only [Bool.and_eq_true, decide_eq_true_eq, beq_iff_eq] at h
  cases hx : walkH 1 (-1) false (w.take i) 0 with
  | none => rw [walkH_take_none hx] at h; cases h.2
  | some g => exact ⟨g, rfl, (walkH_bd (by decide) (by decide) _ _ _ (by decide) hx).1⟩
theorem dyck_letters {w : List UInt8} (h : isDyck w = true) {i : Nat} (hi : i < w.length) (n : w.getD i 0 ≠ 100) : w.getD i 0 = 117 := by
  obtain ⟨g, hg, _⟩ := dyck_walk h i
  apply Classical.byContradiction
  intro n2
  have := walkH_bad hi hg (stepOf_no (fun e => n2 ((byte_117 _).1 e)) (fun e => n ((byte_100 _).1 e)) (.inr rfl))
  unfold isDyck at h
  rw [this] at h
  simp at h
theorem dyck_last {w : List UInt8} (h : isDyck w = true) {i : Nat} (hi : i < w.length) (n : w.getD i 0 = 117) : i + 1 < w.length := by
  obtain ⟨g, hg, h0⟩ := dyck_walk h i
  apply Classical.byContradiction
  intro n2
  have e : i + 1 = w.length := by omega
  have := walkH_next hi hg (stepOf_u ((byte_117 _).2 n)) (by omega)
  rw [e, List.take_length] at this
  unfold isDyck at h
  rw [this] at h
  simp only [Bool.and_eq_true, beq_iff_eq, Option.some.injEq] at h
  omega

/-- the bit of a set, as the code reads it -/
def bitP (set k : Int) : Prop := IntKind.i64.wrap ((BitVec.ofInt IntKind.i64.bits (set.fdiv (2 ^ min k.toNat IntKind.i64.bits)) &&& BitVec.ofInt IntKind.i64.bits 1).toNat : Int) = 1
instance (set k : Int) : Decidable (bitP set k) := by unfold bitP; infer_instance
/-- the word and the number of peaks after so many letters -/
def flTo (w : List UInt8) (set : Int) : Nat → List UInt8 × Nat
  | 0 => ([], 0)
  | i + 1 => let r := flTo w set i
    if peakAt w i then (r.1 ++ [if bitP set r.2 then 108 else 117], r.2 + 1)
    else if 0 < i ∧ peakAt w (i - 1) ∧ bitP set (r.2 - 1 : Nat) then r else (r.1 ++ [w.getD i 0], r.2)
theorem flTo_bd (w : List UInt8) (set : Int) : ∀ i, (flTo w set i).1.length ≤ i ∧ (flTo w set i).2 ≤ i := by
  intro i
  induction i with
  | zero => exact ⟨by simp [flTo], by simp [flTo]⟩
  | succ i ih =>
    simp only [flTo]
    split
    · exact ⟨by simp; omega, by dsimp only; omega⟩
    · split
      · exact ⟨by omega, by omega⟩
      · exact ⟨by simp; omega, by dsimp only; omega⟩
def flatOk (w : List UInt8) (set : Int) : Prop := isDyck w = true ∧ 0 ≤ set ∧ set ≤ (1 : Int) * 2 ^ min (peaks w).toNat IntKind.i64.bits - 1
instance (w : List UInt8) (set : Int) : Decidable (flatOk w set) := by unfold flatOk; infer_instance
def flat (w : List UInt8) (set : Int) : List UInt8 × Bool := if flatOk w set then ((flTo w set w.length).1, true) else ([], false)
theorem peaks_bd {w : List UInt8} (h : isDyck w = true) : (0 ≤ peaks w ∧ peaks w ≤ 16) ∧ 1 ≤ (1 : Int) * 2 ^ min (peaks w).toNat IntKind.i64.bits ∧ (1 : Int) * 2 ^ min (peaks w).toNat IntKind.i64.bits ≤ 65536 := by
  have e : peaks w = (peaksTo w (w.length - 1) : Int) := if_pos h
  have b := peaksTo_le w (w.length - 1)
  have l := (isDyck_even h).2
  have b1 : 0 ≤ peaks w ∧ peaks w ≤ 16 := by omega
  obtain ⟨n, hn⟩ := Int.eq_ofNat_of_zero_le b1.1
  refine ⟨b1, ?_⟩
  rw [hn, Int.toNat_natCast, show min n IntKind.i64.bits = n from Nat.min_eq_left (by show n ≤ 64; omega), Int.one_mul, show ((2 : Int) ^ n) = ((2 ^ n : Nat) : Int) by simp]
  have h1 : (2 : Nat) ^ n ≤ 2 ^ 16 := Nat.pow_le_pow_right (by decide) (by omega)
  have h2 : 0 < (2 : Nat) ^ n := Nat.pow_pos (by decide)
  omega

theorem flTo_peak {w : List UInt8} {set : Int} {i k : Nat} {s : List UInt8} (hs : flTo w set i = (s, k)) (h : peakAt w i) : flTo w set (i + 1) = (s ++ [if bitP set k then 108 else 117], k + 1) := by
  simp only [flTo, hs]
  rw [if_pos h]
theorem flTo_skip {w : List UInt8} {set : Int} {i k : Nat} {s : List UInt8} (hs : flTo w set i = (s, k)) (h : ¬ peakAt w i) (h2 : 0 < i ∧ peakAt w (i - 1) ∧ bitP set (k - 1 : Nat)) : flTo w set (i + 1) = (s, k) := by
  simp only [flTo, hs]
  rw [if_neg h, if_pos h2]
theorem flTo_plain {w : List UInt8} {set : Int} {i k : Nat} {s : List UInt8} (hs : flTo w set i = (s, k)) (h : ¬ peakAt w i) (h2 : ¬ (0 < i ∧ peakAt w (i - 1) ∧ bitP set (k - 1 : Nat))) : flTo w set (i + 1) = (s ++ [w.getD i 0], k) := by
  simp only [flTo, hs]
  rw [if_neg h, if_neg h2]




end Go.Proofs.Ytbicfognbbeigaa

/-
  Contracts of rows of texts that are equal, marked and held are proved.
  They hold for all rows of moderate length.
-/
set_option linter.unusedVariables false
set_option linter.unusedSimpArgs false
namespace Go.Proofs.Ytbicfognbbeigaa
open Go.Proofs.Ytbicfognbbeigaa.Ab Go.Proofs.Ytbicfognbbeigaa.Pl

theorem digits_len : ∀ n k, k < 10 ^ n → (digits k).length ≤ n := by
  intro n
  induction n with
  | zero => intro k h; have : k = 0 := by omega
            subst this; rw [digits_zero]; exact Nat.le_refl _
  | succ n ih =>
    intro k h
    by_cases e : k = 0
    · subst e; rw [digits_zero]; exact Nat.zero_le _
    · rw [digits_pos e, List.length_append]
      have := ih (k / 10) (by rw [Nat.pow_succ] at h; omega)
      simp only [List.length_cons, List.length_nil]
      omega


/-- marked texts -/
def mtab (k n : Nat) : List (List UInt8) := (List.range n).map fun j => markT (k + j)


theorem mtab_set (l : List (List UInt8)) (k j : Nat) (h : j < l.length) : (mtab k j ++ l.drop j).set j (markT (k + j)) = mtab k (j + 1) ++ l.drop (j + 1) := by
  have e : (mtab k j).length = j := by simp [mtab]
  rw [List.set_append_right _ _ (by omega), e, Nat.sub_self, List.drop_eq_getElem_cons h, List.set_cons_zero]
  simp [mtab, List.range_succ]



end Go.Proofs.Ytbicfognbbeigaa

/-
  Contracts of the lists of words of Fuss are proved.
  They hold for all arguments.
-/
set_option linter.unusedVariables false
set_option linter.unusedSimpArgs false
namespace Go.Proofs.Ytbicfognbbeigaa
open Go.Proofs.Ytbicfognbbeigaa.Ab Go.Proofs.Ytbicfognbbeigaa.Pl

/-- words that go on, u before d -/
def fussAll (m : Nat) : Nat → List UInt8 → Nat → Nat → List (List UInt8)
  | 0, _, _, _ => []
  | f + 1, w, up, h => if up = 0 ∧ h = 0 then [w] else (if 0 < up then fussAll m f (w ++ [117]) (up - 1) (h + m - 1) else []) ++ (if 0 < h then fussAll m f (w ++ [100]) up (h - 1) else [])

theorem fussAll_len (m : Nat) : ∀ f w up h, (fussAll m f w up h).length ≤ 2 ^ f := by
  intro f
  induction f with
  | zero => intro w up h; simp [fussAll]
  | succ f ih =>
    intro w up h
    have := Nat.pow_succ 2 f
    have p := Nat.pow_pos (n := f) (show 0 < 2 by decide)
    have a := ih (w ++ [117]) (up - 1) (h + m - 1)
    have b := ih (w ++ [100]) up (h - 1)
    simp only [fussAll]
    split
    · simp; omega
    · rw [List.length_append]
      split <;> split <;> simp <;> omega


end Go.Proofs.Ytbicfognbbeigaa

/-
  Contracts of functions that gather words in a variable that an inner function shares are proved: words of Fuss.
  They hold for all arguments.
-/
set_option linter.unusedVariables false
set_option linter.unusedSimpArgs false
namespace Go.Proofs.Ytbicfognbbeigaa
open Go.Proofs.Ytbicfognbbeigaa.Ab Go.Proofs.Ytbicfognbbeigaa.Pl

/-- the blocks of an inner function that gathers: itself, the shared variable, its row, a number -/
abbrev accL (F pm po b pq N : Nat) (m : Int) (out : List (List UInt8)) (R : List (Nat × Blk)) : List (Nat × Blk) :=
  (pm, row [.func F [.ptr po 0, .ptr pm 0, .ptr pq 0]]) :: (po, row [.slice b 0 N N]) :: (b, row (strs out)) :: (pq, row [.int .i64 m]) :: R


/-- the words of Fuss, and whether there are some -/
def fussP (m n : Int) : List (List UInt8) × Bool := if (1 ≤ m ∧ m ≤ 4) ∧ 0 ≤ n ∧ n ≤ 4 then (fussAll m.toNat 25 [] n.toNat 0, true) else ([], false)
theorem fussP_len (m n : Int) : (fussP m n).1.length ≤ 33554432 := by
  unfold fussP
  split
  · exact fussAll_len _ 25 _ _ _
  · simp





end Go.Proofs.Ytbicfognbbeigaa

/-
  Contracts of matchings without crossings are proved.
  They hold for all rows of numbers.
-/
set_option linter.unusedVariables false
set_option linter.unusedSimpArgs false
namespace Go.Proofs.Ytbicfognbbeigaa
open Go.Proofs.Ytbicfognbbeigaa.Ab Go.Proofs.Ytbicfognbbeigaa.Pl

theorem fill_len {α : Type} (A B : List α) (k : Nat) (e : A.length = B.length) : (A.take k ++ B.drop k).length = B.length := by
  simp
  omega
theorem fill_set {α : Type} (A B : List α) (d : α) (k : Nat) (ha : k < A.length) (hb : k < B.length) : (A.take k ++ B.drop k).set k (A.getD k d) = A.take (k + 1) ++ B.drop (k + 1) := by
  have e : (A.take k).length = k := by simp; omega
  have e2 : A.getD k d = A[k] := by simp [List.getD, ha]
  rw [List.set_append_right _ _ (by omega), e, Nat.sub_self, List.drop_eq_getElem_cons hb, List.set_cons_zero, e2, List.take_succ_eq_append_getElem ha, List.append_assoc]
  rfl
theorem fill_all {α : Type} (A B : List α) (k : Nat) (e : A.length = B.length) (h : k = A.length) : A.take k ++ B.drop k = A := by
  subst h
  rw [List.take_length, List.drop_eq_nil_of_le (by omega), List.append_nil]


/-- a place of a matching is as it must be -/
def okAt (l : List Int) (i : Nat) : Prop := (0 ≤ l.getD i 0 ∧ l.getD i 0 ≤ (l.length : Int) - 1) ∧ l.getD i 0 ≠ i ∧ l.getD (l.getD i 0).toNat 0 = i
instance (l : List Int) (i : Nat) : Decidable (okAt l i) := by unfold okAt; infer_instance
def isM (l : List Int) : Bool := decide (l.length ≤ 16 ∧ ∀ i, i < l.length → okAt l i)
def crossAt (l : List Int) (a c : Nat) : Prop := a < c ∧ (c : Int) < l.getD a 0 ∧ l.getD a 0 < l.getD c 0
instance (l : List Int) (a c : Nat) : Decidable (crossAt l a c) := by unfold crossAt; infer_instance
def crossless (l : List Int) (i j : Nat) : Prop := ∀ a c, c < l.length → (a < i ∨ (a = i ∧ c < j)) → ¬ crossAt l a c
def isNC (l : List Int) : Bool := isM l && decide (∀ a, a < l.length → ∀ c, c < l.length → ¬ crossAt l a c)
theorem isM_spec {l : List Int} (h : isM l = true) : l.length ≤ 16 ∧ ∀ i, i < l.length → okAt l i := of_decide_eq_true h
theorem isNC_spec {l : List Int} (h : isNC l = true) : isM l = true := by
  unfold isNC at h
  simp only [Bool.and_eq_true] at h
  exact h.1

theorem crossless_zero (l : List Int) : crossless l 0 0 := fun a c _ h => by omega
theorem crossless_hit {l : List Int} {i j : Nat} (hj : j < l.length) (h : crossAt l i j) : ¬ crossless l i (j + 1) := fun n => n i j hj (.inr ⟨rfl, by omega⟩) h
theorem crossless_miss {l : List Int} {i j : Nat} (h : ¬ crossAt l i j) : crossless l i (j + 1) ↔ crossless l i j := by
  constructor
  · exact fun n a c hc hh => n a c hc (by omega)
  · intro n a c hc hh
    by_cases e : a = i ∧ c = j
    · rw [e.1, e.2]; exact h
    · exact n a c hc (by omega)
theorem crossless_row {l : List Int} {i j : Nat} (hj : l.length ≤ j) : crossless l (i + 1) 0 ↔ crossless l i j := by
  constructor
  · exact fun n a c hc hh => n a c hc (by omega)
  · exact fun n a c hc hh => n a c hc (by omega)
theorem crossless_start {l : List Int} {i : Nat} : crossless l i (i + 1) ↔ crossless l i 0 := by
  constructor
  · exact fun n a c hc hh => n a c hc (by omega)
  · intro n a c hc hh
    by_cases e : a = i
    · subst e
      intro hx
      unfold crossAt at hx
      omega
    · exact n a c hc (by omega)
theorem crossless_all {l : List Int} (i : Nat) (h : l.length ≤ i) : crossless l i 0 ↔ ∀ a, a < l.length → ∀ c, c < l.length → ¬ crossAt l a c := by
  constructor
  · exact fun n a ha c hc => n a c hc (.inl (by omega))
  · intro n a c hc hh hx
    exact n a (by unfold crossAt at hx; omega) c hc hx


theorem isM_all {l : List Int} (h : ∀ i, i < l.length → okAt l i) : isM l = decide ((l.length : Int) ≤ 16) := decide_eq_decide.2 ⟨fun g => by have := g.1; omega, fun g => ⟨by omega, h⟩⟩



theorem beq_zero (k : Nat) : ((k : Int) == 0) = decide (k = 0) := by
  cases k <;> rfl
theorem isNC_of {l : List Int} (h : isM l = true) {p : Prop} [Decidable p] (g : p ↔ ∀ a, a < l.length → ∀ c, c < l.length → ¬ crossAt l a c) : decide p = isNC l := by
  unfold isNC
  rw [h, Bool.true_and]
  exact decide_eq_decide.2 g



def isD (l : List Int) : Bool := decide (2 ≤ (l.length : Int)) && isNC l
theorem isD_spec {l : List Int} (h : isD l = true) : 2 ≤ l.length ∧ isNC l = true := by
  unfold isD at h
  simp only [Bool.and_eq_true, decide_eq_true_eq] at h
  exact ⟨by omega, h.2⟩





/-- the arcs from above to below, among the first points -/
def thrTo (l : List Int) : Nat → Nat
  | 0 => 0
  | i + 1 => thrTo l i + if ((l.length / 2 : Nat) : Int) ≤ l.getD i 0 then 1 else 0
theorem thrTo_le (l : List Int) : ∀ i, thrTo l i ≤ i
  | 0 => Nat.le_refl _
  | i + 1 => by
    have := thrTo_le l i
    simp only [thrTo]
    split <;> omega
def thr (l : List Int) : Int := if isD l = true then (thrTo l (l.length / 2) : Int) else -1

theorem half_len (n : Nat) : (n : Int).tdiv 2 = ((n / 2 : Nat) : Int) := rfl




/-- a law's row, in its two forms -/
theorem intsArg_two {h : H} {v : AV} (m : IntsArg h v) : ∃ l, bdI l ∧ l.length ≤ 9223372036854775807 ∧ CellsAt h v (ints l) ∧ ((v = .nilslice ∧ l = []) ∨ ∃ b c, v = .slice b 0 l.length c) := by
  obtain ⟨l, bd, hl, hv⟩ := m
  refine ⟨l, bd, hl, hv, ?_⟩
  rcases hv with ⟨rfl, e⟩ | ⟨b, c, rfl, hb⟩
  · exact .inl ⟨rfl, List.eq_nil_of_length_eq_zero (by rw [← ints_length, e]; rfl)⟩
  · exact .inr ⟨b, c, by rw [ints_length]⟩



end Go.Proofs.Ytbicfognbbeigaa
