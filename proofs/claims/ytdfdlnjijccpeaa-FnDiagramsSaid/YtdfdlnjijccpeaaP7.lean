/-
  Plain laws of ways and loops in two diagrams, one above the other, are proved.
  They hold for all matchings.
-/
import Derived.Test.YtdfdlnjijccpeaaP6
set_option linter.unusedVariables false
set_option linter.unusedSimpArgs false
namespace Go.Proofs.Ytdfdlnjijccpeaa
open Go.Proofs.Ytdfdlnjijccpeaa.Ab Go.Proofs.Ytdfdlnjijccpeaa.Pl

/-- more values than places: two are alike -/
theorem pigeon : ∀ (N : Nat) (x : Nat → Nat), (∀ i, i ≤ N → x i < N) → ∃ i j, i < j ∧ j ≤ N ∧ x i = x j := by
  intro N
  induction N with
  | zero =>
    intro x hx
    have := hx 0 (Nat.le_refl _)
    omega
  | succ N ih =>
    intro x hx
    by_cases h : ∃ i, i ≤ N ∧ x i = x (N + 1)
    · obtain ⟨i, hi, e⟩ := h
      exact ⟨i, N + 1, by omega, Nat.le_refl _, e⟩
    · have hne : ∀ i, i ≤ N → x i ≠ x (N + 1) := fun i hi e => h ⟨i, hi, e⟩
      obtain ⟨i, j, hij, hj, e⟩ := ih (fun i => if x (N + 1) < x i then x i - 1 else x i) (fun i hi => by
        have a := hx i (by omega)
        have b := hx (N + 1) (Nat.le_refl _)
        have c := hne i hi
        split <;> omega)
      refine ⟨i, j, hij, by omega, ?_⟩
      have a := hne i (by omega)
      have b := hne j hj
      split at e <;> split at e <;> omega

/-- an involution of 2 n places -/
def Inv2 (n : Nat) (A : Nat → Nat) : Prop := ∀ i, i < 2 * n → A i < 2 * n ∧ A (A i) = i ∧ A i ≠ i

section
variable (n : Nat) (A B : Nat → Nat)

/-- one step of a way: states below 2 n are places of the upper diagram, the others those of the lower one -/
def stepW (st : Nat) : Option Nat :=
  if st < 2 * n then (if A st < n then none else some (2 * n + (2 * n - 1 - A st))) else (if n ≤ B (st - 2 * n) then none else some (2 * n - 1 - B (st - 2 * n)))
def iterW (s : Nat) : Nat → Option Nat
  | 0 => some s
  | k + 1 => (iterW s k).bind (stepW n A B)
def isStart (s : Nat) : Prop := s < n ∨ (3 * n ≤ s ∧ s < 4 * n)
/-- the middle point of a state -/
def midW (st : Nat) : Nat := if st < 2 * n then 2 * n - 1 - st else st - 2 * n
def endsW : Nat → Nat → Bool
  | 0, _ => false
  | f + 1, st => match stepW n A B st with
    | none => true
    | some z => endsW f z
def endV (st : Nat) : Nat := if st < 2 * n then A st else B (st - 2 * n)
def wayV : Nat → Nat → Nat
  | 0, _ => 0
  | f + 1, st => match stepW n A B st with
    | none => endV n A B st
    | some z => wayV f z
def wayM : Nat → Nat → List Bool → List Bool
  | 0, _, s => s
  | f + 1, st, s => match stepW n A B st with
    | none => s
    | some z => wayM f z (s.set (midW n z) true)

variable {n A B}
theorem step_lt {x z : Nat} (h : stepW n A B x = some z) (hx : x < 4 * n) : (2 * n ≤ z ∧ z < 3 * n ∧ x < 2 * n ∧ n ≤ A x ∧ z = 2 * n + (2 * n - 1 - A x)) ∨ (n ≤ z ∧ z < 2 * n ∧ 2 * n ≤ x ∧ B (x - 2 * n) < n ∧ z = 2 * n - 1 - B (x - 2 * n)) := by
  unfold stepW at h
  split at h
  · split at h
    · cases h
    · injection h with h
      left
      omega
  · split at h
    · cases h
    · injection h with h
      right
      omega
theorem step_inj (hA : Inv2 n A) (hB : Inv2 n B) {x y z : Nat} (h : stepW n A B x = some z) (k : stepW n A B y = some z) (hx : x < 4 * n) (hy : y < 4 * n) : x = y := by
  rcases step_lt h hx with ⟨a1, a2, a3, a4, a5⟩ | ⟨a1, a2, a3, a4, a5⟩ <;> rcases step_lt k hy with ⟨b1, b2, b3, b4, b5⟩ | ⟨b1, b2, b3, b4, b5⟩
  · have h1 := hA x a3
    have h2 := hA y b3
    have e : A x = A y := by omega
    rw [← h1.2.1, e, h2.2.1]
  · omega
  · omega
  · have h1 := hB (x - 2 * n) (by omega)
    have h2 := hB (y - 2 * n) (by omega)
    have e : B (x - 2 * n) = B (y - 2 * n) := by omega
    have : x - 2 * n = y - 2 * n := by rw [← h1.2.1, e, h2.2.1]
    omega
theorem step_start {x z : Nat} (h : stepW n A B x = some z) (hx : x < 4 * n) : ¬ isStart n z := by
  rcases step_lt h hx with ⟨a1, a2, _⟩ | ⟨a1, a2, _⟩ <;> (unfold isStart; omega)
theorem iter_lt {s : Nat} (hs : s < 4 * n) : ∀ k z, iterW n A B s k = some z → z < 4 * n := by
  intro k
  induction k with
  | zero =>
    intro z h
    simp only [iterW, Option.some.injEq] at h
    omega
  | succ k ih =>
    intro z h
    simp only [iterW, Option.bind_eq_some_iff] at h
    obtain ⟨y, h1, h2⟩ := h
    rcases step_lt h2 (ih y h1) with ⟨a1, a2, _⟩ | ⟨a1, a2, _⟩ <;> omega
theorem iter_apart (hA : Inv2 n A) (hB : Inv2 n B) {s : Nat} (hs : s < 4 * n) (st : isStart n s) : ∀ i j v, i < j → iterW n A B s i = some v → iterW n A B s j = some v → False := by
  intro i
  induction i with
  | zero =>
    intro j v hij h1 h2
    obtain ⟨m, rfl⟩ : ∃ m, j = m + 1 := ⟨j - 1, by omega⟩
    simp only [iterW, Option.some.injEq] at h1
    subst h1
    simp only [iterW, Option.bind_eq_some_iff] at h2
    obtain ⟨y, h3, h4⟩ := h2
    exact step_start h4 (iter_lt hs m y h3) st
  | succ i ih =>
    intro j v hij h1 h2
    obtain ⟨m, rfl⟩ : ∃ m, j = m + 1 := ⟨j - 1, by omega⟩
    simp only [iterW, Option.bind_eq_some_iff] at h1 h2
    obtain ⟨y, h3, h4⟩ := h1
    obtain ⟨y', h5, h6⟩ := h2
    have e := step_inj hA hB h4 h6 (iter_lt hs i y h3) (iter_lt hs m y' h5)
    subst e
    exact ih m y (by omega) h3 h5
theorem iter_none (hA : Inv2 n A) (hB : Inv2 n B) {s : Nat} (hs : s < 4 * n) (st : isStart n s) : ∃ k, k ≤ 4 * n ∧ iterW n A B s k = none := by
  apply Classical.byContradiction
  intro hno
  have hsome : ∀ k, k ≤ 4 * n → ∃ v, iterW n A B s k = some v := fun k hk => by
    cases e : iterW n A B s k with
    | none => exact absurd ⟨k, hk, e⟩ hno
    | some v => exact ⟨v, rfl⟩
  obtain ⟨i, j, hij, hj, e⟩ := pigeon (4 * n) (fun k => (iterW n A B s k).getD 0) (fun i hi => by
    obtain ⟨v, hv⟩ := hsome i hi
    rw [hv]
    exact iter_lt hs i v hv)
  obtain ⟨v, hv⟩ := hsome i (by omega)
  obtain ⟨u, hu⟩ := hsome j hj
  rw [hv, hu] at e
  simp only [Option.getD_some] at e
  subst e
  exact iter_apart hA hB hs st i j v hij hv hu
theorem iter_shift (s : Nat) : ∀ k, iterW n A B s (k + 1) = (stepW n A B s).bind fun z => iterW n A B z k := by
  intro k
  induction k with
  | zero =>
    simp only [iterW, Option.bind_some]
    cases stepW n A B s <;> rfl
  | succ k ih =>
    rw [iterW, ih]
    cases stepW n A B s with
    | none => rfl
    | some z => rfl
theorem ends_of_none : ∀ (k f s : Nat), iterW n A B s k = none → k ≤ f → endsW n A B f s = true := by
  intro k
  induction k with
  | zero => intro f s h; simp [iterW] at h
  | succ k ih =>
    intro f s h hf
    obtain ⟨f, rfl⟩ : ∃ g, f = g + 1 := ⟨f - 1, by omega⟩
    rw [iter_shift] at h
    simp only [endsW]
    cases hz : stepW n A B s with
    | none => rfl
    | some z =>
      rw [hz] at h
      exact ih f z h (by omega)
theorem ends_start (hA : Inv2 n A) (hB : Inv2 n B) {s : Nat} (hs : s < 4 * n) (st : isStart n s) : endsW n A B (4 * n) s = true := by
  obtain ⟨k, hk, e⟩ := iter_none hA hB hs st
  exact ends_of_none k _ s e hk

theorem wayM_len : ∀ (f st : Nat) (s : List Bool), (wayM n A B f st s).length = s.length := by
  intro f
  induction f with
  | zero => intro st s; rfl
  | succ f ih =>
    intro st s
    simp only [wayM]
    split
    · rfl
    · rw [ih]; simp
theorem getD_mark (s : List Bool) (x j : Nat) (hj : j < s.length) : (s.set x true).getD j false = true ↔ (x = j ∨ s.getD j false = true) := by
  simp only [List.getD, List.getElem?_set]
  by_cases e : x = j
  · subst e
    simp [hj]
  · simp [e]
/-- what a way marks -/
def Marks (n : Nat) (A B : Nat → Nat) (st j : Nat) : Prop := ∃ k z, iterW n A B st (k + 1) = some z ∧ midW n z = j
theorem wayM_getD : ∀ (f st : Nat) (s : List Bool) (j : Nat), endsW n A B f st = true → j < s.length → ((wayM n A B f st s).getD j false = true ↔ s.getD j false = true ∨ Marks n A B st j) := by
  intro f
  induction f with
  | zero => intro st s j h; cases h
  | succ f ih =>
    intro st s j h hj
    simp only [endsW] at h
    simp only [wayM]
    cases hz : stepW n A B st with
    | none =>
      dsimp only
      constructor
      · exact .inl
      · rintro (h | ⟨k, z, h1, _⟩)
        · exact h
        · rw [iter_shift, hz] at h1
          cases h1
    | some z =>
      rw [hz] at h
      dsimp only at h ⊢
      rw [ih z _ j h (by simpa using hj), getD_mark _ _ _ hj]
      constructor
      · rintro ((h1 | h1) | ⟨k, y, h1, h2⟩)
        · exact .inr ⟨0, z, by rw [iter_shift, hz]; rfl, h1⟩
        · exact .inl h1
        · exact .inr ⟨k + 1, y, by rw [iter_shift, hz]; exact h1, h2⟩
      · rintro (h1 | ⟨k, y, h1, h2⟩)
        · exact .inl (.inr h1)
        · rw [iter_shift, hz] at h1
          cases k with
          | zero =>
            simp only [Option.bind_some, iterW, Option.some.injEq] at h1
            subst h1
            exact .inl (.inl h2)
          | succ k => exact .inr ⟨k, y, h1, h2⟩

/-- the marks of some ways, one after the other -/
def marksAll (n : Nat) (A B : Nat → Nat) (l : List Nat) (s : List Bool) : List Bool := l.foldl (fun s st => wayM n A B (4 * n) st s) s
theorem marksAll_len (l : List Nat) : ∀ s : List Bool, (marksAll n A B l s).length = s.length := by
  induction l with
  | nil => intro s; rfl
  | cons x l ih =>
    intro s
    show (marksAll n A B l (wayM n A B (4 * n) x s)).length = _
    rw [ih, wayM_len]
theorem marksAll_getD (hA : Inv2 n A) (hB : Inv2 n B) (l : List Nat) : ∀ (s : List Bool) (j : Nat), (∀ x ∈ l, isStart n x) → j < s.length → ((marksAll n A B l s).getD j false = true ↔ s.getD j false = true ∨ ∃ x, x ∈ l ∧ Marks n A B x j) := by
  induction l with
  | nil =>
    intro s j _ hj
    simp [marksAll]
  | cons x l ih =>
    intro s j hl hj
    show (marksAll n A B l (wayM n A B (4 * n) x s)).getD j false = true ↔ _
    have hx := hl x (.head _)
    rw [ih _ j (fun y hy => hl y (.tail _ hy)) (by rw [wayM_len]; exact hj), wayM_getD _ _ _ _ (ends_start hA hB (by unfold isStart at hx; omega) hx) hj]
    constructor
    · rintro ((h | h) | ⟨y, hy, h⟩)
      · exact .inl h
      · exact .inr ⟨x, .head _, h⟩
      · exact .inr ⟨y, .tail _ hy, h⟩
    · rintro (h | ⟨y, hy, h⟩)
      · exact .inl (.inl h)
      · cases hy with
        | head => exact .inl (.inr h)
        | tail _ hy => exact .inr ⟨y, hy, h⟩
theorem bools_ext {s t : List Bool} (hl : s.length = t.length) (h : ∀ j, j < s.length → (s.getD j false = true ↔ t.getD j false = true)) : s = t := by
  apply List.ext_getElem hl
  intro i h1 h2
  have := h i h1
  simp only [List.getD, List.getElem?_eq_getElem h1, List.getElem?_eq_getElem h2, Option.getD_some] at this
  cases e1 : s[i] <;> cases e2 : t[i] <;> simp_all
theorem marksAll_same (hA : Inv2 n A) (hB : Inv2 n B) {l l' : List Nat} (s : List Bool) (h : ∀ x ∈ l, isStart n x) (h' : ∀ x ∈ l', isStart n x) (hm : ∀ x, x ∈ l ↔ x ∈ l') : marksAll n A B l s = marksAll n A B l' s := by
  apply bools_ext
  · rw [marksAll_len, marksAll_len]
  · intro j hj
    rw [marksAll_len] at hj
    rw [marksAll_getD hA hB l s j h hj, marksAll_getD hA hB l' s j h' hj]
    simp only [hm]

/-- the starts of all ways -/
def startsW (n : Nat) : List Nat := (List.range (2 * n)).map fun i => if i < n then i else 2 * n + i
theorem startsW_mem (x : Nat) : x ∈ startsW n ↔ isStart n x := by
  unfold startsW isStart
  rw [List.mem_map]
  constructor
  · rintro ⟨i, hi, rfl⟩
    have := List.mem_range.1 hi
    split <;> omega
  · intro h
    by_cases hx : x < n
    · exact ⟨x, List.mem_range.2 (by omega), by rw [if_pos hx]⟩
    · exact ⟨x - 2 * n, List.mem_range.2 (by omega), by rw [if_neg (by omega)]; omega⟩
def seenW (n : Nat) (A B : Nat → Nat) : List Bool := marksAll n A B (startsW n) (List.replicate n false)
theorem seenW_len : (seenW n A B).length = n := by rw [seenW, marksAll_len]; simp
theorem seenW_getD (hA : Inv2 n A) (hB : Inv2 n B) {j : Nat} (hj : j < n) : (seenW n A B).getD j false = true ↔ ∃ x, isStart n x ∧ Marks n A B x j := by
  rw [seenW, marksAll_getD hA hB _ _ j (fun x hx => (startsW_mem x).1 hx) (by simpa using hj)]
  simp only [startsW_mem]
  have : (List.replicate n false).getD j false = false := by simp [List.getD, hj]
  rw [this]
  simp

/-- places without a mark, and two maps that stay among them -/
def Cl (n : Nat) (f g : Nat → Nat) (s : List Bool) : Prop :=
  s.length = n ∧ ∀ j, j < n → s.getD j false = false → (f j < n ∧ s.getD (f j) false = false ∧ f (f j) = j ∧ f j ≠ j) ∧ (g j < n ∧ s.getD (g j) false = false ∧ g (g j) = j ∧ g j ≠ j)
theorem Cl.swap {f g : Nat → Nat} {s : List Bool} (h : Cl n f g s) : Cl n g f s := ⟨h.1, fun j hj hs => ⟨(h.2 j hj hs).2, (h.2 j hj hs).1⟩⟩

theorem seenW_cl (hA : Inv2 n A) (hB : Inv2 n B) : Cl n (fun j => 2 * n - 1 - A (2 * n - 1 - j)) B (seenW n A B) ∧ ∀ j, j < n → (seenW n A B).getD j false = false → n ≤ A (2 * n - 1 - j) := by
  have un : ∀ j, j < n → (seenW n A B).getD j false = false → ∀ x, isStart n x → ¬ Marks n A B x j := fun j hj hs x hx hm => by
    have := (seenW_getD hA hB hj).2 ⟨x, hx, hm⟩
    rw [hs] at this
    cases this
  have fls : ∀ j, j < n → (∀ x, isStart n x → ¬ Marks n A B x j) → (seenW n A B).getD j false = false := fun j hj h => by
    cases e : (seenW n A B).getD j false with
    | false => rfl
    | true =>
      obtain ⟨x, hx, hm⟩ := (seenW_getD hA hB hj).1 e
      exact absurd hm (h x hx)
  have hb1 : ∀ j, j < n → (seenW n A B).getD j false = false → B j < n := fun j hj hs => by
    apply Classical.byContradiction
    intro hge
    have hB1 := hB j (by omega)
    refine un j hj hs (2 * n + B j) (by unfold isStart; omega) ⟨0, 2 * n - 1 - j, ?_, by unfold midW; rw [if_pos (by omega)]; omega⟩
    rw [iter_shift]
    have : stepW n A B (2 * n + B j) = some (2 * n - 1 - j) := by
      unfold stepW
      rw [if_neg (by omega), show 2 * n + B j - 2 * n = B j by omega, hB1.2.1, if_neg (by omega)]
    rw [this]
    rfl
  have ha1 : ∀ j, j < n → (seenW n A B).getD j false = false → n ≤ A (2 * n - 1 - j) := fun j hj hs => by
    apply Classical.byContradiction
    intro hge
    have hA1 := hA (2 * n - 1 - j) (by omega)
    refine un j hj hs (A (2 * n - 1 - j)) (by unfold isStart; omega) ⟨0, 2 * n + j, ?_, by unfold midW; rw [if_neg (by omega)]; omega⟩
    rw [iter_shift]
    have : stepW n A B (A (2 * n - 1 - j)) = some (2 * n + j) := by
      unfold stepW
      rw [if_pos (by omega), hA1.2.1, if_neg (by omega), show 2 * n - 1 - (2 * n - 1 - j) = j by omega]
    rw [this]
    rfl
  have hb2 : ∀ j, j < n → (seenW n A B).getD j false = false → (seenW n A B).getD (B j) false = false := fun j hj hs => by
    have hBn := hb1 j hj hs
    have hB1 := hB j (by omega)
    refine fls (B j) hBn fun x hx => ?_
    rintro ⟨k, z, h1, h2⟩
    have hx4 : x < 4 * n := by unfold isStart at hx; omega
    have hz4 := iter_lt hx4 _ _ h1
    unfold midW at h2
    split at h2
    · rename_i hz2
      simp only [iterW, Option.bind_eq_some_iff] at h1
      obtain ⟨y, h3, h4⟩ := h1
      rcases step_lt h4 (iter_lt hx4 _ _ h3) with ⟨a1, a2, a3, a4, a5⟩ | ⟨a1, a2, a3, a4, a5⟩
      · omega
      · have hy := iter_lt hx4 _ _ h3
        have hB2 := hB (y - 2 * n) (by omega)
        have e : B (y - 2 * n) = B j := by omega
        have e2 : y - 2 * n = j := by rw [← hB2.2.1, e, hB1.2.1]
        cases k with
        | zero =>
          simp only [iterW, Option.some.injEq] at h3
          unfold isStart at hx
          omega
        | succ k => exact un j hj hs x hx ⟨k, y, h3, by unfold midW; rw [if_neg (by omega)]; exact e2⟩
    · rename_i hz2
      refine un j hj hs x hx ⟨k + 1, 2 * n - 1 - j, ?_, by unfold midW; rw [if_pos (by omega)]; omega⟩
      rw [iterW, h1]
      show stepW n A B z = _
      unfold stepW
      rw [if_neg hz2, h2, hB1.2.1, if_neg (by omega)]
  have ha2 : ∀ j, j < n → (seenW n A B).getD j false = false → (seenW n A B).getD (2 * n - 1 - A (2 * n - 1 - j)) false = false := fun j hj hs => by
    have hAn := ha1 j hj hs
    have hA1 := hA (2 * n - 1 - j) (by omega)
    refine fls _ (by omega) fun x hx => ?_
    rintro ⟨k, z, h1, h2⟩
    have hx4 : x < 4 * n := by unfold isStart at hx; omega
    have hz4 := iter_lt hx4 _ _ h1
    unfold midW at h2
    split at h2
    · rename_i hz2
      have ez : z = A (2 * n - 1 - j) := by omega
      refine un j hj hs x hx ⟨k + 1, 2 * n + j, ?_, by unfold midW; rw [if_neg (by omega)]; omega⟩
      rw [iterW, h1]
      show stepW n A B z = _
      unfold stepW
      rw [if_pos hz2, ez, hA1.2.1, if_neg (by omega), show 2 * n - 1 - (2 * n - 1 - j) = j by omega]
    · rename_i hz2
      simp only [iterW, Option.bind_eq_some_iff] at h1
      obtain ⟨y, h3, h4⟩ := h1
      rcases step_lt h4 (iter_lt hx4 _ _ h3) with ⟨a1, a2, a3, a4, a5⟩ | ⟨a1, a2, a3, a4, a5⟩
      · have hA2 := hA y a3
        have e : A y = A (2 * n - 1 - j) := by omega
        have e2 : y = 2 * n - 1 - j := by rw [← hA2.2.1, e, hA1.2.1]
        cases k with
        | zero =>
          simp only [iterW, Option.some.injEq] at h3
          unfold isStart at hx
          omega
        | succ k => exact un j hj hs x hx ⟨k, y, h3, by unfold midW; rw [if_pos (by omega)]; omega⟩
      · omega
  refine ⟨⟨seenW_len, fun j hj hs => ⟨⟨?_, ha2 j hj hs, ?_, ?_⟩, hb1 j hj hs, hb2 j hj hs, (hB j (by omega)).2.1, (hB j (by omega)).2.2⟩⟩, ha1⟩
  · have := hA (2 * n - 1 - j) (by omega)
    have := ha1 j hj hs
    dsimp only
    omega
  · have h1 := hA (2 * n - 1 - j) (by omega)
    have := ha1 j hj hs
    dsimp only
    rw [show 2 * n - 1 - (2 * n - 1 - A (2 * n - 1 - j)) = A (2 * n - 1 - j) by omega, h1.2.1]
    omega
  · have h1 := hA (2 * n - 1 - j) (by omega)
    have := ha1 j hj hs
    dsimp only
    omega
end

section
variable {n : Nat}

/-- a loop's marks, while it is gone round -/
structure Tr (n : Nat) (f g : Nat → Nat) (s0 : List Bool) (x0 : Nat) (s : List Bool) (x p : Nat) : Prop where
  len : s.length = n
  up : ∀ y, s0.getD y false = true → s.getD y false = true
  cf : ∀ y, y < n → s.getD y false = true → s0.getD y false = false → s.getD (f y) false = true
  hp : p < n ∧ s.getD p false = true ∧ s0.getD p false = false
  hx : s.getD x0 false = true
  nx : x = g p
  cg : ∀ y, y < n → s.getD y false = true → s0.getD y false = false → y ≠ x0 → y ≠ p → s.getD (g y) false = true ∧ g y ≠ p

/-- a loop's marks, at the end -/
structure Fin0 (n : Nat) (f g : Nat → Nat) (s0 : List Bool) (x0 : Nat) (s : List Bool) : Prop where
  len : s.length = n
  up : ∀ y, s0.getD y false = true → s.getD y false = true
  hx : s.getD x0 false = true
  cf : ∀ y, y < n → s.getD y false = true → s0.getD y false = false → s.getD (f y) false = true
  cg : ∀ y, y < n → s.getD y false = true → s0.getD y false = false → s.getD (g y) false = true

theorem getD_two {s : List Bool} {a b j : Nat} (hj : j < s.length) : ((s.set a true).set b true).getD j false = true ↔ (b = j ∨ a = j ∨ s.getD j false = true) := by
  rw [getD_mark _ _ _ (by simpa using hj), getD_mark _ _ _ hj]
theorem getD_true_lt {s : List Bool} {j : Nat} (h : s.getD j false = true) : j < s.length := by
  apply Classical.byContradiction
  intro hge
  rw [List.getD, List.getElem?_eq_none (by omega)] at h
  cases h

theorem tr_end {f g : Nat → Nat} {s0 : List Bool} (c : Cl n f g s0) {x0 : Nat} (hx0 : x0 < n) (hs0 : s0.getD x0 false = false) : ∀ (k : Nat) (s : List Bool) (x p : Nat), Tr n f g s0 x0 s x p → s.count false ≤ k → Fin0 n f g s0 x0 (trail f g k s x) := by
  have close : ∀ (s : List Bool) (x p : Nat), Tr n f g s0 x0 s x p → s.getD x false = true → Fin0 n f g s0 x0 s := by
    intro s x p t hx
    have cp := c.2 p t.hp.1 t.hp.2.2
    rw [← t.nx] at cp
    have hxn : x < n := cp.2.1
    have h0x : s0.getD x false = false := cp.2.2.1
    have e : x = x0 := by
      apply Classical.byContradiction
      intro hne
      have := (t.cg x hxn hx h0x hne cp.2.2.2.2).2
      exact this cp.2.2.2.1
    refine ⟨t.len, t.up, t.hx, t.cf, fun y hy h1 h2 => ?_⟩
    by_cases e1 : y = p
    · rw [e1, ← t.nx, e]
      exact t.hx
    · by_cases e2 : y = x0
      · rw [e2, ← e, cp.2.2.2.1]
        exact t.hp.2.1
      · exact (t.cg y hy h1 h2 e2 e1).1
  intro k
  induction k with
  | zero =>
    intro s x p t hk
    have cp := c.2 p t.hp.1 t.hp.2.2
    rw [← t.nx] at cp
    exact close s x p t (count_zero (by omega) (by rw [t.len]; exact cp.2.1))
  | succ k ih =>
    intro s x p t hk
    have cp := c.2 p t.hp.1 t.hp.2.2
    rw [← t.nx] at cp
    have hxn : x < n := cp.2.1
    have h0x : s0.getD x false = false := cp.2.2.1
    cases hx : s.getD x false with
    | true =>
      rw [trail_seen _ _ _ hx]
      exact close s x p t hx
    | false =>
      rw [trail_step _ _ _ hx]
      have cx := c.2 x hxn h0x
      have hlx : x < s.length := by rw [t.len]; exact hxn
      have c1 := count_mark hlx hx
      have c2 := count_more (s := s.set x true) (x := f x) (by simp only [List.length_set]; rw [t.len]; exact cx.1.1)
      have g2 : ∀ j, j < n → (((s.set x true).set (f x) true).getD j false = true ↔ (f x = j ∨ x = j ∨ s.getD j false = true)) := fun j hj => getD_two (by rw [t.len]; exact hj)
      have fxs : s.getD (f x) false = false := by
        cases e : s.getD (f x) false with
        | false => rfl
        | true =>
          have := t.cf (f x) cx.1.1 e cx.1.2.1
          rw [cx.1.2.2.1, hx] at this
          cases this
      refine ih _ _ (f x) ⟨by simpa using t.len, fun y hy => ?_, fun y hy h1 h2 => ?_, ⟨cx.1.1, (g2 _ cx.1.1).2 (.inl rfl), cx.1.2.1⟩, (g2 _ hx0).2 (.inr (.inr t.hx)), rfl, fun y hy h1 h2 h3 h4 => ?_⟩ (by omega)
      · have hyn : y < n := by have := getD_true_lt (t.up y hy); rw [t.len] at this; exact this
        exact (g2 y hyn).2 (.inr (.inr (t.up y hy)))
      · have cy := c.2 y hy h2
        rcases (g2 y hy).1 h1 with e | e | e
        · refine (g2 _ cy.1.1).2 (.inr (.inl ?_))
          rw [← e, cx.1.2.2.1]
        · exact (g2 _ cy.1.1).2 (.inl (by rw [e]))
        · exact (g2 _ cy.1.1).2 (.inr (.inr (t.cf y hy e h2)))
      · have cy := c.2 y hy h2
        rcases (g2 y hy).1 h1 with e | e | e
        · exact absurd e.symm h4
        · subst e
          rw [cp.2.2.2.1]
          exact ⟨(g2 _ t.hp.1).2 (.inr (.inr t.hp.2.1)), fun e => by rw [← e, t.hp.2.1] at fxs; cases fxs⟩
        · by_cases e1 : y = p
          · rw [e1, ← t.nx]
            exact ⟨(g2 _ hxn).2 (.inr (.inl rfl)), fun e => cx.1.2.2.2 e.symm⟩
          · have := t.cg y hy e h2 h3 e1
            exact ⟨(g2 _ cy.2.1).2 (.inr (.inr this.1)), fun e => by rw [← e, this.1] at fxs; cases fxs⟩

theorem trail_fin {f g : Nat → Nat} {s0 : List Bool} (c : Cl n f g s0) {x0 : Nat} (hx0 : x0 < n) (hs0 : s0.getD x0 false = false) {k : Nat} (hk : s0.count false ≤ k) : Fin0 n f g s0 x0 (trail f g k s0 x0) := by
  have cx := c.2 x0 hx0 hs0
  have hlx : x0 < s0.length := by rw [c.1]; exact hx0
  have c1 := count_mark hlx hs0
  obtain ⟨k, rfl⟩ : ∃ m, k = m + 1 := ⟨k - 1, by omega⟩
  rw [trail_step _ _ _ hs0]
  have c2 := count_more (s := s0.set x0 true) (x := f x0) (by simp only [List.length_set]; rw [c.1]; exact cx.1.1)
  have g2 : ∀ j, j < n → (((s0.set x0 true).set (f x0) true).getD j false = true ↔ (f x0 = j ∨ x0 = j ∨ s0.getD j false = true)) := fun j hj => getD_two (by rw [c.1]; exact hj)
  refine tr_end c hx0 hs0 k _ _ (f x0) ⟨by simpa using c.1, fun y hy => ?_, fun y hy h1 h2 => ?_, ⟨cx.1.1, (g2 _ cx.1.1).2 (.inl rfl), cx.1.2.1⟩, (g2 _ hx0).2 (.inr (.inl rfl)), rfl, fun y hy h1 h2 h3 h4 => ?_⟩ (by omega)
  · have hyn : y < n := by have := getD_true_lt hy; rw [c.1] at this; exact this
    exact (g2 y hyn).2 (.inr (.inr hy))
  · have cy := c.2 y hy h2
    rcases (g2 y hy).1 h1 with e | e | e
    · refine (g2 _ cy.1.1).2 (.inr (.inl ?_))
      rw [← e, cx.1.2.2.1]
    · exact (g2 _ cy.1.1).2 (.inl (by rw [e]))
    · rw [h2] at e; cases e
  · rcases (g2 y hy).1 h1 with e | e | e
    · exact absurd e.symm h4
    · exact absurd e.symm h3
    · rw [h2] at e; cases e

/-- a loop marks nothing but what can be reached -/
theorem trail_sub {f g : Nat → Nat} {P : Nat → Prop} (hf : ∀ y, P y → P (f y)) (hg : ∀ y, P y → P (g y)) : ∀ (k : Nat) (s : List Bool) (x y : Nat), P x → y < s.length → (trail f g k s x).getD y false = true → s.getD y false = true ∨ P y := by
  intro k
  induction k with
  | zero => intro s x y hx hy h; exact .inl h
  | succ k ih =>
    intro s x y hx hy h
    cases hs : s.getD x false with
    | true => rw [trail_seen _ _ _ hs] at h; exact .inl h
    | false =>
      rw [trail_step _ _ _ hs] at h
      rcases ih _ _ y (hg _ (hf _ hx)) (by simpa using hy) h with h | h
      · rcases (getD_two hy).1 h with e | e | e
        · exact .inr (e ▸ hf x hx)
        · exact .inr (e ▸ hx)
        · exact .inl e
      · exact .inr h

theorem trail_swap {f g : Nat → Nat} {s0 : List Bool} (c : Cl n f g s0) {x0 : Nat} (hx0 : x0 < n) (hs0 : s0.getD x0 false = false) {k : Nat} (hk : s0.count false ≤ k) : trail f g k s0 x0 = trail g f k s0 x0 := by
  have F := trail_fin c hx0 hs0 hk
  have G := trail_fin c.swap hx0 hs0 hk
  have half : ∀ {f g : Nat → Nat} {t : List Bool}, Cl n f g s0 → Fin0 n f g s0 x0 t → ∀ {f' g' : Nat → Nat}, (f' = f ∧ g' = g ∨ f' = g ∧ g' = f) → ∀ y, y < n → (trail f' g' k s0 x0).getD y false = true → t.getD y false = true := by
    intro f g t c T f' g' hfg y hy h
    have key : ∀ (h : Nat → Nat), (h = f ∨ h = g) → ∀ y, (y < n ∧ s0.getD y false = false ∧ t.getD y false = true) → (h y < n ∧ s0.getD (h y) false = false ∧ t.getD (h y) false = true) := by
      rintro h (rfl | rfl) y ⟨h1, h2, h3⟩
      · exact ⟨(c.2 y h1 h2).1.1, (c.2 y h1 h2).1.2.1, T.cf y h1 h3 h2⟩
      · exact ⟨(c.2 y h1 h2).2.1, (c.2 y h1 h2).2.2.1, T.cg y h1 h3 h2⟩
    rcases trail_sub (P := fun y => y < n ∧ s0.getD y false = false ∧ t.getD y false = true) (key f' (by rcases hfg with ⟨e, _⟩ | ⟨e, _⟩ <;> simp [e])) (key g' (by rcases hfg with ⟨_, e⟩ | ⟨_, e⟩ <;> simp [e])) k s0 x0 y ⟨hx0, hs0, T.hx⟩ (by rw [c.1]; exact hy) h with h | h
    · exact T.up y h
    · exact h.2.2
  apply bools_ext
  · rw [trail_len, trail_len]
  · intro j hj
    rw [trail_len, c.1] at hj
    exact ⟨half c.swap G (.inr ⟨rfl, rfl⟩) j hj, half c F (.inr ⟨rfl, rfl⟩) j hj⟩
theorem trail_cl {f g : Nat → Nat} {s0 : List Bool} (c : Cl n f g s0) {x0 : Nat} (hx0 : x0 < n) (hs0 : s0.getD x0 false = false) {k : Nat} (hk : s0.count false ≤ k) : Cl n f g (trail f g k s0 x0) := by
  have F := trail_fin c hx0 hs0 hk
  refine ⟨F.len, fun j hj hs => ?_⟩
  have h0 : s0.getD j false = false := by
    cases e : s0.getD j false with
    | false => rfl
    | true => rw [F.up j e] at hs; cases hs
  have cj := c.2 j hj h0
  refine ⟨⟨cj.1.1, ?_, cj.1.2.2⟩, cj.2.1, ?_, cj.2.2.2⟩
  · cases e : (trail f g k s0 x0).getD (f j) false with
    | false => rfl
    | true =>
      have := F.cf (f j) cj.1.1 e cj.1.2.1
      rw [cj.1.2.2.1, hs] at this
      cases this
  · cases e : (trail f g k s0 x0).getD (g j) false with
    | false => rfl
    | true =>
      have := F.cg (g j) cj.2.1 e cj.2.2.1
      rw [cj.2.2.2.1, hs] at this
      cases this

/-- all loops that go on from some marks -/
def roundsFr (f g : Nat → Nat) (n : Nat) (s0 : List Bool) : Nat → List Bool × Nat
  | 0 => (s0, 0)
  | i + 1 => let r := roundsFr f g n s0 i
    if r.1.getD i false then r else (trail f g n r.1 i, r.2 + 1)
theorem roundsFr_seen {f g : Nat → Nat} {i k : Nat} {s s0 : List Bool} (e : roundsFr f g n s0 i = (s, k)) (h : s.getD i false = true) : roundsFr f g n s0 (i + 1) = (s, k) := by
  simp only [roundsFr, e]
  rw [if_pos h]
theorem roundsFr_new {f g : Nat → Nat} {i k : Nat} {s s0 : List Bool} (e : roundsFr f g n s0 i = (s, k)) (h : s.getD i false = false) : roundsFr f g n s0 (i + 1) = (trail f g n s i, k + 1) := by
  simp only [roundsFr, e]
  rw [if_neg (by rw [h]; decide)]
theorem roundsFr_le (f g : Nat → Nat) (s0 : List Bool) : ∀ i, (roundsFr f g n s0 i).2 ≤ i := by
  intro i
  induction i with
  | zero => simp [roundsFr]
  | succ i ih =>
    simp only [roundsFr]
    split <;> (try dsimp only) <;> omega
theorem roundsFr_cl {f g : Nat → Nat} {s0 : List Bool} (c : Cl n f g s0) : ∀ i, i ≤ n → Cl n f g (roundsFr f g n s0 i).1 := by
  intro i
  induction i with
  | zero => intro _; exact c
  | succ i ih =>
    intro hi
    have ci := ih (by omega)
    obtain ⟨⟨s, k⟩, hr⟩ : ∃ r, roundsFr f g n s0 i = r := ⟨_, rfl⟩
    rw [hr] at ci
    cases hs : s.getD i false with
    | true => rw [roundsFr_seen hr hs]; exact ci
    | false =>
      rw [roundsFr_new hr hs]
      exact trail_cl ci (by omega) hs (by rw [← ci.1]; exact List.count_le_length)
theorem roundsFr_swap {f g : Nat → Nat} {s0 : List Bool} (c : Cl n f g s0) : ∀ i, i ≤ n → roundsFr f g n s0 i = roundsFr g f n s0 i := by
  intro i
  induction i with
  | zero => intro _; rfl
  | succ i ih =>
    intro hi
    have e := ih (by omega)
    have ci := roundsFr_cl c i (by omega)
    obtain ⟨⟨s, k⟩, hr⟩ : ∃ r, roundsFr f g n s0 i = r := ⟨_, rfl⟩
    rw [hr] at e ci
    cases hs : s.getD i false with
    | true => rw [roundsFr_seen hr hs, roundsFr_seen e.symm hs]
    | false => rw [roundsFr_new hr hs, roundsFr_new e.symm hs, trail_swap ci (by omega) hs (by rw [← ci.1]; exact List.count_le_length)]
end

end Go.Proofs.Ytdfdlnjijccpeaa
