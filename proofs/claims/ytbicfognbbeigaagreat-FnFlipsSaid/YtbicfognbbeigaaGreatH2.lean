/-
  Contracts of rows of texts that are equal, marked and held are proved.
  They hold for all rows of moderate length.
-/
import Derived.Test.YtbicfognbbeigaaGreatH1
import Derived.Test.YtbicfognbbeigaaGreatGX
import Derived.Test.YtbicfognbbeigaaGreatGY
set_option linter.unusedVariables false
set_option linter.unusedSimpArgs false
namespace Go.Proofs.YtbicfognbbeigaaGreat
open Go.Proofs.YtbicfognbbeigaaGreat.Ab Go.Proofs.YtbicfognbbeigaaGreat.Pl

theorem digits_len : ∀ n k, k < 10 ^ n → (digits k).length ≤ n := by
  intro n
  induction n with
  | zero => intro k h; have : k = 0 := by omega
            subst this; rw [digits_zero]; exact Nat.le_refl _
  | succ n ih =>
    intro k h
    by_cases e : k = 0
    · subst e; rw [digits_zero]; exact Nat.zero_le _
    · rw [digits_pos e, List.length_append]
      have := ih (k / 10) (by rw [Nat.pow_succ] at h; omega)
      simp only [List.length_cons, List.length_nil]
      omega


/-- marked texts -/
def mtab (k n : Nat) : List (List UInt8) := (List.range n).map fun j => markT (k + j)


theorem mtab_set (l : List (List UInt8)) (k j : Nat) (h : j < l.length) : (mtab k j ++ l.drop j).set j (markT (k + j)) = mtab k (j + 1) ++ l.drop (j + 1) := by
  have e : (mtab k j).length = j := by simp [mtab]
  rw [List.set_append_right _ _ (by omega), e, Nat.sub_self, List.drop_eq_getElem_cons h, List.set_cons_zero]
  simp [mtab, List.range_succ]



end Go.Proofs.YtbicfognbbeigaaGreat

/-
  Contracts of the lists of words of Fuss are proved.
  They hold for all arguments.
-/
set_option linter.unusedVariables false
set_option linter.unusedSimpArgs false
namespace Go.Proofs.YtbicfognbbeigaaGreat
open Go.Proofs.YtbicfognbbeigaaGreat.Ab Go.Proofs.YtbicfognbbeigaaGreat.Pl

/-- words that go on, u before d -/
def fussAll (m : Nat) : Nat → List UInt8 → Nat → Nat → List (List UInt8)
  | 0, _, _, _ => []
  | f + 1, w, up, h => if up = 0 ∧ h = 0 then [w] else (if 0 < up then fussAll m f (w ++ [117]) (up - 1) (h + m - 1) else []) ++ (if 0 < h then fussAll m f (w ++ [100]) up (h - 1) else [])

theorem fussAll_len (m : Nat) : ∀ f w up h, (fussAll m f w up h).length ≤ 2 ^ f := by
  intro f
  induction f with
  | zero => intro w up h; simp [fussAll]
  | succ f ih =>
    intro w up h
    have := Nat.pow_succ 2 f
    have p := Nat.pow_pos (n := f) (show 0 < 2 by decide)
    have a := ih (w ++ [117]) (up - 1) (h + m - 1)
    have b := ih (w ++ [100]) up (h - 1)
    simp only [fussAll]
    split
    · simp; omega
    · rw [List.length_append]
      split <;> split <;> simp <;> omega


end Go.Proofs.YtbicfognbbeigaaGreat

/-
  Contracts of functions that gather words in a variable that an inner function shares are proved: words of Fuss.
  They hold for all arguments.
-/
set_option linter.unusedVariables false
set_option linter.unusedSimpArgs false
namespace Go.Proofs.YtbicfognbbeigaaGreat
open Go.Proofs.YtbicfognbbeigaaGreat.Ab Go.Proofs.YtbicfognbbeigaaGreat.Pl

/-- the blocks of an inner function that gathers: itself, the shared variable, its row, a number -/
abbrev accL (F pm po b pq N : Nat) (m : Int) (out : List (List UInt8)) (R : List (Nat × Blk)) : List (Nat × Blk) :=
  (pm, row [.func F [.ptr po 0, .ptr pm 0, .ptr pq 0]]) :: (po, row [.slice b 0 N N]) :: (b, row (strs out)) :: (pq, row [.int .i64 m]) :: R


/-- the words of Fuss, and whether there are some -/
def fussP (m n : Int) : List (List UInt8) × Bool := if (1 ≤ m ∧ m ≤ 4) ∧ 0 ≤ n ∧ n ≤ 4 then (fussAll m.toNat 25 [] n.toNat 0, true) else ([], false)
theorem fussP_len (m n : Int) : (fussP m n).1.length ≤ 33554432 := by
  unfold fussP
  split
  · exact fussAll_len _ 25 _ _ _
  · simp





end Go.Proofs.YtbicfognbbeigaaGreat

/-
  Contracts of matchings without crossings are proved.
  They hold for all rows of numbers.
-/
set_option linter.unusedVariables false
set_option linter.unusedSimpArgs false
namespace Go.Proofs.YtbicfognbbeigaaGreat
open Go.Proofs.YtbicfognbbeigaaGreat.Ab Go.Proofs.YtbicfognbbeigaaGreat.Pl

theorem fill_len {α : Type} (A B : List α) (k : Nat) (e : A.length = B.length) : (A.take k ++ B.drop k).length = B.length := by
  simp
  omega
theorem fill_set {α : Type} (A B : List α) (d : α) (k : Nat) (ha : k < A.length) (hb : k < B.length) : (A.take k ++ B.drop k).set k (A.getD k d) = A.take (k + 1) ++ B.drop (k + 1) := by
  have e : (A.take k).length = k := by simp; omega
  have e2 : A.getD k d = A[k] := by simp [List.getD, ha]
  rw [List.set_append_right _ _ (by omega), e, Nat.sub_self, List.drop_eq_getElem_cons hb, List.set_cons_zero, e2, List.take_succ_eq_append_getElem ha, List.append_assoc]
  rfl
theorem fill_all {α : Type} (A B : List α) (k : Nat) (e : A.length = B.length) (h : k = A.length) : A.take k ++ B.drop k = A := by
  subst h
  rw [List.take_length, List.drop_eq_nil_of_le (by omega), List.append_nil]


/-- a place of a matching is as it must be -/
def okAt (l : List Int) (i : Nat) : Prop := (0 ≤ l.getD i 0 ∧ l.getD i 0 ≤ (l.length : Int) - 1) ∧ l.getD i 0 ≠ i ∧ l.getD (l.getD i 0).toNat 0 = i
instance (l : List Int) (i : Nat) : Decidable (okAt l i) := by unfold okAt; infer_instance
def isM (l : List Int) : Bool := decide (l.length ≤ 16 ∧ ∀ i, i < l.length → okAt l i)
def crossAt (l : List Int) (a c : Nat) : Prop := a < c ∧ (c : Int) < l.getD a 0 ∧ l.getD a 0 < l.getD c 0
instance (l : List Int) (a c : Nat) : Decidable (crossAt l a c) := by unfold crossAt; infer_instance
def crossless (l : List Int) (i j : Nat) : Prop := ∀ a c, c < l.length → (a < i ∨ (a = i ∧ c < j)) → ¬ crossAt l a c
def isNC (l : List Int) : Bool := isM l && decide (∀ a, a < l.length → ∀ c, c < l.length → ¬ crossAt l a c)
theorem isM_spec {l : List Int} (h : isM l = true) : l.length ≤ 16 ∧ ∀ i, i < l.length → okAt l i := of_decide_eq_true h
theorem isNC_spec {l : List Int} (h : isNC l = true) : isM l = true := by
  unfold isNC at h
  simp only [Bool.and_eq_true] at h
  exact h.1

theorem crossless_zero (l : List Int) : crossless l 0 0 := fun a c _ h => by omega
theorem crossless_hit {l : List Int} {i j : Nat} (hj : j < l.length) (h : crossAt l i j) : ¬ crossless l i (j + 1) := fun n => n i j hj (.inr ⟨rfl, by omega⟩) h
theorem crossless_miss {l : List Int} {i j : Nat} (h : ¬ crossAt l i j) : crossless l i (j + 1) ↔ crossless l i j := by
  constructor
  · exact fun n a c hc hh => n a c hc (by omega)
  · intro n a c hc hh
    by_cases e : a = i ∧ c = j
    · rw [e.1, e.2]; exact h
    · exact n a c hc (by omega)
theorem crossless_row {l : List Int} {i j : Nat} (hj : l.length ≤ j) : crossless l (i + 1) 0 ↔ crossless l i j := by
  constructor
  · exact fun n a c hc hh => n a c hc (by omega)
  · exact fun n a c hc hh => n a c hc (by omega)
theorem crossless_start {l : List Int} {i : Nat} : crossless l i (i + 1) ↔ crossless l i 0 := by
  constructor
  · exact fun n a c hc hh => n a c hc (by omega)
  · intro n a c hc hh
    by_cases e : a = i
    · subst e
      intro hx
      unfold crossAt at hx
      omega
    · exact n a c hc (by omega)
theorem crossless_all {l : List Int} (i : Nat) (h : l.length ≤ i) : crossless l i 0 ↔ ∀ a, a < l.length → ∀ c, c < l.length → ¬ crossAt l a c := by
  constructor
  · exact fun n a ha c hc => n a c hc (.inl (by omega))
  · intro n a c hc hh hx
    exact n a (by unfold crossAt at hx; omega) c hc hx


theorem isM_all {l : List Int} (h : ∀ i, i < l.length → okAt l i) : isM l = decide ((l.length : Int) ≤ 16) := decide_eq_decide.2 ⟨fun g => by have := g.1; omega, fun g => ⟨by omega, h⟩⟩



theorem beq_zero (k : Nat) : ((k : Int) == 0) = decide (k = 0) := by
  cases k <;> rfl
theorem isNC_of {l : List Int} (h : isM l = true) {p : Prop} [Decidable p] (g : p ↔ ∀ a, a < l.length → ∀ c, c < l.length → ¬ crossAt l a c) : decide p = isNC l := by
  unfold isNC
  rw [h, Bool.true_and]
  exact decide_eq_decide.2 g



def isD (l : List Int) : Bool := decide (2 ≤ (l.length : Int)) && isNC l
theorem isD_spec {l : List Int} (h : isD l = true) : 2 ≤ l.length ∧ isNC l = true := by
  unfold isD at h
  simp only [Bool.and_eq_true, decide_eq_true_eq] at h
  exact ⟨by omega, h.2⟩





/-- the arcs from above to below, among the first points -/
def thrTo (l : List Int) : Nat → Nat
  | 0 => 0
  | i + 1 => thrTo l i + if ((l.length / 2 : Nat) : Int) ≤ l.getD i 0 then 1 else 0
theorem thrTo_le (l : List Int) : ∀ i, thrTo l i ≤ i
  | 0 => Nat.le_refl _
  | i + 1 => by
    have := thrTo_le l i
    simp only [thrTo]
    split <;> omega
def thr (l : List Int) : Int := if isD l = true then (thrTo l (l.length / 2) : Int) else -1

theorem half_len (n : Nat) : (n : Int).tdiv 2 = ((n / 2 : Nat) : Int) := rfl




/-- a law's row, in its two forms -/
theorem intsArg_two {h : H} {v : AV} (m : IntsArg h v) : ∃ l, bdI l ∧ l.length ≤ 9223372036854775807 ∧ CellsAt h v (ints l) ∧ ((v = .nilslice ∧ l = []) ∨ ∃ b c, v = .slice b 0 l.length c) := by
  obtain ⟨l, bd, hl, hv⟩ := m
  refine ⟨l, bd, hl, hv, ?_⟩
  rcases hv with ⟨rfl, e⟩ | ⟨b, c, rfl, hb⟩
  · exact .inl ⟨rfl, List.eq_nil_of_length_eq_zero (by rw [← ints_length, e]; rfl)⟩
  · exact .inr ⟨b, c, by rw [ints_length]⟩



end Go.Proofs.YtbicfognbbeigaaGreat

/-
  Plain laws of matchings and of loops of two of them are proved.
  They hold for all rows of numbers.
-/
set_option linter.unusedVariables false
set_option linter.unusedSimpArgs false
namespace Go.Proofs.YtbicfognbbeigaaGreat
open Go.Proofs.YtbicfognbbeigaaGreat.Ab Go.Proofs.YtbicfognbbeigaaGreat.Pl

/-- a row as a map of places -/
def ga (l : List Int) (i : Nat) : Nat := (l.getD i 0).toNat
theorem okAt_ga {l : List Int} {i : Nat} (h : okAt l i) (hi : i < l.length) : ga l i < l.length ∧ ga l i ≠ i ∧ l.getD i 0 = ga l i ∧ l.getD (ga l i) 0 = i := by
  obtain ⟨⟨h1, h2⟩, h3, h4⟩ := h
  unfold ga
  refine ⟨by omega, by omega, by omega, h4⟩
theorem isM_ga {l : List Int} (h : isM l = true) {i : Nat} (hi : i < l.length) : ga l i < l.length ∧ ga l i ≠ i ∧ l.getD i 0 = ga l i ∧ ga l (ga l i) = i := by
  obtain ⟨h1, h2, h3, h4⟩ := okAt_ga ((isM_spec h).2 i hi) hi
  exact ⟨h1, h2, h3, by rw [ga, h4]; rfl⟩

/-- an involution without fixed points moves evenly many things -/
theorem even_of_inv (n : Nat) (m : Nat → Nat) (h1 : ∀ i, i < n → m i < n) (h2 : ∀ i, i < n → m i ≠ i) (h3 : ∀ i, i < n → m (m i) = i) : n % 2 = 0 := by
  have hp : ((List.range n).map m).Perm (List.range n) := by
    refine (List.perm_ext_iff_of_nodup ?_ List.nodup_range).2 fun x => ?_
    · refine List.pairwise_map.2 (List.Pairwise.imp_of_mem (fun {a b} ha hb hne e => hne ?_) List.nodup_range)
      rw [← h3 a (List.mem_range.1 ha), ← h3 b (List.mem_range.1 hb), e]
    · constructor
      · intro hx
        obtain ⟨i, hi, rfl⟩ := List.mem_map.1 hx
        exact List.mem_range.2 (h1 i (List.mem_range.1 hi))
      · intro hx
        have hx := List.mem_range.1 hx
        exact List.mem_map.2 ⟨m x, List.mem_range.2 (h1 x hx), h3 x hx⟩
  have e1 := hp.countP_eq (fun i => decide (i < m i))
  rw [List.countP_map] at e1
  have e2 : List.countP ((fun i => decide (i < m i)) ∘ m) (List.range n) = List.countP (fun i => decide (¬ (decide (i < m i)) = true)) (List.range n) := by
    refine List.countP_congr fun i hi => ?_
    have hi := List.mem_range.1 hi
    have a := h2 i hi
    have b := h3 i hi
    simp only [Function.comp, decide_eq_true_eq, b]
    omega
  have e3 := List.length_eq_countP_add_countP (fun i => decide (i < m i)) (l := List.range n)
  rw [List.length_range] at e3
  omega
theorem isM_even {l : List Int} (h : isM l = true) : l.length % 2 = 0 :=
  even_of_inv l.length (ga l) (fun i hi => (isM_ga h hi).1) (fun i hi => (isM_ga h hi).2.1) fun i hi => (isM_ga h hi).2.2.2

/-! marks -/
theorem count_mark {s : List Bool} {x : Nat} (hx : x < s.length) (h : s.getD x false = false) : (s.set x true).count false + 1 = s.count false := by
  have e : s[x] = false := by simpa [List.getD, hx] using h
  rw [List.count_set hx, e]
  have : 0 < s.count false := List.count_pos_iff.2 (by rw [← e]; exact List.getElem_mem hx)
  simp
  omega
theorem count_more {s : List Bool} {x : Nat} (hx : x < s.length) : (s.set x true).count false ≤ s.count false := by
  rw [List.count_set hx]
  simp
theorem count_zero {s : List Bool} (h : s.count false = 0) {x : Nat} (hx : x < s.length) : s.getD x false = true := by
  have := List.count_eq_zero.1 h
  cases e : s.getD x false with
  | true => rfl
  | false =>
    exfalso
    apply this
    have e2 : s[x] = false := by simpa [List.getD, hx] using e
    rw [← e2]
    exact List.getElem_mem hx

/-- one loop is gone round: two maps in turn, all places are marked -/
def trail (f g : Nat → Nat) : Nat → List Bool → Nat → List Bool
  | 0, s, _ => s
  | k + 1, s, x => if s.getD x false then s else trail f g k ((s.set x true).set (f x) true) (g (f x))
theorem trail_seen (f g : Nat → Nat) (k : Nat) {s : List Bool} {x : Nat} (h : s.getD x false = true) : trail f g k s x = s := by
  cases k with
  | zero => rfl
  | succ k => simp only [trail]; rw [if_pos h]
theorem trail_step (f g : Nat → Nat) (k : Nat) {s : List Bool} {x : Nat} (h : s.getD x false = false) : trail f g (k + 1) s x = trail f g k ((s.set x true).set (f x) true) (g (f x)) := by
  simp only [trail]
  rw [if_neg (by rw [h]; decide)]
theorem trail_len (f g : Nat → Nat) : ∀ (k : Nat) (s : List Bool) (x : Nat), (trail f g k s x).length = s.length := by
  intro k
  induction k with
  | zero => intro s x; rfl
  | succ k ih =>
    intro s x
    simp only [trail]
    split
    · rfl
    · rw [ih]; simp
/-- all loops, from each place that has no mark yet -/
def roundsTo (f g : Nat → Nat) (n : Nat) : Nat → List Bool × Nat
  | 0 => (List.replicate n false, 0)
  | i + 1 => let r := roundsTo f g n i
    if r.1.getD i false then r else (trail f g n r.1 i, r.2 + 1)
theorem roundsTo_len (f g : Nat → Nat) (n : Nat) : ∀ i, (roundsTo f g n i).1.length = n := by
  intro i
  induction i with
  | zero => simp [roundsTo]
  | succ i ih =>
    simp only [roundsTo]
    split
    · exact ih
    · rw [trail_len]; exact ih
theorem roundsTo_le (f g : Nat → Nat) (n : Nat) : ∀ i, (roundsTo f g n i).2 ≤ i := by
  intro i
  induction i with
  | zero => simp [roundsTo]
  | succ i ih =>
    simp only [roundsTo]
    split <;> (try dsimp only) <;> omega
theorem roundsTo_seen {f g : Nat → Nat} {n i k : Nat} {s : List Bool} (e : roundsTo f g n i = (s, k)) (h : s.getD i false = true) : roundsTo f g n (i + 1) = (s, k) := by
  simp only [roundsTo, e]
  rw [if_pos h]
theorem roundsTo_new {f g : Nat → Nat} {n i k : Nat} {s : List Bool} (e : roundsTo f g n i = (s, k)) (h : s.getD i false = false) : roundsTo f g n (i + 1) = (trail f g n s i, k + 1) := by
  simp only [roundsTo, e]
  rw [if_neg (by rw [h]; decide)]
def loopsN (f g : Nat → Nat) (n : Nat) : Nat := (roundsTo f g n n).2
/-- the loops of two matchings -/
def loopsOf (a b : List Int) : Int := if isNC a = true ∧ isNC b = true ∧ a.length = b.length then (loopsN (ga a) (ga b) a.length : Int) else -1

end Go.Proofs.YtbicfognbbeigaaGreat

/-
  Contracts of loops of matchings are proved.
  They hold for all rows of numbers.
-/
set_option linter.unusedVariables false
set_option linter.unusedSimpArgs false
namespace Go.Proofs.YtbicfognbbeigaaGreat
open Go.Proofs.YtbicfognbbeigaaGreat.Ab Go.Proofs.YtbicfognbbeigaaGreat.Pl

theorem loopsOf_yes {a b : List Int} (ha : isNC a = true) (hb : isNC b = true) (he : a.length = b.length) : loopsOf a b = (loopsN (ga a) (ga b) a.length : Int) := if_pos ⟨ha, hb, he⟩
/-- the maps that loops follow stay among the places -/
def into (l : List Int) (n : Nat) : Prop := ∀ i, i < n → l.getD i 0 = ga l i ∧ ga l i < n
theorem into_of {l : List Int} (h : isM l = true) : into l l.length := fun i hi => ⟨(isM_ga h hi).2.2.1, (isM_ga h hi).1⟩








end Go.Proofs.YtbicfognbbeigaaGreat

/-
  Contracts of diagrams that are closed or flipped, and of matchings that are turned, are proved.
  They hold for all rows of numbers.
-/
set_option linter.unusedVariables false
set_option linter.unusedSimpArgs false
namespace Go.Proofs.YtbicfognbbeigaaGreat
open Go.Proofs.YtbicfognbbeigaaGreat.Ab Go.Proofs.YtbicfognbbeigaaGreat.Pl


theorem idD_len (n : Nat) : (idD n).length = 2 * n := by simp [idD]
theorem ga_idD {n i : Nat} (h : i < 2 * n) : (idD n).getD i 0 = ((2 * n - 1 - i : Nat) : Int) ∧ ga (idD n) i = 2 * n - 1 - i := by
  have e : (idD n).getD i 0 = ((2 * n - 1 - i : Nat) : Int) := by
    rw [idD, tab_getD _ h]
    omega
  exact ⟨e, by rw [ga, e]; rfl⟩
def traceL (l : List Int) : Int := if isD l = true then (loopsN (ga l) (ga (idD (l.length / 2))) l.length : Int) else -1




/-- a diagram upside down, so many points of it -/
def flipTo (l : List Int) : Nat → List Int
  | 0 => List.replicate l.length 0
  | i + 1 => (flipTo l i).set ((l.length : Int) - 1 - (i : Int)).toNat ((l.length : Int) - 1 - l.getD i 0)
theorem flipTo_len (l : List Int) : ∀ i, (flipTo l i).length = l.length := by
  intro i
  induction i with
  | zero => simp [flipTo]
  | succ i ih => simp [flipTo, ih]
def flipD (l : List Int) : List Int × Bool := if isD l = true then (flipTo l l.length, true) else ([], false)
theorem flipD_len (l : List Int) : (flipD l).1.length ≤ 16 := by
  unfold flipD
  split
  · rename_i h
    have := (isM_spec (isNC_spec (isD_spec h).2)).1
    rw [flipTo_len]
    exact this
  · simp





/-- a matching turned, so many points of it -/
def turnTo (l : List Int) (k : Int) : Nat → List Int
  | 0 => List.replicate l.length 0
  | i + 1 => (turnTo l k i).set (((i : Int) - k + l.length).tmod l.length).toNat ((l.getD i 0 - k + l.length).tmod l.length)
theorem turnTo_len (l : List Int) (k : Int) : ∀ i, (turnTo l k i).length = l.length := by
  intro i
  induction i with
  | zero => simp [turnTo]
  | succ i ih => simp [turnTo, ih]
def turnOk (l : List Int) (k : Int) : Prop := isM l = true ∧ 0 ≤ k ∧ k ≤ max 0 ((l.length : Int) - 1)
instance (l : List Int) (k : Int) : Decidable (turnOk l k) := by unfold turnOk; infer_instance
def turnM (l : List Int) (k : Int) : List Int × Bool := if turnOk l k then (turnTo l k l.length, true) else ([], false)
theorem turnM_len (l : List Int) (k : Int) : (turnM l k).1.length ≤ 16 := by
  unfold turnM
  split
  · rename_i h
    have := (isM_spec h.1).1
    rw [turnTo_len]
    exact this
  · simp
theorem tmod_in {a n : Int} (ha : 0 ≤ a) (hn : 0 < n) : 0 ≤ a.tmod n ∧ a.tmod n < n := ⟨Int.tmod_nonneg _ ha, Int.tmod_lt_of_pos _ hn⟩



/-- two rows and whether there are some -/
def Ret2 (x y : List Int) (t : Bool) (h0 : H) (v : AV) (h' : H) : Prop := ∃ b c, v = .tup [.slice b 0 x.length x.length, .slice c 0 y.length y.length, .bool t] ∧ St h0 h' [(c, row (ints y)), (b, row (ints x))]
def turn2 (l m : List Int) : List Int × List Int × Bool := if loopsOf l m < 1 then ([], [], false) else ((turnM l 1).1, (turnM m 1).1, true)
theorem turn2_len (l m : List Int) : (turn2 l m).1.length ≤ 16 ∧ (turn2 l m).2.1.length ≤ 16 := by
  unfold turn2
  split
  · simp
  · exact ⟨turnM_len l 1, turnM_len m 1⟩




end Go.Proofs.YtbicfognbbeigaaGreat

/-
  Contracts of words of Fuss that are joined, ranked and split are proved.
  They hold for all arguments.
-/
set_option linter.unusedVariables false
set_option linter.unusedSimpArgs false
namespace Go.Proofs.YtbicfognbbeigaaGreat
open Go.Proofs.YtbicfognbbeigaaGreat.Ab Go.Proofs.YtbicfognbbeigaaGreat.Pl

theorem strsArg_two {h : H} {v : AV} (m : StrsArg h v) : ∃ l, (∀ s ∈ l, s.length ≤ 9223372036854775807) ∧ l.length ≤ 9223372036854775807 ∧ CellsAt h v (strs l) ∧ ((v = .nilslice ∧ l = []) ∨ ∃ b c, v = .slice b 0 l.length c) := by
  obtain ⟨l, bd, hl, hv⟩ := m
  refine ⟨l, bd, hl, hv, ?_⟩
  rcases hv with ⟨rfl, e⟩ | ⟨b, c, rfl, hb⟩
  · exact .inl ⟨rfl, List.eq_nil_of_length_eq_zero (by rw [← strs_length, e]; rfl)⟩
  · exact .inr ⟨b, c, by rw [strs_length]⟩
theorem getD_bd {l : List (List UInt8)} {M : Nat} (h : ∀ s ∈ l, s.length ≤ M) (i : Nat) : (l.getD i []).length ≤ M := by
  by_cases hi : i < l.length
  · rw [List.getD, List.getElem?_eq_getElem hi]
    exact h _ (List.getElem_mem hi)
  · rw [List.getD, List.getElem?_eq_none (by omega)]
    exact Nat.zero_le _



/-- words that are joined by d, so many of them -/
def glueTo (l : List (List UInt8)) : Nat → List UInt8
  | 0 => []
  | i + 1 => (glueTo l i ++ (if 0 < i then [100] else [])) ++ l.getD i []
theorem glueTo_len {l : List (List UInt8)} (h : ∀ i, (l.getD i []).length ≤ 24) : ∀ i, (glueTo l i).length ≤ 25 * i := by
  intro i
  induction i with
  | zero => simp [glueTo]
  | succ i ih =>
    have := h i
    simp only [glueTo, List.length_append]
    split <;> simp only [List.length_cons, List.length_nil] <;> omega
def joinOk (m : Int) (l : List (List UInt8)) : Prop := (1 ≤ m ∧ m ≤ 4) ∧ (l.length : Int) = m ∧ (∀ i, i < l.length → isFuss m (l.getD i []) = true) ∧ isFuss m (117 :: glueTo l l.length) = true
instance (m : Int) (l : List (List UInt8)) : Decidable (joinOk m l) := by unfold joinOk; infer_instance
def joinF (m : Int) (l : List (List UInt8)) : List UInt8 × Bool := if joinOk m l then (117 :: glueTo l l.length, true) else ([], false)
theorem isFuss_len {m : Int} {w : List UInt8} (h : isFuss m w = true) : (1 ≤ m ∧ m ≤ 4) ∧ w.length ≤ 24 := by
  unfold isFuss at h
  simp only [Bool.and_eq_true, decide_eq_true_eq] at h
  exact h.1

theorem glued_ok (l : List (List UInt8)) (b C : Nat) (h0 : H) (hb : Has h0 b (strs l)) (hl : l.length ≤ 4) (hw : ∀ i, (l.getD i []).length ≤ 24) : AC env 106 [.slice b 0 l.length C, .str [100]] h0 fun v h' => v = .str (glueTo l l.length) ∧ h' = h0 := by
  refine AC.enter Tryz.func106 Tryz.call106 rfl Tryz.ntmps106 (of_decide_eq_true (by rfl)) ?_
  repeat' (first
    | refine AW.seq ?_
    | (refine AW.region ?_; conv => whnf)
    | refine AW.block ?_)
  refine AW.loop2 (fun (s : List UInt8) (i : Nat) => [(1, .str [100]), (5, .str s), (8, .slice b 0 l.length C), (9, .int .i64 l.length), (10, .int .i64 i)]) (fun s i h' => i ≤ l.length ∧ s = glueTo l i ∧ h' = h0) (fun _ i => l.length - i) [] 0
    (Less.cons rfl (Less.cons rfl (Less.cons rfl (Less.cons rfl (Less.cons rfl (Less.nil _)))))) ⟨by omega, rfl, rfl⟩ ?_
  rintro s i h1 ⟨hi, rfl, rfl⟩
  have bi : (l.getD (i : Int).toNat []).length ≤ 24 := hw i
  have bg := glueTo_len hw i
  repeat' (first
    | refine AW.seq ?_
    | (refine AW.region ?_; conv => whnf)
    | refine AW.block ?_
    | (refine AW.skip ?_; conv => whnf)
    | (refine AW.ret ?_; conv => whnf)
    | (refine AW.exit ?_; conv => whnf)
    | refine AW.cond (by rfl) ?_
    | (refine Br.dec (fun hc => ?_) (fun hc => ?_) <;> conv => whnf)
    | (refine Wr.i64 (by omega) ?_; conv => whnf)
    | (refine Ck.mk (by omega) ?_; conv => whnf)
    | (refine Ck.mk (by simp only [List.length_drop, List.length_take, List.length_append, List.length_cons, List.length_nil]; omega) ?_; conv => whnf)
    | (refine Has.loadS (by first | assumption | exact St.has (by assumption) (by repeat first | exact .head _ | apply List.Mem.tail) | exact St.arg (by assumption) (by assumption)) rfl (by first | (simp; done) | omega | (simp only [List.length_set, List.length_append, List.length_cons, List.length_nil, List.length_replicate, tab_length]; omega) | (simp; omega)) ?_; conv => whnf))
  · exact ⟨_, i + 1, (Less.cons rfl (Less.cons rfl (Less.cons rfl (Less.cons rfl (Less.cons rfl (Less.nil _)))))), ⟨by omega, by rw [glueTo, if_pos (by omega)]; rfl, rfl⟩, by omega⟩
  · exact ⟨_, i + 1, (Less.cons rfl (Less.cons rfl (Less.cons rfl (Less.cons rfl (Less.cons rfl (Less.nil _)))))), ⟨by omega, by rw [glueTo, if_neg (by omega), List.append_nil]; rfl, rfl⟩, by omega⟩
  · rw [show i = l.length by omega]
    exact ⟨rfl, rfl⟩




/-- the first place of a word in a list, or -1 -/
def rankIn (l : List (List UInt8)) (w : List UInt8) : Int := if l.findIdx (· == w) < l.length then (l.findIdx (· == w) : Int) else -1
theorem rankIn_hit {l : List (List UInt8)} {w : List UInt8} {i : Nat} (hi : i < l.length) (h : l.getD i [] = w) (no : ∀ j, j < i → l.getD j [] ≠ w) : rankIn l w = i := by
  have e : l.findIdx (· == w) = i := by
    refine (List.findIdx_eq hi).2 ⟨?_, fun j hj => ?_⟩
    · have : l[i] = w := by simpa [List.getD, hi] using h
      simp [this]
    · have := no j hj
      have hj2 : j < l.length := by omega
      have h3 : ¬ l[j] = w := by simpa [List.getD, hj2] using this
      simp [h3]
  unfold rankIn
  rw [e, if_pos hi]
theorem rankIn_none {l : List (List UInt8)} {w : List UInt8} (no : ∀ j, j < l.length → l.getD j [] ≠ w) : rankIn l w = -1 := by
  unfold rankIn
  rw [if_neg]
  intro h
  have h2 := List.findIdx_getElem (w := h)
  have := no _ h
  rw [List.getD, List.getElem?_eq_getElem h] at this
  exact this (by simpa using h2)
def rankF (m : Int) (w : List UInt8) : Int := if isFuss m w = true then rankIn (fussP m (cntB w 117)).1 w else -1




/-- the height of a word of Fuss behind so many letters -/
def hF (m : Int) (w : List UInt8) (i : Nat) : Int := (walkH (m - 1) (-1) false (w.take i) 0).getD 0
theorem hF_step {m : Int} {w : List UInt8} (h : isFuss m w = true) {i : Nat} (hi : i < w.length) : 0 ≤ hF m w i ∧ hF m w i ≤ 72 ∧ 0 ≤ hF m w (i + 1) ∧ ((w.getD i 0 = 117 ∧ hF m w (i + 1) = hF m w i + m - 1) ∨ (w.getD i 0 = 100 ∧ hF m w (i + 1) = hF m w i - 1)) := by
  have hb := isFuss_len h
  have hw : walkH (m - 1) (-1) false w 0 = some 0 := by
    unfold isFuss at h
    simp only [Bool.and_eq_true, beq_iff_eq] at h
    exact h.2
  cases hx : walkH (m - 1) (-1) false (w.take i) 0 with
  | none => rw [walkH_take_none hx] at hw; cases hw
  | some g =>
    have e : hF m w i = g := by rw [hF, hx]; rfl
    have bd := walkH_bd (by omega) (by omega) _ _ _ (by omega) hx
    have bl : (w.take i).length ≤ 24 := by simp; omega
    have b2 : (m - 1) * ((w.take i).length : Int) ≤ 3 * 24 := Int.mul_le_mul (by omega) (by omega) (by omega) (by omega)
    rw [e]
    by_cases h1 : w.getD i 0 = 117
    · have hst : stepOf (m - 1) (-1) false (w.getD i 0) = some (m - 1) := stepOf_u ((byte_117 _).2 h1)
      have nx := walkH_next hi hx hst (by omega)
      have e2 : hF m w (i + 1) = g + (m - 1) := by rw [hF, nx]; rfl
      exact ⟨by omega, by omega, by omega, .inl ⟨h1, by omega⟩⟩
    · by_cases h2 : w.getD i 0 = 100
      · have hst : stepOf (m - 1) (-1) false (w.getD i 0) = some (-1) := stepOf_d ((byte_100 _).2 h2)
        by_cases hlow : g + (-1) < 0
        · rw [walkH_low hi hx hst hlow] at hw; cases hw
        · have nx := walkH_next hi hx hst hlow
          have e2 : hF m w (i + 1) = g + (-1) := by rw [hF, nx]; rfl
          exact ⟨by omega, by omega, by omega, .inr ⟨h2, by omega⟩⟩
      · rw [walkH_bad hi hx (stepOf_no (fun e => h1 ((byte_117 _).1 e)) (fun e => h2 ((byte_100 _).1 e)) (.inr rfl))] at hw
        cases hw
theorem hF_zero (m : Int) (w : List UInt8) : hF m w 0 = 0 := rfl
theorem hF_end {m : Int} {w : List UInt8} (h : isFuss m w = true) : hF m w w.length = 0 := by
  have hw : walkH (m - 1) (-1) false w 0 = some 0 := by
    unfold isFuss at h
    simp only [Bool.and_eq_true, beq_iff_eq] at h
    exact h.2
  rw [hF, List.take_length, hw]
  rfl

/-- the parts that are cut off before a place, where the next one begins, and its height -/
def splTo (m : Int) (w : List UInt8) : Nat → List (List UInt8) × Nat × Int
  | 0 => ([], 1, m - 1)
  | i + 1 => let r := splTo m w i
    if 0 < i ∧ 0 < r.2.2 ∧ w.getD i 0 ≠ 117 ∧ hF m w (i + 1) < r.2.2 then (r.1 ++ [(w.take i).drop r.2.1], i + 1, r.2.2 - 1) else r
theorem splTo_cut {m : Int} {w : List UInt8} {i f : Nat} {o : List (List UInt8)} {lv : Int} (e : splTo m w i = (o, f, lv)) (h : 0 < i ∧ 0 < lv ∧ w.getD i 0 ≠ 117 ∧ hF m w (i + 1) < lv) : splTo m w (i + 1) = (o ++ [(w.take i).drop f], i + 1, lv - 1) := by
  simp only [splTo, e]
  rw [if_pos h]
theorem splTo_on {m : Int} {w : List UInt8} {i f : Nat} {o : List (List UInt8)} {lv : Int} (e : splTo m w i = (o, f, lv)) (h : ¬ (0 < i ∧ 0 < lv ∧ w.getD i 0 ≠ 117 ∧ hF m w (i + 1) < lv)) : splTo m w (i + 1) = (o, f, lv) := by
  simp only [splTo, e]
  rw [if_neg h]
theorem splTo_done {m : Int} {w : List UInt8} {i f : Nat} {o : List (List UInt8)} {lv : Int} (e : splTo m w i = (o, f, lv)) (h : lv ≤ 0) : ∀ j, i ≤ j → splTo m w j = (o, f, lv) := by
  intro j
  induction j with
  | zero => intro hj; have : i = 0 := by omega
            subst this; exact e
  | succ j ih =>
    intro hj
    by_cases hij : i = j + 1
    · subst hij; exact e
    · exact splTo_on (ih (by omega)) (by omega)
theorem splTo_len (m : Int) (w : List UInt8) : ∀ i, (splTo m w i).1.length ≤ i := by
  intro i
  induction i with
  | zero => simp [splTo]
  | succ i ih =>
    simp only [splTo]
    split
    · rw [List.length_append]; simp; omega
    · omega
def finS (m : Int) (w : List UInt8) : List (List UInt8) := (splTo m w w.length).1 ++ [w.drop (splTo m w w.length).2.1]
def splitF (m : Int) (w : List UInt8) : List (List UInt8) × Bool := if isFuss m w = true ∧ w ≠ [] then (finS m w, true) else ([], false)
theorem finS_eq {m : Int} {w : List UInt8} {f : Nat} {o : List (List UInt8)} {lv : Int} (e : splTo m w w.length = (o, f, lv)) : finS m w = o ++ [w.drop f] := by rw [finS, e]
theorem splitF_len (m : Int) (w : List UInt8) : (splitF m w).1.length ≤ 25 := by
  unfold splitF
  split
  · rename_i h
    have := (isFuss_len h.1).2
    have := splTo_len m w w.length
    simp only [finS, List.length_append, List.length_cons, List.length_nil]
    omega
  · simp
def RetS (p : List (List UInt8) × Bool) (h0 : H) (v : AV) (h' : H) : Prop := ∃ b, v = .tup [.slice b 0 p.1.length p.1.length, .bool p.2] ∧ New h0 h' b (strs p.1)
theorem RetS.mk' {p : List (List UInt8) × Bool} {h0 h' : H} {b n : Nat} {l : List (List UInt8)} {t : Bool} (e : p = (l, t)) (hn : n = l.length) (m : New h0 h' b (strs l)) : RetS p h0 (.tup [.slice b 0 n n, .bool t]) h' := by
  subst e hn
  exact ⟨b, rfl, m⟩




end Go.Proofs.YtbicfognbbeigaaGreat
