/-
  Plain laws of matchings and of loops of two of them are proved.
  They hold for all rows of numbers.
-/
import Derived.Test.YthadkebcjlpkhaaH3
set_option linter.unusedVariables false
set_option linter.unusedSimpArgs false
namespace Go.Proofs.Ythadkebcjlpkhaa
open Go.Proofs.Ythadkebcjlpkhaa.Ab Go.Proofs.Ythadkebcjlpkhaa.Pl

/-- a row as a map of places -/
def ga (l : List Int) (i : Nat) : Nat := (l.getD i 0).toNat
theorem okAt_ga {l : List Int} {i : Nat} (h : okAt l i) (hi : i < l.length) : ga l i < l.length ∧ ga l i ≠ i ∧ l.getD i 0 = ga l i ∧ l.getD (ga l i) 0 = i := by
  obtain ⟨⟨h1, h2⟩, h3, h4⟩ := h
  unfold ga
  refine ⟨by omega, by omega, by omega, h4⟩
theorem isM_ga {l : List Int} (h : isM l = true) {i : Nat} (hi : i < l.length) : ga l i < l.length ∧ ga l i ≠ i ∧ l.getD i 0 = ga l i ∧ ga l (ga l i) = i := by
  obtain ⟨h1, h2, h3, h4⟩ := okAt_ga ((isM_spec h).2 i hi) hi
  exact ⟨h1, h2, h3, by rw [ga, h4]; rfl⟩

/-- an involution without fixed points moves evenly many things -/
theorem even_of_inv (n : Nat) (m : Nat → Nat) (h1 : ∀ i, i < n → m i < n) (h2 : ∀ i, i < n → m i ≠ i) (h3 : ∀ i, i < n → m (m i) = i) : n % 2 = 0 := by
  have hp : ((List.range n).map m).Perm (List.range n) := by
    refine (List.perm_ext_iff_of_nodup ?_ List.nodup_range).2 fun x => ?_
    · refine List.pairwise_map.2 (List.Pairwise.imp_of_mem (fun {a b} ha hb hne e => hne ?_) List.nodup_range)
      rw [← h3 a (List.mem_range.1 ha), ← h3 b (List.mem_range.1 hb), e]
    · constructor
      · intro hx
        obtain ⟨i, hi, rfl⟩ := List.mem_map.1 hx
        exact List.mem_range.2 (h1 i (List.mem_range.1 hi))
      · intro hx
        have hx := List.mem_range.1 hx
        exact List.mem_map.2 ⟨m x, List.mem_range.2 (h1 x hx), h3 x hx⟩
  have e1 := hp.countP_eq (fun i => decide (i < m i))
  rw [List.countP_map] at e1
  have e2 : List.countP ((fun i => decide (i < m i)) ∘ m) (List.range n) = List.countP (fun i => decide (¬ (decide (i < m i)) = true)) (List.range n) := by
    refine List.countP_congr fun i hi => ?_
    have hi := List.mem_range.1 hi
    have a := h2 i hi
    have b := h3 i hi
    simp only [Function.comp, decide_eq_true_eq, b]
    omega
  have e3 := List.length_eq_countP_add_countP (fun i => decide (i < m i)) (l := List.range n)
  rw [List.length_range] at e3
  omega
theorem isM_even {l : List Int} (h : isM l = true) : l.length % 2 = 0 :=
  even_of_inv l.length (ga l) (fun i hi => (isM_ga h hi).1) (fun i hi => (isM_ga h hi).2.1) fun i hi => (isM_ga h hi).2.2.2

/-! marks -/
theorem count_mark {s : List Bool} {x : Nat} (hx : x < s.length) (h : s.getD x false = false) : (s.set x true).count false + 1 = s.count false := by
  have e : s[x] = false := by simpa [List.getD, hx] using h
  rw [List.count_set hx, e]
  have : 0 < s.count false := List.count_pos_iff.2 (by rw [← e]; exact List.getElem_mem hx)
  simp
  omega
theorem count_more {s : List Bool} {x : Nat} (hx : x < s.length) : (s.set x true).count false ≤ s.count false := by
  rw [List.count_set hx]
  simp
theorem count_zero {s : List Bool} (h : s.count false = 0) {x : Nat} (hx : x < s.length) : s.getD x false = true := by
  have := List.count_eq_zero.1 h
  cases e : s.getD x false with
  | true => rfl
  | false =>
    exfalso
    apply this
    have e2 : s[x] = false := by simpa [List.getD, hx] using e
    rw [← e2]
    exact List.getElem_mem hx

/-- one loop is gone round: two maps in turn, all places are marked -/
def trail (f g : Nat → Nat) : Nat → List Bool → Nat → List Bool
  | 0, s, _ => s
  | k + 1, s, x => if s.getD x false then s else trail f g k ((s.set x true).set (f x) true) (g (f x))
theorem trail_seen (f g : Nat → Nat) (k : Nat) {s : List Bool} {x : Nat} (h : s.getD x false = true) : trail f g k s x = s := by
  cases k with
  | zero => rfl
  | succ k => simp only [trail]; rw [if_pos h]
theorem trail_step (f g : Nat → Nat) (k : Nat) {s : List Bool} {x : Nat} (h : s.getD x false = false) : trail f g (k + 1) s x = trail f g k ((s.set x true).set (f x) true) (g (f x)) := by
  simp only [trail]
  rw [if_neg (by rw [h]; decide)]
theorem trail_len (f g : Nat → Nat) : ∀ (k : Nat) (s : List Bool) (x : Nat), (trail f g k s x).length = s.length := by
  intro k
  induction k with
  | zero => intro s x; rfl
  | succ k ih =>
    intro s x
    simp only [trail]
    split
    · rfl
    · rw [ih]; simp
/-- all loops, from each place that has no mark yet -/
def roundsTo (f g : Nat → Nat) (n : Nat) : Nat → List Bool × Nat
  | 0 => (List.replicate n false, 0)
  | i + 1 => let r := roundsTo f g n i
    if r.1.getD i false then r else (trail f g n r.1 i, r.2 + 1)
theorem roundsTo_len (f g : Nat → Nat) (n : Nat) : ∀ i, (roundsTo f g n i).1.length = n := by
  intro i
  induction i with
  | zero => simp [roundsTo]
  | succ i ih =>
    simp only [roundsTo]
    split
    · exact ih
    · rw [trail_len]; exact ih
theorem roundsTo_le (f g : Nat → Nat) (n : Nat) : ∀ i, (roundsTo f g n i).2 ≤ i := by
  intro i
  induction i with
  | zero => simp [roundsTo]
  | succ i ih =>
    simp only [roundsTo]
    split <;> (try dsimp only) <;> omega
theorem roundsTo_seen {f g : Nat → Nat} {n i k : Nat} {s : List Bool} (e : roundsTo f g n i = (s, k)) (h : s.getD i false = true) : roundsTo f g n (i + 1) = (s, k) := by
  simp only [roundsTo, e]
  rw [if_pos h]
theorem roundsTo_new {f g : Nat → Nat} {n i k : Nat} {s : List Bool} (e : roundsTo f g n i = (s, k)) (h : s.getD i false = false) : roundsTo f g n (i + 1) = (trail f g n s i, k + 1) := by
  simp only [roundsTo, e]
  rw [if_neg (by rw [h]; decide)]
def loopsN (f g : Nat → Nat) (n : Nat) : Nat := (roundsTo f g n n).2
/-- the loops of two matchings -/
def loopsOf (a b : List Int) : Int := if isNC a = true ∧ isNC b = true ∧ a.length = b.length then (loopsN (ga a) (ga b) a.length : Int) else -1

end Go.Proofs.Ythadkebcjlpkhaa

/-
  Contracts of loops of matchings are proved.
  They hold for all rows of numbers.
-/
set_option linter.unusedVariables false
set_option linter.unusedSimpArgs false
namespace Go.Proofs.Ythadkebcjlpkhaa
open Go.Proofs.Ythadkebcjlpkhaa.Ab Go.Proofs.Ythadkebcjlpkhaa.Pl

theorem loopsOf_yes {a b : List Int} (ha : isNC a = true) (hb : isNC b = true) (he : a.length = b.length) : loopsOf a b = (loopsN (ga a) (ga b) a.length : Int) := if_pos ⟨ha, hb, he⟩
/-- the maps that loops follow stay among the places -/
def into (l : List Int) (n : Nat) : Prop := ∀ i, i < n → l.getD i 0 = ga l i ∧ ga l i < n
theorem into_of {l : List Int} (h : isM l = true) : into l l.length := fun i hi => ⟨(isM_ga h hi).2.2.1, (isM_ga h hi).1⟩








end Go.Proofs.Ythadkebcjlpkhaa

/-
  Contracts of diagrams that are closed or flipped, and of matchings that are turned, are proved.
  They hold for all rows of numbers.
-/
set_option linter.unusedVariables false
set_option linter.unusedSimpArgs false
namespace Go.Proofs.Ythadkebcjlpkhaa
open Go.Proofs.Ythadkebcjlpkhaa.Ab Go.Proofs.Ythadkebcjlpkhaa.Pl


theorem idD_len (n : Nat) : (idD n).length = 2 * n := by simp [idD]
theorem ga_idD {n i : Nat} (h : i < 2 * n) : (idD n).getD i 0 = ((2 * n - 1 - i : Nat) : Int) ∧ ga (idD n) i = 2 * n - 1 - i := by
  have e : (idD n).getD i 0 = ((2 * n - 1 - i : Nat) : Int) := by
    rw [idD, tab_getD _ h]
    omega
  exact ⟨e, by rw [ga, e]; rfl⟩
def traceL (l : List Int) : Int := if isD l = true then (loopsN (ga l) (ga (idD (l.length / 2))) l.length : Int) else -1




/-- a diagram upside down, so many points of it -/
def flipTo (l : List Int) : Nat → List Int
  | 0 => List.replicate l.length 0
  | i + 1 => (flipTo l i).set ((l.length : Int) - 1 - (i : Int)).toNat ((l.length : Int) - 1 - l.getD i 0)
theorem flipTo_len (l : List Int) : ∀ i, (flipTo l i).length = l.length := by
  intro i
  induction i with
  | zero => simp [flipTo]
  | succ i ih => simp [flipTo, ih]
def flipD (l : List Int) : List Int × Bool := if isD l = true then (flipTo l l.length, true) else ([], false)
theorem flipD_len (l : List Int) : (flipD l).1.length ≤ 16 := by
  unfold flipD
  split
  · rename_i h
    have := (isM_spec (isNC_spec (isD_spec h).2)).1
    rw [flipTo_len]
    exact this
  · simp





/-- a matching turned, so many points of it -/
def turnTo (l : List Int) (k : Int) : Nat → List Int
  | 0 => List.replicate l.length 0
  | i + 1 => (turnTo l k i).set (((i : Int) - k + l.length).tmod l.length).toNat ((l.getD i 0 - k + l.length).tmod l.length)
theorem turnTo_len (l : List Int) (k : Int) : ∀ i, (turnTo l k i).length = l.length := by
  intro i
  induction i with
  | zero => simp [turnTo]
  | succ i ih => simp [turnTo, ih]
def turnOk (l : List Int) (k : Int) : Prop := isM l = true ∧ 0 ≤ k ∧ k ≤ max 0 ((l.length : Int) - 1)
instance (l : List Int) (k : Int) : Decidable (turnOk l k) := by unfold turnOk; infer_instance
def turnM (l : List Int) (k : Int) : List Int × Bool := if turnOk l k then (turnTo l k l.length, true) else ([], false)
theorem turnM_len (l : List Int) (k : Int) : (turnM l k).1.length ≤ 16 := by
  unfold turnM
  split
  · rename_i h
    have := (isM_spec h.1).1
    rw [turnTo_len]
    exact this
  · simp
theorem tmod_in {a n : Int} (ha : 0 ≤ a) (hn : 0 < n) : 0 ≤ a.tmod n ∧ a.tmod n < n := ⟨Int.tmod_nonneg _ ha, Int.tmod_lt_of_pos _ hn⟩



/-- two rows and whether there are some -/
def Ret2 (x y : List Int) (t : Bool) (h0 : H) (v : AV) (h' : H) : Prop := ∃ b c, v = .tup [.slice b 0 x.length x.length, .slice c 0 y.length y.length, .bool t] ∧ St h0 h' [(c, row (ints y)), (b, row (ints x))]
def turn2 (l m : List Int) : List Int × List Int × Bool := if loopsOf l m < 1 then ([], [], false) else ((turnM l 1).1, (turnM m 1).1, true)
theorem turn2_len (l m : List Int) : (turn2 l m).1.length ≤ 16 ∧ (turn2 l m).2.1.length ≤ 16 := by
  unfold turn2
  split
  · simp
  · exact ⟨turnM_len l 1, turnM_len m 1⟩




end Go.Proofs.Ythadkebcjlpkhaa
