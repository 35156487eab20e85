/-
  Plain laws of matchings and of loops of two of them are proved.
  They hold for all rows of numbers.
-/
import Derived.Test.YtdfdlnjijccpeaaC17
set_option linter.unusedVariables false
set_option linter.unusedSimpArgs false
namespace Go.Proofs.Ytdfdlnjijccpeaa
open Go.Proofs.Ytdfdlnjijccpeaa.Ab Go.Proofs.Ytdfdlnjijccpeaa.Pl

/-- a row as a map of places -/
def ga (l : List Int) (i : Nat) : Nat := (l.getD i 0).toNat
theorem okAt_ga {l : List Int} {i : Nat} (h : okAt l i) (hi : i < l.length) : ga l i < l.length ∧ ga l i ≠ i ∧ l.getD i 0 = ga l i ∧ l.getD (ga l i) 0 = i := by
  obtain ⟨⟨h1, h2⟩, h3, h4⟩ := h
  unfold ga
  refine ⟨by omega, by omega, by omega, h4⟩
theorem isM_ga {l : List Int} (h : isM l = true) {i : Nat} (hi : i < l.length) : ga l i < l.length ∧ ga l i ≠ i ∧ l.getD i 0 = ga l i ∧ ga l (ga l i) = i := by
  obtain ⟨h1, h2, h3, h4⟩ := okAt_ga ((isM_spec h).2 i hi) hi
  exact ⟨h1, h2, h3, by rw [ga, h4]; rfl⟩

/-- an involution without fixed points moves evenly many things -/
theorem even_of_inv (n : Nat) (m : Nat → Nat) (h1 : ∀ i, i < n → m i < n) (h2 : ∀ i, i < n → m i ≠ i) (h3 : ∀ i, i < n → m (m i) = i) : n % 2 = 0 := by
  have hp : ((List.range n).map m).Perm (List.range n) := by
    refine (List.perm_ext_iff_of_nodup ?_ List.nodup_range).2 fun x => ?_
    · refine List.pairwise_map.2 (List.Pairwise.imp_of_mem (fun {a b} ha hb hne e => hne ?_) List.nodup_range)
      rw [← h3 a (List.mem_range.1 ha), ← h3 b (List.mem_range.1 hb), e]
    · constructor
      · intro hx
        obtain ⟨i, hi, rfl⟩ := List.mem_map.1 hx
        exact List.mem_range.2 (h1 i (List.mem_range.1 hi))
      · intro hx
        have hx := List.mem_range.1 hx
        exact List.mem_map.2 ⟨m x, List.mem_range.2 (h1 x hx), h3 x hx⟩
  have e1 := hp.countP_eq (fun i => decide (i < m i))
  rw [List.countP_map] at e1
  have e2 : List.countP ((fun i => decide (i < m i)) ∘ m) (List.range n) = List.countP (fun i => decide (¬ (decide (i < m i)) = true)) (List.range n) := by
    refine List.countP_congr fun i hi => ?_
    have hi := List.mem_range.1 hi
    have a := h2 i hi
    have b := h3 i hi
    simp only [Function.comp, decide_eq_true_eq, b]
    omega
  have e3 := List.length_eq_countP_add_countP (fun i => decide (i < m i)) (l := List.range n)
  rw [List.length_range] at e3
  omega
theorem isM_even {l : List Int} (h : isM l = true) : l.length % 2 = 0 :=
  even_of_inv l.length (ga l) (fun i hi => (isM_ga h hi).1) (fun i hi => (isM_ga h hi).2.1) fun i hi => (isM_ga h hi).2.2.2

/-! marks -/
theorem count_mark {s : List Bool} {x : Nat} (hx : x < s.length) (h : s.getD x false = false) : (s.set x true).count false + 1 = s.count false := by
  have e : s[x] = false := by simpa [List.getD, hx] using h
  rw [List.count_set hx, e]
  have : 0 < s.count false := List.count_pos_iff.2 (by rw [← e]; exact List.getElem_mem hx)
  simp
  omega
theorem count_more {s : List Bool} {x : Nat} (hx : x < s.length) : (s.set x true).count false ≤ s.count false := by
  rw [List.count_set hx]
  simp
theorem count_zero {s : List Bool} (h : s.count false = 0) {x : Nat} (hx : x < s.length) : s.getD x false = true := by
  have := List.count_eq_zero.1 h
  cases e : s.getD x false with
  | true => rfl
  | false =>
    exfalso
    apply this
    have e2 : s[x] = false := by simpa [List.getD, hx] using e
    rw [← e2]
    exact List.getElem_mem hx

/-- one loop is gone round: two maps in turn, all places are marked -/
def trail (f g : Nat → Nat) : Nat → List Bool → Nat → List Bool
  | 0, s, _ => s
  | k + 1, s, x => if s.getD x false then s else trail f g k ((s.set x true).set (f x) true) (g (f x))
theorem trail_seen (f g : Nat → Nat) (k : Nat) {s : List Bool} {x : Nat} (h : s.getD x false = true) : trail f g k s x = s := by
  cases k with
  | zero => rfl
  | succ k => simp only [trail]; rw [if_pos h]
theorem trail_step (f g : Nat → Nat) (k : Nat) {s : List Bool} {x : Nat} (h : s.getD x false = false) : trail f g (k + 1) s x = trail f g k ((s.set x true).set (f x) true) (g (f x)) := by
  simp only [trail]
  rw [if_neg (by rw [h]; decide)]
theorem trail_len (f g : Nat → Nat) : ∀ (k : Nat) (s : List Bool) (x : Nat), (trail f g k s x).length = s.length := by
  intro k
  induction k with
  | zero => intro s x; rfl
  | succ k ih =>
    intro s x
    simp only [trail]
    split
    · rfl
    · rw [ih]; simp
/-- all loops, from each place that has no mark yet -/
def roundsTo (f g : Nat → Nat) (n : Nat) : Nat → List Bool × Nat
  | 0 => (List.replicate n false, 0)
  | i + 1 => let r := roundsTo f g n i
    if r.1.getD i false then r else (trail f g n r.1 i, r.2 + 1)
theorem roundsTo_len (f g : Nat → Nat) (n : Nat) : ∀ i, (roundsTo f g n i).1.length = n := by
  intro i
  induction i with
  | zero => simp [roundsTo]
  | succ i ih =>
    simp only [roundsTo]
    split
    · exact ih
    · rw [trail_len]; exact ih
theorem roundsTo_le (f g : Nat → Nat) (n : Nat) : ∀ i, (roundsTo f g n i).2 ≤ i := by
  intro i
  induction i with
  | zero => simp [roundsTo]
  | succ i ih =>
    simp only [roundsTo]
    split <;> (try dsimp only) <;> omega
theorem roundsTo_seen {f g : Nat → Nat} {n i k : Nat} {s : List Bool} (e : roundsTo f g n i = (s, k)) (h : s.getD i false = true) : roundsTo f g n (i + 1) = (s, k) := by
  simp only [roundsTo, e]
  rw [if_pos h]
theorem roundsTo_new {f g : Nat → Nat} {n i k : Nat} {s : List Bool} (e : roundsTo f g n i = (s, k)) (h : s.getD i false = false) : roundsTo f g n (i + 1) = (trail f g n s i, k + 1) := by
  simp only [roundsTo, e]
  rw [if_neg (by rw [h]; decide)]
def loopsN (f g : Nat → Nat) (n : Nat) : Nat := (roundsTo f g n n).2
/-- the loops of two matchings -/
def loopsOf (a b : List Int) : Int := if isNC a = true ∧ isNC b = true ∧ a.length = b.length then (loopsN (ga a) (ga b) a.length : Int) else -1

end Go.Proofs.Ytdfdlnjijccpeaa
