/-
  Plain laws of binary trees and their texts are proved.
  They hold for all trees.
-/
import Derived.Test.YtbicfognbbeigaaGreatH4
set_option linter.unusedVariables false
set_option linter.unusedSimpArgs false
namespace Go.Proofs.YtbicfognbbeigaaGreat.Pl

/-- binary trees -/
inductive BT where
  | leaf
  | node (l r : BT)
def BT.size : BT → Nat
  | .leaf => 0
  | .node l r => l.size + r.size + 1
def BT.txt : BT → List UInt8
  | .leaf => [46]
  | .node l r => 40 :: (l.txt ++ r.txt ++ [41])
theorem BT.txt_length : ∀ t : BT, t.txt.length = 3 * t.size + 1
  | .leaf => rfl
  | .node l r => by
    simp only [BT.txt, BT.size, List.length_cons, List.length_append, List.length_nil, BT.txt_length l, BT.txt_length r]
    omega
/-- reads a tree off a text, and gives what comes behind it -/
def rd : Nat → List UInt8 → Option (BT × List UInt8)
  | 0, _ => none
  | _ + 1, [] => none
  | k + 1, c :: s =>
    if c = 46 then some (.leaf, s)
    else if c = 40 then
      match rd k s with
      | none => none
      | some (l, s1) => match rd k s1 with
        | none => none
        | some (r, s2) => match s2 with
          | [] => none
          | e :: s3 => if e = 41 then some (.node l r, s3) else none
    else none
theorem rd_sound : ∀ (k : Nat) (s : List UInt8) (t : BT) (r : List UInt8), rd k s = some (t, r) → s = t.txt ++ r
  | 0, _, _, _, h => by cases h
  | _ + 1, [], _, _, h => by cases h
  | k + 1, c :: s, t, r, h => by
    rw [rd] at h
    split at h
    · rename_i hc
      cases h
      subst hc
      rfl
    · split at h
      · rename_i hc
        cases e1 : rd k s with
        | none => rw [e1] at h; cases h
        | some p =>
          obtain ⟨a, s1⟩ := p
          rw [e1] at h
          simp only at h
          cases e2 : rd k s1 with
          | none => rw [e2] at h; cases h
          | some q =>
            obtain ⟨b, s2⟩ := q
            rw [e2] at h
            simp only at h
            cases s2 with
            | nil => cases h
            | cons e s3 =>
              simp only at h
              split at h
              · rename_i he
                cases h
                have h1 := rd_sound k s a s1 e1
                have h2 := rd_sound k s1 b _ e2
                rw [hc, h1, h2, he]
                simp [BT.txt]
              · cases h
      · cases h
theorem rd_txt : ∀ (t : BT) (k : Nat) (r : List UInt8), t.txt.length ≤ k → rd k (t.txt ++ r) = some (t, r)
  | .leaf, 0, r, h => by simp [BT.txt] at h
  | .leaf, k + 1, r, h => by simp [BT.txt, rd]
  | .node a b, 0, r, h => by simp [BT.txt] at h
  | .node a b, k + 1, r, h => by
    have e : (BT.node a b).txt ++ r = 40 :: (a.txt ++ (b.txt ++ 41 :: r)) := by simp [BT.txt]
    simp only [BT.txt, List.length_cons, List.length_append, List.length_nil] at h
    rw [e, rd, if_neg (by decide), if_pos rfl, rd_txt a k _ (by omega)]
    simp only
    rw [rd_txt b k _ (by omega)]
    simp
theorem rd_fuel {k m : Nat} {s : List UInt8} (h : s.length ≤ k) (h2 : s.length ≤ m) : rd k s = rd m s := by
  have key : ∀ (k m : Nat) (t : BT) (r : List UInt8), s.length ≤ m → rd k s = some (t, r) → rd m s = some (t, r) := fun k m t r hm e => by
    have := rd_sound k s t r e
    rw [this]
    rw [this, List.length_append] at hm
    exact rd_txt t m r (by omega)
  cases e : rd k s with
  | some p => exact (key k m p.1 p.2 h2 e).symm
  | none =>
    cases e2 : rd m s with
    | none => rfl
    | some p =>
      have := key m k p.1 p.2 h e2
      rw [e] at this
      cases this
/-- a text as a tree, if it is one of at most eight nodes -/
def treeOf (s : List UInt8) : Option BT := if s.length ≤ 25 then (match rd s.length s with
  | some (t, []) => some t
  | _ => none) else none
theorem treeOf_some {s : List UInt8} {t : BT} (h : treeOf s = some t) : s = t.txt ∧ t.size ≤ 8 := by
  unfold treeOf at h
  split at h
  · rename_i hl
    cases e : rd s.length s with
    | none => rw [e] at h; cases h
    | some p =>
      obtain ⟨a, r⟩ := p
      rw [e] at h
      cases r with
      | nil =>
        cases h
        have := rd_sound _ _ _ _ e
        rw [List.append_nil] at this
        refine ⟨this, ?_⟩
        have l := t.txt_length
        rw [← this] at l
        omega
      | cons c r => cases h
  · cases h
theorem treeOf_txt {t : BT} (h : t.size ≤ 8) : treeOf t.txt = some t := by
  unfold treeOf
  have l := t.txt_length
  rw [if_pos (by omega)]
  have := rd_txt t t.txt.length [] (Nat.le_refl _)
  rw [List.append_nil] at this
  rw [this]

/-! triangles and sides of a tree between two corners -/
def trisB : BT → Nat → Nat → List (List Int)
  | .leaf, _, _ => []
  | .node a b, l, r => [(l : Int), ((l + a.size + 1 : Nat) : Int), (r : Int)] :: (trisB a l (l + a.size + 1) ++ trisB b (l + a.size + 1) r)
def BT.isNode : BT → Bool
  | .leaf => false
  | .node _ _ => true
def oneB (t : BT) (l r : Nat) : List (List Int) := if t.isNode then [[(l : Int), (r : Int)]] else []
def sidesB : BT → Nat → Nat → List (List Int)
  | .leaf, _, _ => []
  | .node a b, l, r => oneB a l (l + a.size + 1) ++ oneB b (l + a.size + 1) r ++ (sidesB a l (l + a.size + 1) ++ sidesB b (l + a.size + 1) r)
/-- the sides as they are cut off: a part's own one ahead of its parts' -/
def cutsB : BT → Nat → Nat → List (List Int)
  | .leaf, _, _ => []
  | .node a b, l, r => [(l : Int), (r : Int)] :: (cutsB a l (l + a.size + 1) ++ cutsB b (l + a.size + 1) r)
theorem cuts_sides : ∀ (t : BT) (l r : Nat), (cutsB t l r).Perm (oneB t l r ++ sidesB t l r)
  | .leaf, l, r => .refl _
  | .node a b, l, r => by
    rw [cutsB, sidesB]
    have e : oneB (.node a b) l r = [[(l : Int), (r : Int)]] := rfl
    rw [e, List.singleton_append]
    refine .cons _ ?_
    refine ((cuts_sides a _ _).append (cuts_sides b _ _)).trans ?_
    generalize oneB a l (l + a.size + 1) = A
    generalize sidesB a l (l + a.size + 1) = B
    generalize oneB b (l + a.size + 1) r = C
    generalize sidesB b (l + a.size + 1) r = D
    simp only [List.append_assoc]
    refine List.Perm.append_left A ?_
    rw [← List.append_assoc, ← List.append_assoc]
    exact List.Perm.append_right D List.perm_append_comm
def cuts0 : BT → Nat → Nat → List (List Int)
  | .leaf, _, _ => []
  | .node a b, l, r => cutsB a l (l + a.size + 1) ++ cutsB b (l + a.size + 1) r
theorem cuts0_sides (t : BT) (l r : Nat) : (cuts0 t l r).Perm (sidesB t l r) := by
  cases t with
  | leaf => exact .refl _
  | node a b => exact (cuts_sides (.node a b) l r).cons_inv
theorem trisB_two : ∀ (t : BT) (l r : Nat), ∀ x ∈ trisB t l r, x.length = 3
  | .leaf, _, _, x, h => by cases h
  | .node a b, l, r, x, h => by
    rw [trisB] at h
    rcases List.mem_cons.1 h with rfl | h
    · rfl
    · rcases List.mem_append.1 h with h | h
      · exact trisB_two a _ _ x h
      · exact trisB_two b _ _ x h
theorem trisB_len : ∀ (t : BT) (l r : Nat), (trisB t l r).length = t.size
  | .leaf, _, _ => rfl
  | .node a b, l, r => by
    rw [trisB, List.length_cons, List.length_append, trisB_len a, trisB_len b]
    rfl
theorem oneB_two (t : BT) (l r : Nat) : ∀ x ∈ oneB t l r, x.length = 2 := fun x h => by
  unfold oneB at h
  split at h
  · rw [List.mem_singleton] at h
    rw [h]
    rfl
  · cases h
theorem sidesB_two : ∀ (t : BT) (l r : Nat), ∀ x ∈ sidesB t l r, x.length = 2
  | .leaf, _, _, x, h => by cases h
  | .node a b, l, r, x, h => by
    rw [sidesB] at h
    rcases List.mem_append.1 h with h | h
    · rcases List.mem_append.1 h with h | h
      · exact oneB_two _ _ _ x h
      · exact oneB_two _ _ _ x h
    · rcases List.mem_append.1 h with h | h
      · exact sidesB_two a _ _ x h
      · exact sidesB_two b _ _ x h
theorem oneB_len (t : BT) (l r : Nat) : (oneB t l r).length ≤ t.size := by
  cases t with
  | leaf => exact Nat.le_refl _
  | node a b => simp [oneB, BT.isNode, BT.size]
theorem sidesB_len : ∀ (t : BT) (l r : Nat), (oneB t l r).length + (sidesB t l r).length = t.size
  | .leaf, _, _ => rfl
  | .node a b, l, r => by
    have h1 := sidesB_len a l (l + a.size + 1)
    have h2 := sidesB_len b (l + a.size + 1) r
    have e : oneB (.node a b) l r = [[(l : Int), (r : Int)]] := rfl
    rw [sidesB, e]
    simp only [List.length_append, BT.size, List.length_cons, List.length_nil]
    omega

end Go.Proofs.YtbicfognbbeigaaGreat.Pl
