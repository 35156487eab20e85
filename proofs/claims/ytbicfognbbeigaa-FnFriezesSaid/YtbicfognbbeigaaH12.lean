/-
  Contracts of rows of rows that are marked are proved.
  They hold for all rows of rows.
-/
import Derived.Test.YtbicfognbbeigaaC23
import Derived.Test.YtbicfognbbeigaaH2
import Derived.Test.YtbicfognbbeigaaH11
set_option linter.unusedVariables false
set_option linter.unusedSimpArgs false
namespace Go.Proofs.Ytbicfognbbeigaa
open Go.Proofs.Ytbicfognbbeigaa.Ab Go.Proofs.Ytbicfognbbeigaa.Pl

/-- rows of rows among one's blocks, and the same with other rows -/
inductive RSpot : List (Nat × Blk) → Nat → RL → RL → List (Nat × Blk) → Prop where
  | here {b : Nat} {R R' : RL} {L : List (Nat × Blk)} : RSpot ((b, row (slcs R)) :: (blks R ++ L)) b R R' ((b, row (slcs R')) :: (blks R' ++ L))
  | there {x : Nat × Blk} {b : Nat} {R R' : RL} {L L' : List (Nat × Blk)} (s : RSpot L b R R' L') : RSpot (x :: L) b R R' (x :: L')
  | app {X : List (Nat × Blk)} {b : Nat} {R R' : RL} {L L' : List (Nat × Blk)} (s : RSpot L b R R' L') : RSpot (X ++ L) b R R' (X ++ L')
theorem RSpot.split {L L' : List (Nat × Blk)} {b : Nat} {R R' : RL} (s : RSpot L b R R' L') : ∃ A B, L = A ++ (b, row (slcs R)) :: (blks R ++ B) ∧ L' = A ++ (b, row (slcs R')) :: (blks R' ++ B) := by
  induction s with
  | here => exact ⟨[], _, rfl, rfl⟩
  | there s ih =>
    obtain ⟨A, B, e1, e2⟩ := ih
    exact ⟨_ :: A, B, by rw [e1]; rfl, by rw [e2]; rfl⟩
  | app s ih =>
    obtain ⟨A, B, e1, e2⟩ := ih
    exact ⟨_ ++ A, B, by rw [e1, List.append_assoc], by rw [e2, List.append_assoc]⟩
theorem St.gridAt {h0 h : H} {L : List (Nat × Blk)} {b : Nat} {R : RL} (s : St h0 h L) (sp : RSpot L b R R L) : Grid h b R := by
  obtain ⟨A, B, rfl, _⟩ := sp.split
  exact s.rowsIn (List.mem_append_right _ (.head _)) fun p hp => List.mem_append_right _ (.tail _ (List.mem_append_left _ hp))

def totL (f : List (List Int)) : Nat := (f.map List.length).sum
theorem totL_cons (l : List Int) (f : List (List Int)) : totL (l :: f) = l.length + totL f := by simp [totL]
theorem totL_append (f g : List (List Int)) : totL (f ++ g) = totL f + totL g := by simp [totL]
theorem totL_mem {f : List (List Int)} {l : List Int} (h : l ∈ f) : l.length ≤ totL f := by
  induction f with
  | nil => cases h
  | cons x f ih =>
    rw [totL_cons]
    cases h with
    | head => omega
    | tail _ h => have := ih h; omega
theorem totL_le {f : List (List Int)} {m : Nat} (h : ∀ l ∈ f, l.length ≤ m) : totL f ≤ f.length * m := by
  induction f with
  | nil => simp [totL]
  | cons x f ih =>
    rw [totL_cons, List.length_cons, Nat.add_mul]
    have := ih fun l hl => h l (.tail _ hl)
    have := h x (.head _)
    omega
def markR (k : Int) : RL → RL
  | [] => []
  | r :: R => (r.1, iota k r.2.length) :: markR (k + r.2.length) R
theorem iota_length (k : Int) (n : Nat) : (iota k n).length = n := tab_length _ _
theorem markR_slcs : ∀ (R : RL) (k : Int), slcs (markR k R) = slcs R
  | [], k => rfl
  | r :: R, k => by
    have := markR_slcs R (k + r.2.length)
    simp only [slcs, markR, List.map_cons, iota_length] at this ⊢
    rw [this]
theorem markR_len : ∀ (R : RL) (k : Int), (markR k R).length = R.length
  | [], k => rfl
  | r :: R, k => by rw [markR, List.length_cons, markR_len R, List.length_cons]
theorem markR_append : ∀ (A B : RL) (k : Int), markR k (A ++ B) = markR k A ++ markR (k + totL (rws A)) B
  | [], B, k => by simp [markR, totL, rws]
  | r :: A, B, k => by
    rw [List.cons_append, markR, markR, markR_append A B]
    have : totL (rws (r :: A)) = r.2.length + totL (rws A) := totL_cons _ _
    rw [this, List.cons_append]
    congr 3
    omega
theorem spot_mid {α : Type} (X Y : List α) (p q : α) : Spot (X ++ p :: Y) p q (X ++ q :: Y) := by
  induction X with
  | nil => exact .here
  | cons x X ih => exact .there ih
theorem rl_mid (A B : RL) (x : Nat × List Int) : (A ++ x :: B).getD A.length (0, []) = x := by simp [List.getD]

theorem Spot.app {α : Type} {L L' X : List α} {p q : α} (s : Spot L p q L') : Spot (X ++ L) p q (X ++ L') := by
  induction X with
  | nil => exact s
  | cons x X ih => exact .there ih






end Go.Proofs.Ytbicfognbbeigaa

/-
  The law of fans is proved.
  It holds for all sizes.
-/
set_option linter.unusedVariables false
set_option linter.unusedSimpArgs false
namespace Go.Proofs.Ytbicfognbbeigaa
open Go.Proofs.Ytbicfognbbeigaa.Ab Go.Proofs.Ytbicfognbbeigaa.Pl

theorem fan_two (n v : Int) : ∀ x ∈ (fan n v).1, x.length = 2 := by
  unfold fan
  split
  · exact sortL_two (fanL_two n v _)
  · intro x hx; cases hx
theorem fan_len (n v : Int) : (fan n v).1.length ≤ 10 := by
  unfold fan
  split
  · rename_i h
    rw [sortL_len]
    have := fanL_len n v n.toNat
    have := h.1
    omega
  · simp
theorem fan_tot (n v : Int) : totL (fan n v).1 ≤ 2000000 := by
  have := totL_le (m := 2) fun l hl => by have := fan_two n v l hl; omega
  have := fan_len n v
  omega

end Go.Proofs.Ytbicfognbbeigaa
