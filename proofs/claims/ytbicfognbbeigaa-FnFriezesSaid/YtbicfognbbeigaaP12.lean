/-
  Plain laws of the triangles of a triangulation, as numbers, are proved by a search through all of them.
  They hold for up to ten corners.
-/
import Derived.Test.YtbicfognbbeigaaP11
set_option linter.unusedVariables false
set_option linter.unusedSimpArgs false
namespace Go.Proofs.Ytbicfognbbeigaa.Pl

def trC (a b c : Nat) : Nat := Nat.add (Nat.add (Nat.mul 256 a) (Nat.mul 16 b)) c
/-- triangles by the first corner that is joined with both ends -/
noncomputable def trisC (m : Nat) (k : Nat) : Nat → Nat → List Nat :=
  @Nat.rec (fun _ => Nat → Nat → List Nat) (fun _ _ => []) (fun _ ih l r =>
    @List.rec Nat (fun _ => List Nat) [] (fun i _ rest => bif jnC 0 m l (Nat.add (Nat.succ l) i) then (bif jnC 0 m (Nat.add (Nat.succ l) i) r then trC l (Nat.add (Nat.succ l) i) r :: (ih l (Nat.add (Nat.succ l) i) ++ ih (Nat.add (Nat.succ l) i) r) else rest) else rest) (List.range (Nat.sub (Nat.sub r l) 1))) k
/-- triples that are joined -/
noncomputable def triInC (n m a b : Nat) (l : List Nat) : List Nat :=
  @List.rec Nat (fun _ => List Nat) [] (fun c _ ih => bif Nat.ble (Nat.succ b) c then (bif jnC n m b c then (bif jnC n m a c then trC a b c :: ih else ih) else ih) else ih) l
noncomputable def triMidC (n m a : Nat) (l : List Nat) : List Nat :=
  @List.rec Nat (fun _ => List Nat) [] (fun b _ ih => bif Nat.ble (Nat.succ a) b then (bif jnC n m a b then triInC n m a b (List.range n) ++ ih else ih) else ih) l
noncomputable def triOutC (n m : Nat) (l : List Nat) : List Nat :=
  @List.rec Nat (fun _ => List Nat) [] (fun a _ ih => triMidC n m a (List.range n) ++ ih) l
noncomputable def insN (x : Nat) (l : List Nat) : List Nat :=
  @List.rec Nat (fun _ => List Nat) [x] (fun y t ih => bif Nat.ble x y then x :: y :: t else y :: ih) l
noncomputable def sortN (l : List Nat) : List Nat := @List.rec Nat (fun _ => List Nat) [] (fun x _ ih => insN x ih) l
noncomputable def upN (l : List Nat) : Nat → Bool := @List.rec Nat (fun _ => Nat → Bool) (fun _ => true) (fun x _ ih p => bif Nat.ble (Nat.succ p) x then ih x else false) l
noncomputable def eqN (l : List Nat) : List Nat → Bool := @List.rec Nat (fun _ => List Nat → Bool) (fun m => @List.rec Nat (fun _ => Bool) true (fun _ _ _ => false) m) (fun x _ ih m => @List.rec Nat (fun _ => Bool) false (fun y t _ => bif Nat.beq x y then ih t else false) m) l
noncomputable def triOk (n : Nat) (r : List Nat) : Bool :=
  bif eqN (sortN (trisC (mskC r) n 0 (Nat.sub n 1))) (triOutC n (mskC r) (List.range n)) then (bif upN (triOutC n (mskC r) (List.range n)) 0 then Nat.beq (triOutC n (mskC r) (List.range n)).length (Nat.sub n 2) else false) else false

theorem insN_perm (x : Nat) : ∀ l : List Nat, (insN x l).Perm (x :: l)
  | [] => .refl _
  | y :: l => by
    have e : insN x (y :: l) = bif Nat.ble x y then x :: y :: l else y :: insN x l := rfl
    rw [e]
    cases Nat.ble x y with
    | true => exact .refl _
    | false => exact ((insN_perm x l).cons y).trans (.swap x y l)
theorem sortN_perm : ∀ l : List Nat, (sortN l).Perm l
  | [] => .refl _
  | x :: l => (insN_perm x (sortN l)).trans ((sortN_perm l).cons x)
theorem eqN_eq : ∀ {l m : List Nat}, eqN l m = true → l = m
  | [], [], _ => rfl
  | [], _ :: _, h => by cases h
  | _ :: _, [], h => by cases h
  | x :: l, y :: m, h => by
    have h : (bif Nat.beq x y then eqN l m else false) = true := h
    rw [beq_of, cond_decide] at h
    split at h
    · rename_i e
      rw [e, eqN_eq h]
    · cases h
theorem upN_sorted : ∀ {l : List Nat} {p : Nat}, upN l p = true → l.Pairwise (· < ·) ∧ ∀ x ∈ l, p < x
  | [], _, _ => ⟨.nil, fun x hx => (nomatch hx)⟩
  | x :: l, p, h => by
    have h : (bif Nat.ble (Nat.succ p) x then upN l x else false) = true := h
    rw [ble_of, cond_decide] at h
    split at h
    · rename_i e
      have ih := upN_sorted h
      refine ⟨List.pairwise_cons.2 ⟨ih.2, ih.1⟩, fun y hy => ?_⟩
      cases hy with
      | head => omega
      | tail _ hy => have := ih.2 y hy; omega
    · cases h

set_option maxRecDepth 100000 in
theorem tris_low : allR (fun m => allC (triOk m) (m - 3) [] (candC m)) [2, 3, 4, 5, 6, 7, 8] = true := by decide +kernel
set_option maxRecDepth 100000 in
theorem tris_nine : allC (triOk 9) 6 [] (candC 9) = true := by decide +kernel
set_option maxRecDepth 100000 in
theorem tris_ten : allC (triOk 10) 7 [] (candC 10) = true := by decide +kernel
theorem tris_fine {n : Nat} (h : 2 ≤ n ∧ n ≤ 10) : allC (triOk n) (n - 3) [] (candC n) = true := by
  by_cases c : n ≤ 8
  · exact allR_all tris_low n (by simp; omega)
  · by_cases d : n = 9
    · subst d; exact tris_nine
    · rw [show n = 10 by omega]; exact tris_ten

end Go.Proofs.Ytbicfognbbeigaa.Pl
