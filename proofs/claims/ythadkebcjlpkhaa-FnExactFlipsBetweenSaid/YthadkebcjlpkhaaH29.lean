/-
  Plain laws of the triangles of a triangulation, as numbers, are proved by a search through all of them.
  They hold for up to ten corners.
-/
import Derived.Test.YthadkebcjlpkhaaP11
import Derived.Test.YthadkebcjlpkhaaC49
import Derived.Test.YthadkebcjlpkhaaH15
import Derived.Test.YthadkebcjlpkhaaH0
import Derived.Test.YthadkebcjlpkhaaH3
import Derived.Test.YthadkebcjlpkhaaGY
set_option linter.unusedVariables false
set_option linter.unusedSimpArgs false
namespace Go.Proofs.Ythadkebcjlpkhaa.Pl

def trC (a b c : Nat) : Nat := Nat.add (Nat.add (Nat.mul 256 a) (Nat.mul 16 b)) c
/-- triangles by the first corner that is joined with both ends -/
noncomputable def trisC (m : Nat) (k : Nat) : Nat → Nat → List Nat :=
  @Nat.rec (fun _ => Nat → Nat → List Nat) (fun _ _ => []) (fun _ ih l r =>
    @List.rec Nat (fun _ => List Nat) [] (fun i _ rest => bif jnC 0 m l (Nat.add (Nat.succ l) i) then (bif jnC 0 m (Nat.add (Nat.succ l) i) r then trC l (Nat.add (Nat.succ l) i) r :: (ih l (Nat.add (Nat.succ l) i) ++ ih (Nat.add (Nat.succ l) i) r) else rest) else rest) (List.range (Nat.sub (Nat.sub r l) 1))) k
/-- triples that are joined -/
noncomputable def triInC (n m a b : Nat) (l : List Nat) : List Nat :=
  @List.rec Nat (fun _ => List Nat) [] (fun c _ ih => bif Nat.ble (Nat.succ b) c then (bif jnC n m b c then (bif jnC n m a c then trC a b c :: ih else ih) else ih) else ih) l
noncomputable def triMidC (n m a : Nat) (l : List Nat) : List Nat :=
  @List.rec Nat (fun _ => List Nat) [] (fun b _ ih => bif Nat.ble (Nat.succ a) b then (bif jnC n m a b then triInC n m a b (List.range n) ++ ih else ih) else ih) l
noncomputable def triOutC (n m : Nat) (l : List Nat) : List Nat :=
  @List.rec Nat (fun _ => List Nat) [] (fun a _ ih => triMidC n m a (List.range n) ++ ih) l
noncomputable def insN (x : Nat) (l : List Nat) : List Nat :=
  @List.rec Nat (fun _ => List Nat) [x] (fun y t ih => bif Nat.ble x y then x :: y :: t else y :: ih) l
noncomputable def sortN (l : List Nat) : List Nat := @List.rec Nat (fun _ => List Nat) [] (fun x _ ih => insN x ih) l
noncomputable def upN (l : List Nat) : Nat → Bool := @List.rec Nat (fun _ => Nat → Bool) (fun _ => true) (fun x _ ih p => bif Nat.ble (Nat.succ p) x then ih x else false) l
noncomputable def eqN (l : List Nat) : List Nat → Bool := @List.rec Nat (fun _ => List Nat → Bool) (fun m => @List.rec Nat (fun _ => Bool) true (fun _ _ _ => false) m) (fun x _ ih m => @List.rec Nat (fun _ => Bool) false (fun y t _ => bif Nat.beq x y then ih t else false) m) l
noncomputable def triOk (n : Nat) (r : List Nat) : Bool :=
  bif eqN (sortN (trisC (mskC r) n 0 (Nat.sub n 1))) (triOutC n (mskC r) (List.range n)) then (bif upN (triOutC n (mskC r) (List.range n)) 0 then Nat.beq (triOutC n (mskC r) (List.range n)).length (Nat.sub n 2) else false) else false

theorem insN_perm (x : Nat) : ∀ l : List Nat, (insN x l).Perm (x :: l)
  | [] => .refl _
  | y :: l => by
    have e : insN x (y :: l) = bif Nat.ble x y then x :: y :: l else y :: insN x l := rfl
    rw [e]
    cases Nat.ble x y with
    | true => exact .refl _
    | false => exact ((insN_perm x l).cons y).trans (.swap x y l)
theorem sortN_perm : ∀ l : List Nat, (sortN l).Perm l
  | [] => .refl _
  | x :: l => (insN_perm x (sortN l)).trans ((sortN_perm l).cons x)
theorem eqN_eq : ∀ {l m : List Nat}, eqN l m = true → l = m
  | [], [], _ => rfl
  | [], _ :: _, h => by cases h
  | _ :: _, [], h => by cases h
  | x :: l, y :: m, h => by
    have h : (bif Nat.beq x y then eqN l m else false) = true := h
    rw [beq_of, cond_decide] at h
    split at h
    · rename_i e
      rw [e, eqN_eq h]
    · cases h
theorem upN_sorted : ∀ {l : List Nat} {p : Nat}, upN l p = true → l.Pairwise (· < ·) ∧ ∀ x ∈ l, p < x
  | [], _, _ => ⟨.nil, fun x hx => (nomatch hx)⟩
  | x :: l, p, h => by
    have h : (bif Nat.ble (Nat.succ p) x then upN l x else false) = true := h
    rw [ble_of, cond_decide] at h
    split at h
    · rename_i e
      have ih := upN_sorted h
      refine ⟨List.pairwise_cons.2 ⟨ih.2, ih.1⟩, fun y hy => ?_⟩
      cases hy with
      | head => omega
      | tail _ hy => have := ih.2 y hy; omega
    · cases h

set_option maxRecDepth 100000 in
theorem tris_low : allR (fun m => allC (triOk m) (m - 3) [] (candC m)) [2, 3, 4, 5, 6, 7, 8] = true := by decide +kernel
set_option maxRecDepth 100000 in
theorem tris_nine : allC (triOk 9) 6 [] (candC 9) = true := by decide +kernel
set_option maxRecDepth 100000 in
theorem tris_ten : allC (triOk 10) 7 [] (candC 10) = true := by decide +kernel
theorem tris_fine {n : Nat} (h : 2 ≤ n ∧ n ≤ 10) : allC (triOk n) (n - 3) [] (candC n) = true := by
  by_cases c : n ≤ 8
  · exact allR_all tris_low n (by simp; omega)
  · by_cases d : n = 9
    · subst d; exact tris_nine
    · rw [show n = 10 by omega]; exact tris_ten

end Go.Proofs.Ythadkebcjlpkhaa.Pl

/-
  Contracts of the triangles of a triangulation are proved.
  They hold for all rows of rows.
-/
set_option linter.unusedVariables false
set_option linter.unusedSimpArgs false
namespace Go.Proofs.Ythadkebcjlpkhaa
open Go.Proofs.Ythadkebcjlpkhaa.Ab Go.Proofs.Ythadkebcjlpkhaa.Pl

/-! the tree of a triangulation -/
def midP (f : List (List Int)) (l r i : Nat) : Bool := jnR 0 f (l : Nat) ((l + 1 + i : Nat) : Int) && jnR 0 f ((l + 1 + i : Nat) : Int) (r : Nat)
def firstM (f : List (List Int)) (l r : Nat) : Option Nat := (List.range (r - l - 1)).find? (midP f l r)
def treeT (f : List (List Int)) : Nat → Nat → Nat → BT
  | 0, _, _ => .leaf
  | k + 1, l, r => match firstM f l r with
    | none => .leaf
    | some i => .node (treeT f k l (l + 1 + i)) (treeT f k (l + 1 + i) r)
theorem treeT_none {f : List (List Int)} {k l r : Nat} (h : firstM f l r = none) : treeT f (k + 1) l r = .leaf := by rw [treeT, h]
theorem treeT_some {f : List (List Int)} {k l r i : Nat} (h : firstM f l r = some i) : treeT f (k + 1) l r = .node (treeT f k l (l + 1 + i)) (treeT f k (l + 1 + i) r) := by rw [treeT, h]
theorem find_hit {p : Nat → Bool} {n k : Nat} (hk : k < n) (h : p k = true) (hb : ∀ j, j < k → p j = false) : (List.range n).find? p = some k := by
  rw [List.find?_eq_some_iff_append]
  refine ⟨h, List.range k, (List.range (n - k - 1)).map (fun i => k + 1 + i), ?_, fun j hj => by simp [hb j (List.mem_range.1 hj)]⟩
  have e : n = k + (1 + (n - k - 1)) := by omega
  conv => lhs; rw [e, List.range_add, List.range_add]
  simp [Nat.add_assoc]
theorem find_miss {p : Nat → Bool} {n : Nat} (hb : ∀ j, j < n → p j = false) : (List.range n).find? p = none := by
  rw [List.find?_eq_none]
  intro j hj
  simp [hb j (List.mem_range.1 hj)]
theorem firstM_lt {f : List (List Int)} {l r i : Nat} (h : firstM f l r = some i) : i < r - l - 1 := List.mem_range.1 (List.mem_of_find?_eq_some h)
theorem treeT_size (f : List (List Int)) : ∀ (k l r : Nat), (treeT f k l r).size ≤ r - l - 1
  | 0, l, r => Nat.zero_le _
  | k + 1, l, r => by
    cases h : firstM f l r with
    | none => rw [treeT_none h]; exact Nat.zero_le _
    | some i =>
      have hi := firstM_lt h
      rw [treeT_some h]
      have h1 := treeT_size f k l (l + 1 + i)
      have h2 := treeT_size f k (l + 1 + i) r
      simp only [BT.size]
      omega



end Go.Proofs.Ythadkebcjlpkhaa

/-
  Plain laws of ballot numbers and of the numbers of Schroeder are proved.
  They hold for the sizes that the statements speak of.
-/
set_option linter.unusedVariables false
set_option linter.unusedSimpArgs false
namespace Go.Proofs.Ythadkebcjlpkhaa.Pl

/-- the ways of words with so many letters left, from a height: a row by the one before -/
def rowW (g : Nat → Nat) : Nat → Nat
  | 0 => g 1 + g 0
  | h + 1 => g (h + 2) + g (h + 1) + rowW g h
def waysW : Nat → Nat → Nat
  | 0 => fun _ => 1
  | l + 1 => rowW (waysW l)
theorem waysW_zero (h : Nat) : waysW 0 h = 1 := rfl
theorem waysW_low (l : Nat) : waysW (l + 1) 0 = waysW l 1 + waysW l 0 := rfl
theorem waysW_step (l h : Nat) : waysW (l + 1) (h + 1) = waysW l (h + 2) + waysW l (h + 1) + waysW (l + 1) h := rfl
theorem waysW_le : ∀ l h, waysW l h ≤ 3 ^ (2 * l + h) := by
  intro l
  induction l with
  | zero => intro h; exact Nat.pow_pos (by decide)
  | succ l ih =>
    intro h
    induction h with
    | zero =>
      rw [waysW_low]
      have a := ih 1
      have b := ih 0
      have e1 : 3 ^ (2 * (l + 1) + 0) = 9 * 3 ^ (2 * l) := by rw [show 2 * (l + 1) + 0 = 2 * l + 2 by omega, Nat.pow_add]; omega
      have e2 : 3 ^ (2 * l + 1) = 3 * 3 ^ (2 * l) := by rw [Nat.pow_add]; omega
      rw [Nat.add_zero] at b
      omega
    | succ h ih2 =>
      rw [waysW_step]
      have a := ih (h + 2)
      have b := ih (h + 1)
      have e1 : 3 ^ (2 * (l + 1) + (h + 1)) = 27 * 3 ^ (2 * l + h) := by rw [show 2 * (l + 1) + (h + 1) = 2 * l + h + 3 by omega, Nat.pow_add]; omega
      have e2 : 3 ^ (2 * (l + 1) + h) = 9 * 3 ^ (2 * l + h) := by rw [show 2 * (l + 1) + h = 2 * l + h + 2 by omega, Nat.pow_add]; omega
      have e3 : 3 ^ (2 * l + (h + 2)) = 9 * 3 ^ (2 * l + h) := by rw [show 2 * l + (h + 2) = 2 * l + h + 2 by omega, Nat.pow_add]; omega
      have e4 : 3 ^ (2 * l + (h + 1)) = 3 * 3 ^ (2 * l + h) := by rw [show 2 * l + (h + 1) = 2 * l + h + 1 by omega, Nat.pow_add]; omega
      omega

/-! the same, row by row, as a list -/
def scanR : Nat → List Nat → List Nat
  | p, a :: b :: t => (b + a + p) :: scanR (b + a + p) (b :: t)
  | _, _ => []
def rowsR : Nat → List Nat → List Nat
  | 0, r => r
  | l + 1, r => scanR 0 (rowsR l r)
theorem scanR_map (g : Nat → Nat) : ∀ k i p, (i = 0 → p = 0) → (∀ j, i = j + 1 → p = rowW g j) → scanR p ((List.range' i (k + 1)).map g) = (List.range' i k).map (rowW g) := by
  intro k
  induction k with
  | zero => intro i p _ _; rfl
  | succ k ih =>
    intro i p h0 h1
    have e : g (i + 1) + g i + p = rowW g i := by
      cases i with
      | zero => rw [h0 rfl]; rfl
      | succ j => rw [h1 j rfl]; rfl
    have s1 : List.range' i (k + 1 + 1) = i :: (i + 1) :: List.range' (i + 2) k := by rw [List.range'_succ, List.range'_succ]
    have s2 : List.range' (i + 1) (k + 1) = (i + 1) :: List.range' (i + 2) k := by rw [List.range'_succ]
    rw [s1, List.map_cons, List.map_cons, scanR, e, ← List.map_cons, ← s2, ih (i + 1) (rowW g i) (fun h => by omega) (fun j hj => by rw [show j = i by omega]), List.range'_succ, List.map_cons]
theorem rowsR_map : ∀ l m, rowsR l ((List.range' 0 (l + m)).map (waysW 0)) = (List.range' 0 m).map (waysW l) := by
  intro l
  induction l with
  | zero => intro m; rw [Nat.zero_add]; rfl
  | succ l ih =>
    intro m
    rw [rowsR, show l + 1 + m = l + (m + 1) by omega, ih (m + 1), scanR_map _ _ _ _ (fun _ => rfl) (fun j hj => by omega)]
    rfl
theorem waysW_row (n : Nat) : waysW n 0 = (rowsR n (List.replicate (n + 1) 1)).headD 0 := by
  have := rowsR_map n 1
  rw [show (List.range' 0 (n + 1)).map (waysW 0) = List.replicate (n + 1) 1 from List.eq_replicate_iff.2 ⟨by simp, fun b hb => by obtain ⟨x, _, rfl⟩ := List.mem_map.1 hb; rfl⟩] at this
  rw [this]
  rfl

/-! ballot numbers, a row by the one before -/
def rowB (i : Nat) (g : Nat → Nat) : Nat → Nat
  | 0 => 0
  | k + 1 => if k < i then 0 else if k = i then g (k + 1) else g (k + 1) + rowB i g k
def bal : Nat → Nat → Nat
  | 0 => fun _ => 1
  | i + 1 => rowB i (bal i)
theorem bal_zero (k : Nat) : bal 0 k = 1 := rfl
theorem bal_low {i k : Nat} (h : k ≤ i) : bal (i + 1) k = 0 := by
  cases k with
  | zero => rfl
  | succ k => show rowB i (bal i) (k + 1) = 0; rw [rowB, if_pos (by omega)]
theorem bal_diag (i : Nat) : bal (i + 1) (i + 1) = bal i (i + 1) := by
  show rowB i (bal i) (i + 1) = _
  rw [rowB, if_neg (by omega), if_pos rfl]
theorem bal_step {i k : Nat} (h : i < k) : bal (i + 1) (k + 1) = bal i (k + 1) + bal (i + 1) k := by
  show rowB i (bal i) (k + 1) = _
  rw [rowB, if_neg (by omega), if_neg (by omega)]
  rfl
theorem bal_le : ∀ i k, bal i k ≤ 2 ^ (i + k) := by
  intro i
  induction i with
  | zero => intro k; exact Nat.pow_pos (by decide)
  | succ i ih =>
    intro k
    induction k with
    | zero => rw [bal_low (by omega)]; exact Nat.zero_le _
    | succ k ih2 =>
      have a := ih (k + 1)
      have e1 : 2 ^ (i + 1 + (k + 1)) = 4 * 2 ^ (i + k) := by rw [show i + 1 + (k + 1) = i + k + 2 by omega, Nat.pow_add]; omega
      have e2 : 2 ^ (i + (k + 1)) = 2 * 2 ^ (i + k) := by rw [show i + (k + 1) = i + k + 1 by omega, Nat.pow_add]; omega
      have e3 : 2 ^ (i + 1 + k) = 2 * 2 ^ (i + k) := by rw [show i + 1 + k = i + k + 1 by omega, Nat.pow_add]; omega
      by_cases h : i < k
      · rw [bal_step h]; omega
      · by_cases h2 : k = i
        · subst h2; rw [bal_diag]; omega
        · rw [bal_low (by omega)]; exact Nat.zero_le _

/-- the sum that the reference takes, term by term -/
def sumS (n : Nat) : Nat → Int
  | 0 => 0
  | k + 1 => sumS n k + (bal k k : Int) * binI ((n + k : Nat) : Int) (n - k)
theorem schroeder_fine : ∀ n, n < 13 → (((rowsR n (List.replicate (n + 1) 1)).headD 0 : Nat) : Int) = sumS n (n + 1) ∧ (∀ k, k < n + 2 → 0 ≤ sumS n k ∧ sumS n k ≤ 1000000000) ∧
    ∀ k, k < n + 1 → binFine (n + k) (n - k) = true ∧ 0 ≤ binI ((n + k : Nat) : Int) (n - k) ∧ binI ((n + k : Nat) : Int) (n - k) ≤ 1000000000 ∧ (bal k k : Int) * binI ((n + k : Nat) : Int) (n - k) ≤ 1000000000 := by
  decide +kernel
theorem schroeder_num {n : Nat} (h : n < 13) : (waysW n 0 : Int) = sumS n (n + 1) := by rw [waysW_row]; exact (schroeder_fine n h).1

end Go.Proofs.Ythadkebcjlpkhaa.Pl

/-
  Contracts of ballot numbers are proved.
  They hold for up to fifteen letters of each kind.
-/
set_option linter.unusedVariables false
set_option linter.unusedSimpArgs false
namespace Go.Proofs.Ythadkebcjlpkhaa
open Go.Proofs.Ythadkebcjlpkhaa.Ab Go.Proofs.Ythadkebcjlpkhaa.Pl

def balRow (dn i k : Nat) : List Int := tab (dn + 1) fun j => if j < k then (bal i j : Int) else 0
theorem balRow_zero (dn i k : Nat) (h : k ≤ i) : balRow dn i k = List.replicate (dn + 1) 0 := by
  apply List.ext_getElem?
  intro j
  unfold balRow tab
  by_cases hj : j < dn + 1
  · rw [List.getElem?_map, List.getElem?_range hj, List.getElem?_replicate, if_pos hj]
    simp only [Option.map_some]
    split
    · cases i with
      | zero => omega
      | succ i => rw [bal_low (by omega)]; rfl
    · rfl
  · rw [List.getElem?_eq_none (by simp; omega), List.getElem?_eq_none (by simp; omega)]
theorem balRow_set {dn i k : Nat} (hk : k < dn + 1) {y : Int} (e : y = bal i k) : (balRow dn i k).set k y = balRow dn i (k + 1) := by
  subst e
  unfold balRow
  rw [tab_set]
  exact tab_congr fun j hj => by
    split
    · rename_i h
      subst h
      rw [if_pos (by omega)]
    · split <;> split <;> first | rfl | omega
theorem balRow_get {dn i k j : Nat} (hj : j < dn + 1) (hk : j < k) : (balRow dn i k).getD j 0 = bal i j := by
  unfold balRow
  rw [tab_getD _ hj, if_pos hk]
theorem balRow_len (dn i k : Nat) : (balRow dn i k).length = dn + 1 := tab_length _ _


end Go.Proofs.Ythadkebcjlpkhaa
