/-
  Plain laws of friezes of triangulations are proved by a search through all of them.
  They hold for up to eight corners.
-/
import Derived.Test.YtbicfognbbeigaaC44
import Derived.Test.YtbicfognbbeigaaC48
import Derived.Test.YtbicfognbbeigaaC64
import Derived.Test.YtbicfognbbeigaaC63
set_option linter.unusedVariables false
set_option linter.unusedSimpArgs false
namespace Go.Proofs.Ytbicfognbbeigaa
open Go.Proofs.Ytbicfognbbeigaa.Ab Go.Proofs.Ytbicfognbbeigaa.Pl

def eqL : List Int → List Int → Bool
  | [], [] => true
  | x :: l, y :: m => x == y && eqL l m
  | _, _ => false
theorem eqL_eq : ∀ {l m : List Int}, eqL l m = true → l = m
  | [], [], _ => rfl
  | x :: l, y :: m, h => by
    unfold eqL at h
    rw [Bool.and_eq_true, beq_iff_eq] at h
    rw [h.1, eqL_eq h.2]
  | [], y :: m, h => by cases h
  | x :: l, [], h => by cases h
def eqLL : List (List Int) → List (List Int) → Bool
  | [], [] => true
  | x :: l, y :: m => eqL x y && eqLL l m
  | _, _ => false
theorem eqLL_eq : ∀ {l m : List (List Int)}, eqLL l m = true → l = m
  | [], [], _ => rfl
  | x :: l, y :: m, h => by
    unfold eqLL at h
    rw [Bool.and_eq_true] at h
    rw [eqL_eq h.1, eqLL_eq h.2]
  | [], y :: m, h => by cases h
  | x :: l, [], h => by cases h
/-- the labels from a corner -/
def labs (n : Nat) (d : List (List Int)) (a : Nat) : List Int := passN (triR n d) (lab0 n d a) n
def friB (n : Nat) (d : List (List Int)) : Bool := isQ (quidF n d) && (eqLL (triQ (quidF n d)).1 d && (quidF n d).sum == 3 * (n : Int) - 6)
def friA (n a : Nat) (d : List (List Int)) : Bool := (List.range n).all fun b => (labs n d a).getD b 0 == (if a ≤ b then ent (frz (quidF n d)) (b - a) ((a + 1) % n) else ent (frz (quidF n d)) (a - b) ((b + 1) % n))
noncomputable def friBC (n : Nat) (r : List Nat) : Bool := friB n (r.reverse.map decR)
noncomputable def friAC (n a : Nat) (r : List Nat) : Bool := friA n a (r.reverse.map decR)
set_option maxRecDepth 100000 in
theorem friB_low : allR (fun n => allC (friBC n) (n - 3) [] (candC n)) [3, 4, 5, 6, 7] = true := by decide +kernel
set_option maxRecDepth 100000 in
theorem friB_eight : allC (friBC 8) 5 [] (candC 8) = true := by decide +kernel
set_option maxRecDepth 100000 in
theorem friA_low : allR (fun n => allR (fun a => allC (friAC n a) (n - 3) [] (candC n)) (List.range n)) [3, 4, 5, 6] = true := by decide +kernel
set_option maxRecDepth 100000 in
theorem friA_seven0 : allR (fun a => allC (friAC 7 a) 4 [] (candC 7)) [0, 1, 2] = true := by decide +kernel
set_option maxRecDepth 100000 in
theorem friA_seven1 : allR (fun a => allC (friAC 7 a) 4 [] (candC 7)) [3, 4, 5, 6] = true := by decide +kernel
set_option maxRecDepth 100000 in
theorem friA_eight0 : allC (friAC 8 0) 5 [] (candC 8) = true := by decide +kernel
set_option maxRecDepth 100000 in
theorem friA_eight1 : allC (friAC 8 1) 5 [] (candC 8) = true := by decide +kernel
set_option maxRecDepth 100000 in
theorem friA_eight2 : allC (friAC 8 2) 5 [] (candC 8) = true := by decide +kernel
set_option maxRecDepth 100000 in
theorem friA_eight3 : allC (friAC 8 3) 5 [] (candC 8) = true := by decide +kernel
set_option maxRecDepth 100000 in
theorem friA_eight4 : allC (friAC 8 4) 5 [] (candC 8) = true := by decide +kernel
set_option maxRecDepth 100000 in
theorem friA_eight5 : allC (friAC 8 5) 5 [] (candC 8) = true := by decide +kernel
set_option maxRecDepth 100000 in
theorem friA_eight6 : allC (friAC 8 6) 5 [] (candC 8) = true := by decide +kernel
set_option maxRecDepth 100000 in
theorem friA_eight7 : allC (friAC 8 7) 5 [] (candC 8) = true := by decide +kernel
theorem friB_fine {n : Nat} (h : 3 ≤ n ∧ n ≤ 8) : allC (friBC n) (n - 3) [] (candC n) = true := by
  by_cases c : n ≤ 7
  · exact allR_all friB_low n (by simp; omega)
  · rw [show n = 8 by omega]; exact friB_eight
theorem friA_fine {n a : Nat} (h : 3 ≤ n ∧ n ≤ 8) (ha : a < n) : allC (friAC n a) (n - 3) [] (candC n) = true := by
  by_cases c : n ≤ 6
  · exact allR_all (allR_all friA_low n (by simp; omega)) a (List.mem_range.2 ha)
  · by_cases d : n = 7
    · subst d
      by_cases e : a ≤ 2
      · exact allR_all friA_seven0 a (by simp; omega)
      · exact allR_all friA_seven1 a (by simp; omega)
    · obtain rfl : n = 8 := by omega
      have : a = 0 ∨ a = 1 ∨ a = 2 ∨ a = 3 ∨ a = 4 ∨ a = 5 ∨ a = 6 ∨ a = 7 := by omega
      rcases this with rfl | rfl | rfl | rfl | rfl | rfl | rfl | rfl
      · exact friA_eight0
      · exact friA_eight1
      · exact friA_eight2
      · exact friA_eight3
      · exact friA_eight4
      · exact friA_eight5
      · exact friA_eight6
      · exact friA_eight7

end Go.Proofs.Ytbicfognbbeigaa

/-
  What a law needs to know of a triangulation's numbers is proved off the search.
  It holds for up to eight corners.
-/
set_option linter.unusedVariables false
set_option linter.unusedSimpArgs false
namespace Go.Proofs.Ytbicfognbbeigaa
open Go.Proofs.Ytbicfognbbeigaa.Ab Go.Proofs.Ytbicfognbbeigaa.Pl

/-- what a law needs to know of a triangulation's numbers -/
structure FriOk (n : Int) (d : List (List Int)) (q : List Int) : Prop where
  eq : quidF n d = q
  n3 : 3 ≤ n ∧ n ≤ 8
  len : (q.length : Int) = n
  is : isQ q = true
  tri : triQ q = (d, true)
  fr : friezeR q = (frz q, true)
  isf : isF (frz q) = true
  sum : q.sum = 3 * n - 6
  bd : ∀ k, k ≤ q.length → -1000000000 ≤ (q.take k).sum ∧ (q.take k).sum ≤ 1000000000
  sym : ∀ a b : Int, 0 ≤ a → a < n → 0 ≤ b → b < n → friF n d b a = friF n d a b
  ent : ∀ a b : Int, 0 ≤ a → a ≤ b → b < n → friF n d a b = Ab.ent (frz q) (b - a).toNat ((a + 1).tmod n).toNat
theorem sum_bd : ∀ (l : List Int) (m : Int), 0 ≤ m → (∀ x ∈ l, 0 ≤ x ∧ x ≤ m) → 0 ≤ l.sum ∧ l.sum ≤ m * l.length
  | [], m, _, _ => by simp
  | x :: l, m, hm, h => by
    have h1 := h x (.head _)
    have h2 := sum_bd l m hm fun y hy => h y (.tail _ hy)
    have e : m * ((l.length + 1 : Nat) : Int) = m * l.length + m := by
      rw [Int.natCast_add, Int.mul_add]
      simp
    rw [List.sum_cons, List.length_cons, e]
    omega
theorem quid_small {n : Int} {d : List (List Int)} : ∀ x ∈ quidF n d, 0 ≤ x ∧ x ≤ (triR n.toNat d).length := fun x hx => by
  unfold quidF at hx
  split at hx
  · obtain ⟨i, hi, rfl⟩ := List.getElem_of_mem hx
    rw [tab_length] at hi
    have := tab_getD (n := n.toNat) (fun v => ((cntT (triR n.toNat d) (v : Nat) : Nat) : Int)) hi
    rw [show (tab n.toNat fun v => ((cntT (triR n.toNat d) (v : Nat) : Nat) : Int)).getD i 0 = (tab n.toNat fun v => ((cntT (triR n.toNat d) (v : Nat) : Nat) : Int))[i] by simp [List.getD, hi]] at this
    rw [this]
    have := cntT_le (triR n.toNat d) (i : Nat)
    omega
  · cases hx
theorem quid_cases {n : Int} {d : List (List Int)} (h8 : isTri n d = true → 2 ≤ n ∧ n ≤ 8) : (∃ q, FriOk n d q) ∨ quidF n d = [] := by
  by_cases h : 3 ≤ n ∧ isTri n d = true
  · left
    obtain ⟨h3, ht⟩ := h
    have hn := h8 ht
    obtain ⟨N, rfl⟩ := Int.eq_ofNat_of_zero_le (show 0 ≤ n by omega)
    have cB : friBC N ((d.map encR).reverse) = true := (isTri_codes ht).all (friB_fine (n := N) (by omega))
    unfold friBC at cB
    rw [List.reverse_reverse, map_dec ht] at cB
    unfold friB at cB
    rw [Bool.and_eq_true, Bool.and_eq_true, beq_iff_eq] at cB
    obtain ⟨c1, c2, c3⟩ := cB
    have lt : (triR N d).length ≤ 6 := by
      have := (tri_tree ht).2.1
      omega
    have ql : (quidF N d).length = N := by
      have e : quidF N d = tab ((N : Int)).toNat fun v => ((cntT (triR ((N : Int)).toNat d) (v : Nat) : Nat) : Int) := if_pos ⟨h3, ht⟩
      rw [e, tab_length]
      rfl
    have pair : ∀ a b : Nat, a < N → b < N → (labs N d a).getD b 0 = (if a ≤ b then Ab.ent (frz (quidF N d)) (b - a) ((a + 1) % N) else Ab.ent (frz (quidF N d)) (a - b) ((b + 1) % N)) := fun a b ha hb => by
      have cA : friAC N a ((d.map encR).reverse) = true := (isTri_codes ht).all (friA_fine (n := N) (by omega) ha)
      unfold friAC at cA
      rw [List.reverse_reverse, map_dec ht] at cA
      have := List.all_eq_true.1 cA b (List.mem_range.2 hb)
      rw [beq_iff_eq] at this
      exact this
    have fr : ∀ a b : Nat, a < N → b < N → friF N d a b = (labs N d a).getD b 0 := fun a b ha hb => by
      have e : friF N d a b = (passN (triR ((N : Int)).toNat d) (lab0 ((N : Int)).toNat d ((a : Int)).toNat) ((N : Int)).toNat).getD ((b : Int)).toNat 0 := if_pos ⟨h3, ht, by omega, by omega⟩
      rw [e]
      rfl
    refine ⟨_, rfl, by omega, by omega, c1, ?_, if_pos c1, frz_fine c1, c3, fun k hk => ?_, fun a b a0 a1 b0 b1 => ?_, fun a b a0 ab b1 => ?_⟩
    · have e : triQ (quidF N d) = (sortL (qSt (quidF N d) ((quidF N d).length - 3)).2.2, true) := if_pos c1
      rw [e] at c2 ⊢
      exact Prod.ext (eqLL_eq c2) rfl
    · have := sum_bd ((quidF N d).take k) 10 (by decide) fun x hx => by
        have h1 := quid_small (n := (N : Int)) (d := d) x (List.mem_of_mem_take hx)
        have e : (triR ((N : Int)).toNat d).length = (triR N d).length := rfl
        omega
      have hl : ((quidF N d).take k).length ≤ 8 := by
        rw [List.length_take]
        omega
      omega
    · obtain ⟨A, rfl⟩ := Int.eq_ofNat_of_zero_le a0
      obtain ⟨B, rfl⟩ := Int.eq_ofNat_of_zero_le b0
      rw [fr A B (by omega) (by omega), fr B A (by omega) (by omega), pair A B (by omega) (by omega), pair B A (by omega) (by omega)]
      by_cases e : A = B
      · rw [e]
      · by_cases f : A < B
        · simp only [if_neg (show ¬ B ≤ A by omega), if_pos (show A ≤ B by omega)]
        · simp only [if_pos (show B ≤ A by omega), if_neg (show ¬ A ≤ B by omega)]
    · obtain ⟨A, rfl⟩ := Int.eq_ofNat_of_zero_le a0
      obtain ⟨B, rfl⟩ := Int.eq_ofNat_of_zero_le (show 0 ≤ b by omega)
      rw [fr A B (by omega) (by omega), pair A B (by omega) (by omega), if_pos (by omega)]
      congr 1
      omega
  · right
    exact if_neg h

end Go.Proofs.Ytbicfognbbeigaa
