/-
  Plain laws of the insertion of rows are proved: both sides' sorts are one function.
  They hold for all rows.
-/
import Derived.Test.YtbicfognbbeigaaGreatH7
import Derived.Test.YtbicfognbbeigaaGreatH4
set_option linter.unusedVariables false
set_option linter.unusedSimpArgs false
namespace Go.Proofs.YtbicfognbbeigaaGreat
open Go.Proofs.YtbicfognbbeigaaGreat.Ab Go.Proofs.YtbicfognbbeigaaGreat.Pl

/-- a row is put into a row of rows, from its end -/
def putQ (x : Nat × List Int) : RL → RL
  | [] => [x]
  | y :: l => if cmpL x.2 y.2 < 0 then y :: putQ x l else x :: y :: l
def putP (R : RL) (x : Nat × List Int) : RL := (putQ x R.reverse).reverse
def putLQ (x : List Int) : List (List Int) → List (List Int)
  | [] => [x]
  | y :: l => if cmpL x y < 0 then y :: putLQ x l else x :: y :: l
def putL (l : List (List Int)) (x : List Int) : List (List Int) := (putLQ x l.reverse).reverse
def sortL (l : List (List Int)) : List (List Int) := l.foldl putL []

theorem putP_snoc (R : RL) (y x : Nat × List Int) : putP (R ++ [y]) x = if cmpL x.2 y.2 < 0 then putP R x ++ [y] else R ++ [y] ++ [x] := by
  unfold putP
  rw [List.reverse_append, List.reverse_singleton, List.singleton_append, putQ]
  split
  · rw [List.reverse_cons]
  · simp
theorem putQ_rws (x : Nat × List Int) : ∀ R : RL, rws (putQ x R) = putLQ x.2 (rws R)
  | [] => rfl
  | y :: R => by
    rw [putQ]
    simp only [rws, List.map_cons, putLQ]
    split
    · rw [List.map_cons]
      have := putQ_rws x R
      simp only [rws] at this
      rw [this]
    · rfl
theorem putP_rws (R : RL) (x : Nat × List Int) : rws (putP R x) = putL (rws R) x.2 := by
  unfold putP putL
  have := putQ_rws x R.reverse
  simp only [rws] at this ⊢
  rw [List.map_reverse, this, List.map_reverse]
theorem putQ_perm (x : Nat × List Int) : ∀ R : RL, (putQ x R).Perm (x :: R)
  | [] => List.Perm.refl _
  | y :: R => by
    rw [putQ]
    split
    · exact ((putQ_perm x R).cons y).trans (List.Perm.swap x y R)
    · exact List.Perm.refl _
theorem putP_perm (R : RL) (x : Nat × List Int) : (putP R x).Perm (x :: R) :=
  (List.reverse_perm _).trans ((putQ_perm x R.reverse).trans ((List.reverse_perm R).cons x))
theorem putP_len (R : RL) (x : Nat × List Int) : (putP R x).length = R.length + 1 := (putP_perm R x).length_eq
theorem putLQ_perm (x : List Int) : ∀ R : List (List Int), (putLQ x R).Perm (x :: R)
  | [] => List.Perm.refl _
  | y :: R => by
    rw [putLQ]
    split
    · exact ((putLQ_perm x R).cons y).trans (List.Perm.swap x y R)
    · exact List.Perm.refl _
theorem putL_perm (R : List (List Int)) (x : List Int) : (putL R x).Perm (x :: R) :=
  (List.reverse_perm _).trans ((putLQ_perm x R.reverse).trans ((List.reverse_perm R).cons x))
theorem putL_len (R : List (List Int)) (x : List Int) : (putL R x).length = R.length + 1 := (putL_perm R x).length_eq
theorem foldPut_perm : ∀ (l acc : List (List Int)), (l.foldl putL acc).Perm (acc ++ l)
  | [], acc => by simp
  | x :: l, acc => by
    rw [List.foldl_cons]
    refine (foldPut_perm l (putL acc x)).trans ?_
    refine ((putL_perm acc x).append_right l).trans ?_
    rw [List.cons_append]
    exact List.perm_middle.symm
theorem sortL_perm (l : List (List Int)) : (sortL l).Perm l := by
  have := foldPut_perm l []
  rwa [List.nil_append] at this
theorem sortL_len (l : List (List Int)) : (sortL l).length = l.length := (sortL_perm l).length_eq

/-- where a row is put: behind the last one that is not greater -/
theorem snoc_cases {α : Type} (l : List α) : l = [] ∨ ∃ m y, l = m ++ [y] :=
  (List.eq_nil_or_concat l).imp id fun ⟨m, y, e⟩ => ⟨m, y, by rw [e, List.concat_eq_append]⟩
theorem putP_at (x : Nat × List Int) : ∀ (n : Nat) (R : RL) (k : Nat), R.length = n → k ≤ n → (∀ j, k ≤ j → j < n → cmpL x.2 (rl R j) < 0) → (k = 0 ∨ ¬ cmpL x.2 (rl R (k - 1)) < 0) → putP R x = R.take k ++ [x] ++ R.drop k
  | 0, R, k, hn, hk, _, _ => by
    have : R = [] := List.eq_nil_of_length_eq_zero hn
    subst this
    simp [putP, putQ]
  | n + 1, R, k, hn, hk, h1, h2 => by
    rcases snoc_cases R with rfl | ⟨M, y, rfl⟩
    · simp at hn
    have hm : M.length = n := by simpa using hn
    rw [putP_snoc]
    have ey : rl (M ++ [y]) n = y.2 := by unfold rl; simp [← hm]
    by_cases e : k = n + 1
    · subst e
      rw [if_neg (by rcases h2 with h2 | h2; exact absurd h2 (by omega); rwa [Nat.add_sub_cancel, ey] at h2)]
      rw [List.take_of_length_le (by simp; omega), List.drop_eq_nil_of_le (by simp; omega)]
      simp
    · have hc := h1 n (by omega) (by omega)
      rw [ey] at hc
      rw [if_pos hc, putP_at x n M k hm (by omega) (fun j a b => by
        have := h1 j a (by omega)
        rwa [rl_before _ _ (by omega)] at this) (by
          by_cases k0 : k = 0
          · exact .inl k0
          · refine .inr ?_
            rcases h2 with h2 | h2
            · exact absurd h2 k0
            · rwa [rl_before _ _ (by omega)] at h2)]
      rw [List.take_append_of_le_length (by omega), List.drop_append_of_le_length (by omega)]
      simp

theorem set2_mid (A : RL) (y x : Nat × List Int) (B : RL) : swp (A ++ y :: x :: B) A.length = A ++ x :: y :: B := by
  unfold swp
  have e0 : (A ++ y :: x :: B).getD A.length (0, []) = y := by simp [List.getD]
  have e1 : (A ++ y :: x :: B).getD (A.length + 1) (0, []) = x := by simp [List.getD, List.getElem?_append_right]
  rw [e0, e1, List.set_append_right _ _ (by omega), List.set_append_right _ _ (by omega)]
  simp
theorem insJ_put (x : Nat × List Int) : ∀ (n : Nat) (A B : RL), A.length = n → insJ n (A ++ x :: B) = putP A x ++ B
  | 0, A, B, h => by
    have : A = [] := List.eq_nil_of_length_eq_zero h
    subst this
    simp [insJ, putP, putQ]
  | n + 1, A, B, h => by
    rcases snoc_cases A with rfl | ⟨M, y, rfl⟩
    · simp at h
    have hm : M.length = n := by simpa using h
    subst hm
    rw [insJ, putP_snoc]
    have e0 : rl (M ++ [y] ++ x :: B) M.length = y.2 := by unfold rl; simp [List.getD]
    have e1 : rl (M ++ [y] ++ x :: B) (M.length + 1) = x.2 := by unfold rl; simp [List.getD, List.getElem?_append_right]
    rw [e0, e1]
    split
    · have : M ++ [y] ++ x :: B = M ++ y :: x :: B := by simp
      rw [this, set2_mid, insJ_put x _ M (y :: B) rfl]
      simp
    · simp
theorem insO_put (R : RL) : ∀ i, i < R.length → insO R i = (R.take (i + 1)).foldl putP [] ++ R.drop (i + 1)
  | 0, h => by
    cases R with
    | nil => simp at h
    | cons x R => simp [insO, putP, putQ]
  | i + 1, h => by
    rw [insO, insO_put R i (by omega), List.drop_eq_getElem_cons h]
    have hl : ((R.take (i + 1)).foldl putP []).length = i + 1 := by
      have : ∀ (l acc : RL), (l.foldl putP acc).length = acc.length + l.length := by
        intro l
        induction l with
        | nil => intro acc; simp
        | cons x l ih => intro acc; rw [List.foldl_cons, ih, putP_len]; simp; omega
      rw [this]
      simp
      omega
    rw [insJ_put _ _ _ _ hl, List.take_succ_eq_append_getElem h, List.foldl_append]
    rfl
theorem foldPut_rws : ∀ (l acc : RL), rws (l.foldl putP acc) = (rws l).foldl putL (rws acc)
  | [], acc => rfl
  | x :: l, acc => by
    rw [List.foldl_cons, foldPut_rws l, putP_rws]
    rfl
theorem insO_rws (R : RL) : rws (insO R (R.length - 1)) = sortL (rws R) := by
  cases R with
  | nil => rfl
  | cons x R =>
    rw [insO_put _ _ (by simp), show (x :: R).length - 1 + 1 = (x :: R).length by simp, List.take_of_length_le (Nat.le_refl _), List.drop_eq_nil_of_le (Nat.le_refl _), List.append_nil, foldPut_rws]
    rfl
theorem sortL_snoc (l : List (List Int)) (x : List Int) : sortL (l ++ [x]) = putL (sortL l) x := by
  unfold sortL
  rw [List.foldl_append]
  rfl

/-! the order is total -/
theorem cmpL_flip : ∀ a b : List Int, cmpL a b = - cmpL b a
  | [], [] => rfl
  | [], _ :: _ => rfl
  | _ :: _, [] => rfl
  | x :: l, y :: m => by
    rw [cmpL, cmpL]
    have := cmpL_flip l m
    split
    · rw [if_neg (by omega)]
    · split
      · rfl
      · exact this
theorem cmpL_refl (a : List Int) : cmpL a a = 0 := by have := cmpL_flip a a; omega
theorem cmpL_eq : ∀ a b : List Int, cmpL a b = 0 → a = b
  | [], [], _ => rfl
  | [], _ :: _, h => by rw [cmpL] at h; omega
  | _ :: _, [], h => by rw [cmpL] at h; omega
  | x :: l, y :: m, h => by
    rw [cmpL] at h
    split at h
    · omega
    · split at h
      · omega
      · rw [cmpL_eq l m h, show x = y by omega]
theorem cmpL_trans : ∀ a b c : List Int, cmpL a b ≤ 0 → cmpL b c ≤ 0 → cmpL a c ≤ 0
  | [], _, [], _, _ => by rw [cmpL]; omega
  | [], _, _ :: _, _, _ => by rw [cmpL]; omega
  | _ :: _, [], _, h, _ => by rw [cmpL] at h; omega
  | _ :: _, _ :: _, [], _, h => by rw [cmpL] at h; omega
  | x :: l, y :: m, z :: n, h, k => by
    rw [cmpL] at h k ⊢
    have := cmpL_trans l m n
    split at h
    · split at k
      · rw [if_pos (by omega)]; omega
      · split at k
        · omega
        · rw [if_pos (by omega)]; omega
    · split at h
      · omega
      · split at k
        · rw [if_pos (by omega)]; omega
        · split at k
          · omega
          · rw [if_neg (by omega), if_neg (by omega)]
            exact this h k
def leL (a b : List Int) : Prop := cmpL a b ≤ 0
theorem putLQ_sorted (x : List Int) : ∀ l : List (List Int), l.Pairwise (fun a b => leL b a) → (putLQ x l).Pairwise fun a b => leL b a
  | [], _ => by simp [putLQ]
  | y :: l, h => by
    have h' := List.pairwise_cons.1 h
    rw [putLQ]
    split
    · rename_i c
      refine List.pairwise_cons.2 ⟨fun z hz => ?_, putLQ_sorted x l h'.2⟩
      cases (putLQ_perm x l).mem_iff.1 hz with
      | head => unfold leL; omega
      | tail _ hz => exact h'.1 z hz
    · rename_i c
      refine List.pairwise_cons.2 ⟨fun z hz => ?_, h⟩
      have e : leL y x := by unfold leL; have := cmpL_flip x y; omega
      cases hz with
      | head => exact e
      | tail _ hz => exact cmpL_trans _ _ _ (h'.1 z hz) e
theorem putL_sorted (l : List (List Int)) (x : List Int) (h : l.Pairwise leL) : (putL l x).Pairwise leL := by
  unfold putL
  rw [List.pairwise_reverse]
  exact putLQ_sorted x _ (by rw [List.pairwise_reverse]; exact h)
theorem sortL_sorted (l : List (List Int)) : (sortL l).Pairwise leL := by
  unfold sortL
  have : ∀ (l acc : List (List Int)), acc.Pairwise leL → (l.foldl putL acc).Pairwise leL := by
    intro l
    induction l with
    | nil => intro acc h; exact h
    | cons x l ih => intro acc h; exact ih _ (putL_sorted acc x h)
  exact this l [] List.Pairwise.nil
theorem sorted_eq : ∀ l m : List (List Int), l.Pairwise leL → m.Pairwise leL → l.Perm m → l = m
  | [], m, _, _, p => (List.nil_perm.1 p).symm
  | x :: l, [], _, _, p => absurd p.length_eq (by simp)
  | x :: l, y :: m, h, k, p => by
    have h' := List.pairwise_cons.1 h
    have k' := List.pairwise_cons.1 k
    have e : x = y := by
      have hy : y ∈ x :: l := p.mem_iff.2 (.head _)
      have hx : x ∈ y :: m := p.mem_iff.1 (.head _)
      cases hy with
      | head => rfl
      | tail _ hy =>
        cases hx with
        | head => rfl
        | tail _ hx =>
          have a := h'.1 y hy
          have b := k'.1 x hx
          unfold leL at a b
          have := cmpL_flip x y
          exact cmpL_eq _ _ (by omega)
    subst e
    rw [sorted_eq l m h'.2 k'.2 (List.Perm.cons_inv p)]
theorem sortL_eq {l m : List (List Int)} (h : m.Pairwise leL) (p : l.Perm m) : sortL l = m := sorted_eq _ _ (sortL_sorted l) h ((sortL_perm l).trans p)

end Go.Proofs.YtbicfognbbeigaaGreat

/-
  All flips of triangulations are triangulations: one check over all of them.
  It holds for up to ten corners.
-/
set_option linter.unusedVariables false
set_option linter.unusedSimpArgs false
namespace Go.Proofs.YtbicfognbbeigaaGreat.Pl
set_option maxRecDepth 100000 in
theorem flips_low : allR (fun m => allC (flipOk m) (m - 3) [] (candC m)) [2, 3, 4, 5, 6, 7, 8] = true := by decide +kernel
set_option maxRecDepth 100000 in
theorem flips_nine : allC (flipOk 9) 6 [] (candC 9) = true := by decide +kernel
set_option maxRecDepth 100000 in
theorem flips_ten : allC (flipOk 10) 7 [] (candC 10) = true := by decide +kernel
theorem flips_fine {n : Nat} (h : 2 ≤ n ∧ n ≤ 10) : allC (flipOk n) (n - 3) [] (candC n) = true := by
  by_cases c : n ≤ 8
  · exact allR_all flips_low n (by simp; omega)
  · by_cases d : n = 9
    · subst d; exact flips_nine
    · rw [show n = 10 by omega]; exact flips_ten
end Go.Proofs.YtbicfognbbeigaaGreat.Pl

/-
  Plain laws of triangulations as rows of diagonals are proved, by their numbers.
  They hold for up to ten corners.
-/
set_option linter.unusedVariables false
set_option linter.unusedSimpArgs false
namespace Go.Proofs.YtbicfognbbeigaaGreat
open Go.Proofs.YtbicfognbbeigaaGreat.Ab Go.Proofs.YtbicfognbbeigaaGreat.Pl

def diagOk (n : Int) (x : List Int) : Prop := x.length = 2 ∧ 0 ≤ x.getD 0 0 ∧ x.getD 0 0 + 2 ≤ x.getD 1 0 ∧ x.getD 1 0 ≤ n - 1 ∧ ¬ (x.getD 0 0 = 0 ∧ x.getD 1 0 = n - 1)
instance (n : Int) (x : List Int) : Decidable (diagOk n x) := inferInstanceAs (Decidable (_ ∧ _))
def crossR (x y : List Int) : Prop := (x.getD 0 0 < y.getD 0 0 ∧ y.getD 0 0 < x.getD 1 0 ∧ x.getD 1 0 < y.getD 1 0) ∨ (y.getD 0 0 < x.getD 0 0 ∧ x.getD 0 0 < y.getD 1 0 ∧ y.getD 1 0 < x.getD 1 0)
instance (x y : List Int) : Decidable (crossR x y) := inferInstanceAs (Decidable (_ ∨ _))
def triRow (n : Int) (f : List (List Int)) (i : Nat) : Prop := diagOk n (f.getD i []) ∧ (0 < i → cmpL (f.getD (i - 1) []) (f.getD i []) < 0) ∧ ∀ k, k < i → ¬ crossR (f.getD k []) (f.getD i [])
instance (n : Int) (f : List (List Int)) (i : Nat) : Decidable (triRow n f i) := inferInstanceAs (Decidable (_ ∧ (0 < i → _) ∧ ∀ k, k < i → _))
def triSz (n : Int) (f : List (List Int)) : Prop := (2 ≤ n ∧ n ≤ 10) ∧ (f.length : Int) = max 0 (n - 3)
instance (n : Int) (f : List (List Int)) : Decidable (triSz n f) := inferInstanceAs (Decidable (_ ∧ _))
def isTri (n : Int) (f : List (List Int)) : Bool := decide (triSz n f ∧ ∀ i, i < f.length → triRow n f i)
theorem isTri_spec {n : Int} {f : List (List Int)} (h : isTri n f = true) : triSz n f ∧ ∀ i, i < f.length → triRow n f i := of_decide_eq_true h
theorem isTri_no {n : Int} {f : List (List Int)} (h : ¬ triSz n f) : isTri n f = false := decide_eq_false fun a => h a.1
theorem isTri_row {n : Int} {f : List (List Int)} {i : Nat} (hi : i < f.length) (h : ¬ triRow n f i) : isTri n f = false := decide_eq_false fun a => h (a.2 i hi)
theorem isTri_yes {n : Int} {f : List (List Int)} (h : triSz n f) (k : ∀ i, i < f.length → triRow n f i) : isTri n f = true := decide_eq_true ⟨h, k⟩

/-! rows and numbers -/
def encR (x : List Int) : Nat := (16 * x.getD 0 0 + x.getD 1 0).toNat
def decR (c : Nat) : List Int := [((c / 16 : Nat) : Int), ((c % 16 : Nat) : Int)]
theorem two_of {x : List Int} (h : x.length = 2) : x = [x.getD 0 0, x.getD 1 0] := by
  match x, h with
  | [a, b], _ => rfl
theorem decR_enc {n : Int} {x : List Int} (h : diagOk n x) (hn : n ≤ 10) : decR (encR x) = x := by
  obtain ⟨h1, h2, h3, h4, h5⟩ := h
  rw [two_of h1]
  generalize x.getD 0 0 = a at *
  generalize x.getD 1 0 = b at *
  unfold decR encR
  simp only [List.getD_cons_zero, List.getD_cons_succ]
  have e1 : (((16 * a + b).toNat / 16 : Nat) : Int) = a := by omega
  have e2 : (((16 * a + b).toNat % 16 : Nat) : Int) = b := by omega
  rw [e1, e2]
theorem encR_parts {n : Int} {x : List Int} (h : diagOk n x) (hn : n ≤ 10) : ((encR x / 16 : Nat) : Int) = x.getD 0 0 ∧ ((encR x % 16 : Nat) : Int) = x.getD 1 0 := by
  obtain ⟨h1, h2, h3, h4, h5⟩ := h
  unfold encR
  omega
theorem dgC_enc {N : Nat} {x : List Int} (h : diagOk N x) (hn : N ≤ 10) : dgC N (encR x) = true ∧ encR x < 160 := by
  have e := encR_parts h (by omega)
  obtain ⟨h1, h2, h3, h4, h5⟩ := h
  rw [dgC_iff]
  refine ⟨⟨by omega, by omega, ?_⟩, by omega⟩
  omega
theorem crC_enc {N : Int} {x y : List Int} (h : diagOk N x) (k : diagOk N y) (hn : N ≤ 10) (c : ¬ crossR x y) : crC (encR x) (encR y) = false := by
  have e := encR_parts h hn
  have g := encR_parts k hn
  unfold crossR at c
  rw [Bool.eq_false_iff]
  simp only [ne_eq, crC_iff]
  omega
theorem cmp_enc {N : Int} {x y : List Int} (h : diagOk N x) (k : diagOk N y) (hn : N ≤ 10) : cmpL x y < 0 ↔ encR x < encR y := by
  have e := encR_parts h hn
  have g := encR_parts k hn
  rw [two_of h.1, two_of k.1]
  rw [two_of h.1] at e
  rw [two_of k.1] at g
  simp only [List.getD_cons_zero, List.getD_cons_succ] at e g
  obtain ⟨h1, h2, h3, h4, h5⟩ := h
  obtain ⟨k1, k2, k3, k4, k5⟩ := k
  simp only [cmpL]
  split
  · omega
  · split
    · omega
    · split
      · omega
      · split
        · omega
        · omega

theorem getD_map_enc (f : List (List Int)) {i : Nat} (h : i < f.length) : (f.map encR).getD i 0 = encR (f.getD i []) := by
  simp [List.getD, h]
theorem isTri_up {n : Int} {f : List (List Int)} (h : isTri n f = true) : ∀ j, j < f.length → ∀ i, i < j → encR (f.getD i []) < encR (f.getD j []) := by
  have s := isTri_spec h
  intro j
  induction j with
  | zero => intro _ i hi; omega
  | succ j ih =>
    intro hj i hi
    have a := s.2 (j + 1) hj
    have b := s.2 j (by omega)
    have c := (cmp_enc b.1 a.1 s.1.1.2).1 (a.2.1 (by omega))
    by_cases e : i = j
    · subst e; exact c
    · have := ih (by omega) i (by omega)
      omega
theorem isTri_codes {N : Nat} {f : List (List Int)} (h : isTri N f = true) : TriC N (f.map encR) := by
  have s := isTri_spec h
  have n10 : N ≤ 10 := by have := s.1.1.2; omega
  refine ⟨?_, fun c hc => ?_, ?_, ?_⟩
  · rw [List.length_map]
    have := s.1.2
    omega
  · obtain ⟨x, hx, rfl⟩ := List.mem_map.1 hc
    obtain ⟨i, hi, rfl⟩ := List.getElem_of_mem hx
    have := (s.2 i hi).1
    have e : f.getD i [] = f[i] := by simp [List.getD, hi]
    rw [e] at this
    exact dgC_enc this n10
  · rw [List.pairwise_iff_getElem]
    intro i j hi hj hij
    have := isTri_up h j (by simpa using hj) i hij
    simp only [List.length_map] at hi hj
    simpa [List.getD, hi, hj] using this
  · rw [List.pairwise_iff_getElem]
    intro i j hi hj hij
    simp only [List.length_map] at hi hj
    have a := s.2 j hj
    have := crC_enc (s.2 i hi).1 a.1 s.1.1.2 (a.2.2 i hij)
    simpa [List.getD, hi, hj] using this
theorem map_dec {n : Int} {f : List (List Int)} (h : isTri n f = true) : (f.map encR).map decR = f := by
  have s := isTri_spec h
  apply List.ext_getElem (by simp)
  intro i h1 h2
  have := decR_enc (s.2 i h2).1 s.1.1.2
  simpa [List.getD, h2] using this

/-! joined corners -/
def jnR (n : Int) (f : List (List Int)) (a b : Int) : Bool := decide (b = a + 1 ∨ (a = 0 ∧ b = n - 1) ∨ ∃ i, i < f.length ∧ ent f i 0 = a ∧ ent f i 1 = b)
/-- the numbers of a triangulation, in reverse -/
def revC (f : List (List Int)) : List Nat := (f.map encR).reverse
theorem tb_rev (f : List (List Int)) (c : Nat) : tb (mskC (revC f)) c = true ↔ ∃ x ∈ f, encR x = c := by
  rw [tb_mask, revC, List.mem_reverse, List.mem_map]
theorem jnC_iff (n m a b : Nat) : jnC n m a b = true ↔ b = a + 1 ∨ tb m (16 * a + b) = true ∨ (a = 0 ∧ b + 1 = n) := by
  have e : Nat.add (Nat.mul 16 a) b = 16 * a + b := rfl
  unfold jnC
  rw [e, beq_of, beq_of, beq_of]
  simp only [cond_decide]
  by_cases c1 : b = a + 1
  · simp [c1]
  · rw [if_neg c1]
    cases tb m (16 * a + b) with
    | true => simp
    | false =>
      simp only [cond_false]
      split
      · simp [c1]; omega
      · simp [c1]; omega
theorem jnR_code {N : Nat} {f : List (List Int)} (h : isTri N f = true) {a b : Nat} (hb : b < 16) : jnR N f a b = jnC N (mskC (revC f)) a b := by
  have s := isTri_spec h
  have n2 := s.1.1.1
  unfold jnR
  rw [Bool.eq_iff_iff, decide_eq_true_iff, jnC_iff, tb_rev]
  constructor
  · rintro (e | ⟨e1, e2⟩ | ⟨i, hi, e1, e2⟩)
    · left; omega
    · right; right; omega
    · right; left
      refine ⟨f.getD i [], ?_, ?_⟩
      · simp [List.getD, hi]
      · unfold ent at e1 e2
        unfold encR
        rw [e1, e2]
        omega
  · rintro (e | e | ⟨e1, e2⟩)
    · left; omega
    · right; right
      obtain ⟨x, hx, e⟩ := e
      obtain ⟨i, hi, rfl⟩ := List.getElem_of_mem hx
      have p := encR_parts (s.2 i hi).1 s.1.1.2
      have eg : f.getD i [] = f[i] := by simp [List.getD, hi]
      refine ⟨i, hi, ?_, ?_⟩
      · unfold ent
        rw [← p.1, eg, e]
        omega
      · unfold ent
        rw [← p.2, eg, e]
        omega
    · right; left; omega
def thR (N : Nat) (f : List (List Int)) (k : Nat) : List Nat := (List.range N).filter fun (c : Nat) => decide ((c : Int) ≠ ent f k 0) && decide ((c : Int) ≠ ent f k 1) && jnR N f (min (c : Int) (ent f k 0)) (max (c : Int) (ent f k 0)) && jnR N f (min (c : Int) (ent f k 1)) (max (c : Int) (ent f k 1))
theorem jmC_eq {N : Nat} {f : List (List Int)} (h : isTri N f = true) {a b : Nat} (ha : a < 16) (hb : b < 16) : jnR N f (min (a : Int) b) (max (a : Int) b) = jmC N (mskC (revC f)) a b := by
  unfold jmC
  rw [ble_of, cond_decide]
  by_cases c : a ≤ b
  · rw [if_pos c, Int.min_eq_left (by omega), Int.max_eq_right (by omega), jnR_code h hb]
  · rw [if_neg c, Int.min_eq_right (by omega), Int.max_eq_left (by omega), jnR_code h ha]
theorem thR_code {N : Nat} {f : List (List Int)} (h : isTri N f = true) {k : Nat} (hk : k < f.length) : thR N f k = thC N (mskC (revC f)) (Nat.div (encR (f.getD k [])) 16) (Nat.mod (encR (f.getD k [])) 16) := by
  have s := isTri_spec h
  have p := encR_parts (s.2 k hk).1 s.1.1.2
  have d := (s.2 k hk).1
  unfold thR thC
  rw [filR_eq]
  apply List.filter_congr
  intro c hc
  have hc := List.mem_range.1 hc
  have n10 := s.1.1.2
  have e1 : Nat.div (encR (f.getD k [])) 16 = encR (f.getD k []) / 16 := rfl
  have e2 : Nat.mod (encR (f.getD k [])) 16 = encR (f.getD k []) % 16 := rfl
  have q := (dgC_enc d (by omega)).2
  have b1 : encR (f.getD k []) / 16 < 16 := by omega
  have b2 : encR (f.getD k []) % 16 < 16 := by omega
  rw [e1, e2]
  unfold ent
  rw [← p.1, ← p.2, jmC_eq h (by omega) b1, jmC_eq h (by omega) b2, beq_of, beq_of, cond_decide, cond_decide]
  generalize encR (f.getD k []) / 16 = a
  generalize encR (f.getD k []) % 16 = b
  by_cases c1 : c = a
  · rw [if_pos c1, decide_eq_false (by omega)]
    rfl
  · rw [if_neg c1, decide_eq_true (by omega)]
    by_cases c2 : c = b
    · rw [if_pos c2, decide_eq_false (by omega)]
      rfl
    · rw [if_neg c2, decide_eq_true (by omega)]
      cases jmC N (mskC (revC f)) c a <;> cases jmC N (mskC (revC f)) c b <;> rfl

/-! flips -/
def flipR (N : Nat) (f : List (List Int)) (k : Nat) : List (List Int) := putL (f.eraseIdx k) [((thR N f k).getD 0 0 : Int), ((thR N f k).getD 1 0 : Int)]
theorem dec_diag {N c : Nat} (h : dgC N c = true) : diagOk N (decR c) := by
  rw [dgC_iff] at h
  obtain ⟨h1, h2, h3⟩ := h
  unfold diagOk decR
  simp only [List.getD_cons_zero, List.getD_cons_succ, List.length_cons, List.length_nil]
  refine ⟨trivial, by omega, by omega, by omega, ?_⟩
  omega
theorem enc_decR (c : Nat) : encR (decR c) = c := by
  unfold encR decR
  simp only [List.getD_cons_zero, List.getD_cons_succ]
  omega
theorem cross_enc {N : Int} {x y : List Int} (h : diagOk N x) (k : diagOk N y) (hn : N ≤ 10) (c : crC (encR x) (encR y) = false) : ¬ crossR x y := by
  have e := encR_parts h hn
  have g := encR_parts k hn
  rw [Bool.eq_false_iff] at c
  simp only [ne_eq, crC_iff] at c
  unfold crossR
  omega
theorem crossR_symm {x y : List Int} (h : ¬ crossR x y) : ¬ crossR y x := by
  unfold crossR at *
  omega
/-- rows in order that do not cross are a triangulation -/
theorem isTri_of {n : Int} {f : List (List Int)} (hz : triSz n f) (hs : f.Pairwise leL) (hd : f.Nodup) (ho : ∀ x ∈ f, diagOk n x) (hc : f.Pairwise fun x y => ¬ crossR x y) : isTri n f = true := by
  refine isTri_yes hz fun i hi => ?_
  have eg : ∀ j, (h : j < f.length) → f.getD j [] = f[j] := fun j h => by simp [List.getD, h]
  refine ⟨by rw [eg i hi]; exact ho _ (List.getElem_mem hi), fun h0 => ?_, fun k hk => ?_⟩
  · have a := List.pairwise_iff_getElem.1 hs (i - 1) i (by omega) hi (by omega)
    have b := List.pairwise_iff_getElem.1 hd (i - 1) i (by omega) hi (by omega)
    rw [eg i hi, eg (i - 1) (by omega)]
    unfold leL at a
    have : cmpL f[i - 1] f[i] ≠ 0 := fun e => b (cmpL_eq _ _ e)
    omega
  · rw [eg i hi, eg k (by omega)]
    exact List.pairwise_iff_getElem.1 hc k i (by omega) hi hk
theorem tri_sorted {n : Int} {f : List (List Int)} (h : isTri n f = true) : f.Pairwise leL := by
  have s := isTri_spec h
  rw [List.pairwise_iff_getElem]
  intro i j hi hj hij
  have := isTri_up h j hj i hij
  have c := (cmp_enc (s.2 i hi).1 (s.2 j hj).1 s.1.1.2).2 this
  have e1 : f.getD i [] = f[i] := by simp [List.getD, hi]
  have e2 : f.getD j [] = f[j] := by simp [List.getD, hj]
  rw [e1, e2] at c
  unfold leL
  omega
theorem tri_nodup {n : Int} {f : List (List Int)} (h : isTri n f = true) : f.Nodup := by
  refine List.pairwise_iff_getElem.2 fun i j hi hj hij e => ?_
  have := isTri_up h j hj i hij
  have e1 : f.getD i [] = f[i] := by simp [List.getD, hi]
  have e2 : f.getD j [] = f[j] := by simp [List.getD, hj]
  rw [e1, e2, e] at this
  omega
theorem tri_diag {n : Int} {f : List (List Int)} (h : isTri n f = true) : ∀ x ∈ f, diagOk n x := fun x hx => by
  obtain ⟨i, hi, rfl⟩ := List.getElem_of_mem hx
  have := ((isTri_spec h).2 i hi).1
  have e1 : f.getD i [] = f[i] := by simp [List.getD, hi]
  rwa [e1] at this
theorem tri_cross {n : Int} {f : List (List Int)} (h : isTri n f = true) : f.Pairwise fun x y => ¬ crossR x y := by
  refine List.pairwise_iff_getElem.2 fun i j hi hj hij => ?_
  have := ((isTri_spec h).2 j hj).2.2 i hij
  have e1 : f.getD i [] = f[i] := by simp [List.getD, hi]
  have e2 : f.getD j [] = f[j] := by simp [List.getD, hj]
  rwa [e1, e2] at this
theorem flip1_two {n : Nat} {r : List Nat} {x : Nat} {t : List Nat} (h : flip1 n r x t = true) : ∃ p q, t = [p, q] ∧ dgC n (16 * p + q) = true ∧ ∀ y ∈ r, y = x ∨ (y ≠ 16 * p + q ∧ crC y (16 * p + q) = false) := by
  match t, h with
  | [], h => cases h
  | [p], h => cases h
  | p :: q :: z :: t, h => cases h
  | [p, q], h =>
    have h : (bif dgC n (16 * p + q) then allR (fun y => bif Nat.beq y x then true else bif Nat.beq y (16 * p + q) then false else !crC y (16 * p + q)) r else false) = true := h
    cases e : dgC n (16 * p + q) with
    | false => rw [e] at h; cases h
    | true =>
      rw [e, cond_true] at h
      refine ⟨p, q, rfl, e, fun y hy => ?_⟩
      have := allR_all h y hy
      rw [beq_of, beq_of, cond_decide, cond_decide] at this
      split at this
      · left; assumption
      · split at this
        · cases this
        · right
          exact ⟨by assumption, by simpa using this⟩
theorem flip_fine {N : Nat} {f : List (List Int)} (h : isTri N f = true) {k : Nat} (hk : k < f.length) : (thR N f k).length = 2 ∧ isTri N (flipR N f k) = true := by
  have s := isTri_spec h
  have n2 : 2 ≤ N ∧ N ≤ 10 := by have := s.1.1; omega
  have o := (isTri_codes h).all (flips_fine n2)
  have ek : f.getD k [] = f[k] := by simp [List.getD, hk]
  have o := allR_all o (encR (f.getD k [])) (List.mem_reverse.2 (List.mem_map.2 ⟨_, by rw [ek]; exact List.getElem_mem hk, rfl⟩))
  have o : flip1 N (revC f) (encR (f.getD k [])) (thC N (mskC (revC f)) (Nat.div (encR (f.getD k [])) 16) (Nat.mod (encR (f.getD k [])) 16)) = true := o
  rw [← thR_code h hk] at o
  obtain ⟨p, q, e, d, hy⟩ := flip1_two o
  refine ⟨by rw [e]; rfl, ?_⟩
  have hq : q < 16 := by
    have : q ∈ thR N f k := by rw [e]; simp
    unfold thR at this
    have := List.mem_range.1 (List.mem_filter.1 this).1
    omega
  have pq : decR (16 * p + q) = [(p : Int), (q : Int)] := by
    unfold decR
    have e1 : (16 * p + q) / 16 = p := by omega
    have e2 : (16 * p + q) % 16 = q := by omega
    rw [e1, e2]
  have ed := dec_diag d
  have es : flipR N f k = putL (f.eraseIdx k) (decR (16 * p + q)) := by
    unfold flipR
    rw [e, pq]
    rfl
  have sub : (f.eraseIdx k).Sublist f := List.eraseIdx_sublist _ _
  have pm := putL_perm (f.eraseIdx k) (decR (16 * p + q))
  have oth : ∀ y ∈ f.eraseIdx k, encR y ≠ 16 * p + q ∧ crC (encR y) (16 * p + q) = false := fun y hy' => by
    have hm := sub.subset hy'
    rcases hy (encR y) (List.mem_reverse.2 (List.mem_map.2 ⟨y, hm, rfl⟩)) with hx | hx
    · exfalso
      obtain ⟨i, hi, e1⟩ := List.mem_eraseIdx_iff_getElem.1 hy'
      obtain ⟨hne, e1⟩ := e1
      subst e1
      have a : encR (f.getD i []) = encR (f.getD k []) := by rw [← hx]; simp [List.getD, hi]
      rcases Nat.lt_or_gt_of_ne hne with c | c
      · have := isTri_up h k hk i c; omega
      · have := isTri_up h i hi k c; omega
    · exact hx
  rw [es]
  refine isTri_of ⟨s.1.1, ?_⟩ (putL_sorted _ _ ((tri_sorted h).sublist sub)) ?_ ?_ ?_
  · rw [putL_len, List.length_eraseIdx, if_pos hk]
    have := s.1.2
    omega
  · rw [pm.nodup_iff, List.nodup_cons]
    refine ⟨fun hm => (oth _ hm).1 (enc_decR _), (tri_nodup h).sublist sub⟩
  · intro x hx
    rcases List.mem_cons.1 (pm.mem_iff.1 hx) with rfl | hx
    · exact ed
    · exact tri_diag h x (sub.subset hx)
  · rw [pm.pairwise_iff fun h => crossR_symm h, List.pairwise_cons]
    refine ⟨fun y hy' => crossR_symm (cross_enc (tri_diag h y (sub.subset hy')) ed (by omega) (by rw [enc_decR]; exact (oth y hy').2)), (tri_cross h).sublist sub⟩
/-- a sort puts the new one in its place -/
theorem flip_sort {N : Nat} {f : List (List Int)} (h : isTri N f = true) {k : Nat} (hk : k < f.length) : sortL (f.set k [((thR N f k).getD 0 0 : Int), ((thR N f k).getD 1 0 : Int)]) = flipR N f k := by
  unfold flipR
  refine sortL_eq (putL_sorted _ _ ((tri_sorted h).sublist (List.eraseIdx_sublist _ _))) ?_
  refine List.Perm.trans ?_ (putL_perm _ _).symm
  generalize [((thR N f k).getD 0 0 : Int), ((thR N f k).getD 1 0 : Int)] = x
  rw [List.set_eq_take_append_cons_drop, if_pos hk, List.eraseIdx_eq_take_drop_succ]
  exact List.perm_middle

end Go.Proofs.YtbicfognbbeigaaGreat
