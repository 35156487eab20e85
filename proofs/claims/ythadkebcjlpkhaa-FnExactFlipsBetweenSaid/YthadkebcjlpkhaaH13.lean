/-
  Plain laws of the insertion of rows are proved: both sides' sorts are one function.
  They hold for all rows.
-/
import Derived.Test.YthadkebcjlpkhaaC34
import Derived.Test.YthadkebcjlpkhaaH8
set_option linter.unusedVariables false
set_option linter.unusedSimpArgs false
namespace Go.Proofs.Ythadkebcjlpkhaa
open Go.Proofs.Ythadkebcjlpkhaa.Ab Go.Proofs.Ythadkebcjlpkhaa.Pl

/-- a row is put into a row of rows, from its end -/
def putQ (x : Nat × List Int) : RL → RL
  | [] => [x]
  | y :: l => if cmpL x.2 y.2 < 0 then y :: putQ x l else x :: y :: l
def putP (R : RL) (x : Nat × List Int) : RL := (putQ x R.reverse).reverse
def putLQ (x : List Int) : List (List Int) → List (List Int)
  | [] => [x]
  | y :: l => if cmpL x y < 0 then y :: putLQ x l else x :: y :: l
def putL (l : List (List Int)) (x : List Int) : List (List Int) := (putLQ x l.reverse).reverse
def sortL (l : List (List Int)) : List (List Int) := l.foldl putL []

theorem putP_snoc (R : RL) (y x : Nat × List Int) : putP (R ++ [y]) x = if cmpL x.2 y.2 < 0 then putP R x ++ [y] else R ++ [y] ++ [x] := by
  unfold putP
  rw [List.reverse_append, List.reverse_singleton, List.singleton_append, putQ]
  split
  · rw [List.reverse_cons]
  · simp
theorem putQ_rws (x : Nat × List Int) : ∀ R : RL, rws (putQ x R) = putLQ x.2 (rws R)
  | [] => rfl
  | y :: R => by
    rw [putQ]
    simp only [rws, List.map_cons, putLQ]
    split
    · rw [List.map_cons]
      have := putQ_rws x R
      simp only [rws] at this
      rw [this]
    · rfl
theorem putP_rws (R : RL) (x : Nat × List Int) : rws (putP R x) = putL (rws R) x.2 := by
  unfold putP putL
  have := putQ_rws x R.reverse
  simp only [rws] at this ⊢
  rw [List.map_reverse, this, List.map_reverse]
theorem putQ_perm (x : Nat × List Int) : ∀ R : RL, (putQ x R).Perm (x :: R)
  | [] => List.Perm.refl _
  | y :: R => by
    rw [putQ]
    split
    · exact ((putQ_perm x R).cons y).trans (List.Perm.swap x y R)
    · exact List.Perm.refl _
theorem putP_perm (R : RL) (x : Nat × List Int) : (putP R x).Perm (x :: R) :=
  (List.reverse_perm _).trans ((putQ_perm x R.reverse).trans ((List.reverse_perm R).cons x))
theorem putP_len (R : RL) (x : Nat × List Int) : (putP R x).length = R.length + 1 := (putP_perm R x).length_eq
theorem putLQ_perm (x : List Int) : ∀ R : List (List Int), (putLQ x R).Perm (x :: R)
  | [] => List.Perm.refl _
  | y :: R => by
    rw [putLQ]
    split
    · exact ((putLQ_perm x R).cons y).trans (List.Perm.swap x y R)
    · exact List.Perm.refl _
theorem putL_perm (R : List (List Int)) (x : List Int) : (putL R x).Perm (x :: R) :=
  (List.reverse_perm _).trans ((putLQ_perm x R.reverse).trans ((List.reverse_perm R).cons x))
theorem putL_len (R : List (List Int)) (x : List Int) : (putL R x).length = R.length + 1 := (putL_perm R x).length_eq
theorem foldPut_perm : ∀ (l acc : List (List Int)), (l.foldl putL acc).Perm (acc ++ l)
  | [], acc => by simp
  | x :: l, acc => by
    rw [List.foldl_cons]
    refine (foldPut_perm l (putL acc x)).trans ?_
    refine ((putL_perm acc x).append_right l).trans ?_
    rw [List.cons_append]
    exact List.perm_middle.symm
theorem sortL_perm (l : List (List Int)) : (sortL l).Perm l := by
  have := foldPut_perm l []
  rwa [List.nil_append] at this
theorem sortL_len (l : List (List Int)) : (sortL l).length = l.length := (sortL_perm l).length_eq

/-- where a row is put: behind the last one that is not greater -/
theorem snoc_cases {α : Type} (l : List α) : l = [] ∨ ∃ m y, l = m ++ [y] :=
  (List.eq_nil_or_concat l).imp id fun ⟨m, y, e⟩ => ⟨m, y, by rw [e, List.concat_eq_append]⟩
theorem putP_at (x : Nat × List Int) : ∀ (n : Nat) (R : RL) (k : Nat), R.length = n → k ≤ n → (∀ j, k ≤ j → j < n → cmpL x.2 (rl R j) < 0) → (k = 0 ∨ ¬ cmpL x.2 (rl R (k - 1)) < 0) → putP R x = R.take k ++ [x] ++ R.drop k
  | 0, R, k, hn, hk, _, _ => by
    have : R = [] := List.eq_nil_of_length_eq_zero hn
    subst this
    simp [putP, putQ]
  | n + 1, R, k, hn, hk, h1, h2 => by
    rcases snoc_cases R with rfl | ⟨M, y, rfl⟩
    · simp at hn
    have hm : M.length = n := by simpa using hn
    rw [putP_snoc]
    have ey : rl (M ++ [y]) n = y.2 := by unfold rl; simp [← hm]
    by_cases e : k = n + 1
    · subst e
      rw [if_neg (by rcases h2 with h2 | h2; exact absurd h2 (by omega); rwa [Nat.add_sub_cancel, ey] at h2)]
      rw [List.take_of_length_le (by simp; omega), List.drop_eq_nil_of_le (by simp; omega)]
      simp
    · have hc := h1 n (by omega) (by omega)
      rw [ey] at hc
      rw [if_pos hc, putP_at x n M k hm (by omega) (fun j a b => by
        have := h1 j a (by omega)
        rwa [rl_before _ _ (by omega)] at this) (by
          by_cases k0 : k = 0
          · exact .inl k0
          · refine .inr ?_
            rcases h2 with h2 | h2
            · exact absurd h2 k0
            · rwa [rl_before _ _ (by omega)] at h2)]
      rw [List.take_append_of_le_length (by omega), List.drop_append_of_le_length (by omega)]
      simp

theorem set2_mid (A : RL) (y x : Nat × List Int) (B : RL) : swp (A ++ y :: x :: B) A.length = A ++ x :: y :: B := by
  unfold swp
  have e0 : (A ++ y :: x :: B).getD A.length (0, []) = y := by simp [List.getD]
  have e1 : (A ++ y :: x :: B).getD (A.length + 1) (0, []) = x := by simp [List.getD, List.getElem?_append_right]
  rw [e0, e1, List.set_append_right _ _ (by omega), List.set_append_right _ _ (by omega)]
  simp
theorem insJ_put (x : Nat × List Int) : ∀ (n : Nat) (A B : RL), A.length = n → insJ n (A ++ x :: B) = putP A x ++ B
  | 0, A, B, h => by
    have : A = [] := List.eq_nil_of_length_eq_zero h
    subst this
    simp [insJ, putP, putQ]
  | n + 1, A, B, h => by
    rcases snoc_cases A with rfl | ⟨M, y, rfl⟩
    · simp at h
    have hm : M.length = n := by simpa using h
    subst hm
    rw [insJ, putP_snoc]
    have e0 : rl (M ++ [y] ++ x :: B) M.length = y.2 := by unfold rl; simp [List.getD]
    have e1 : rl (M ++ [y] ++ x :: B) (M.length + 1) = x.2 := by unfold rl; simp [List.getD, List.getElem?_append_right]
    rw [e0, e1]
    split
    · have : M ++ [y] ++ x :: B = M ++ y :: x :: B := by simp
      rw [this, set2_mid, insJ_put x _ M (y :: B) rfl]
      simp
    · simp
theorem insO_put (R : RL) : ∀ i, i < R.length → insO R i = (R.take (i + 1)).foldl putP [] ++ R.drop (i + 1)
  | 0, h => by
    cases R with
    | nil => simp at h
    | cons x R => simp [insO, putP, putQ]
  | i + 1, h => by
    rw [insO, insO_put R i (by omega), List.drop_eq_getElem_cons h]
    have hl : ((R.take (i + 1)).foldl putP []).length = i + 1 := by
      have : ∀ (l acc : RL), (l.foldl putP acc).length = acc.length + l.length := by
        intro l
        induction l with
        | nil => intro acc; simp
        | cons x l ih => intro acc; rw [List.foldl_cons, ih, putP_len]; simp; omega
      rw [this]
      simp
      omega
    rw [insJ_put _ _ _ _ hl, List.take_succ_eq_append_getElem h, List.foldl_append]
    rfl
theorem foldPut_rws : ∀ (l acc : RL), rws (l.foldl putP acc) = (rws l).foldl putL (rws acc)
  | [], acc => rfl
  | x :: l, acc => by
    rw [List.foldl_cons, foldPut_rws l, putP_rws]
    rfl
theorem insO_rws (R : RL) : rws (insO R (R.length - 1)) = sortL (rws R) := by
  cases R with
  | nil => rfl
  | cons x R =>
    rw [insO_put _ _ (by simp), show (x :: R).length - 1 + 1 = (x :: R).length by simp, List.take_of_length_le (Nat.le_refl _), List.drop_eq_nil_of_le (Nat.le_refl _), List.append_nil, foldPut_rws]
    rfl
theorem sortL_snoc (l : List (List Int)) (x : List Int) : sortL (l ++ [x]) = putL (sortL l) x := by
  unfold sortL
  rw [List.foldl_append]
  rfl

/-! the order is total -/
theorem cmpL_flip : ∀ a b : List Int, cmpL a b = - cmpL b a
  | [], [] => rfl
  | [], _ :: _ => rfl
  | _ :: _, [] => rfl
  | x :: l, y :: m => by
    rw [cmpL, cmpL]
    have := cmpL_flip l m
    split
    · rw [if_neg (by omega)]
    · split
      · rfl
      · exact this
theorem cmpL_refl (a : List Int) : cmpL a a = 0 := by have := cmpL_flip a a; omega
theorem cmpL_eq : ∀ a b : List Int, cmpL a b = 0 → a = b
  | [], [], _ => rfl
  | [], _ :: _, h => by rw [cmpL] at h; omega
  | _ :: _, [], h => by rw [cmpL] at h; omega
  | x :: l, y :: m, h => by
    rw [cmpL] at h
    split at h
    · omega
    · split at h
      · omega
      · rw [cmpL_eq l m h, show x = y by omega]
theorem cmpL_trans : ∀ a b c : List Int, cmpL a b ≤ 0 → cmpL b c ≤ 0 → cmpL a c ≤ 0
  | [], _, [], _, _ => by rw [cmpL]; omega
  | [], _, _ :: _, _, _ => by rw [cmpL]; omega
  | _ :: _, [], _, h, _ => by rw [cmpL] at h; omega
  | _ :: _, _ :: _, [], _, h => by rw [cmpL] at h; omega
  | x :: l, y :: m, z :: n, h, k => by
    rw [cmpL] at h k ⊢
    have := cmpL_trans l m n
    split at h
    · split at k
      · rw [if_pos (by omega)]; omega
      · split at k
        · omega
        · rw [if_pos (by omega)]; omega
    · split at h
      · omega
      · split at k
        · rw [if_pos (by omega)]; omega
        · split at k
          · omega
          · rw [if_neg (by omega), if_neg (by omega)]
            exact this h k
def leL (a b : List Int) : Prop := cmpL a b ≤ 0
theorem putLQ_sorted (x : List Int) : ∀ l : List (List Int), l.Pairwise (fun a b => leL b a) → (putLQ x l).Pairwise fun a b => leL b a
  | [], _ => by simp [putLQ]
  | y :: l, h => by
    have h' := List.pairwise_cons.1 h
    rw [putLQ]
    split
    · rename_i c
      refine List.pairwise_cons.2 ⟨fun z hz => ?_, putLQ_sorted x l h'.2⟩
      cases (putLQ_perm x l).mem_iff.1 hz with
      | head => unfold leL; omega
      | tail _ hz => exact h'.1 z hz
    · rename_i c
      refine List.pairwise_cons.2 ⟨fun z hz => ?_, h⟩
      have e : leL y x := by unfold leL; have := cmpL_flip x y; omega
      cases hz with
      | head => exact e
      | tail _ hz => exact cmpL_trans _ _ _ (h'.1 z hz) e
theorem putL_sorted (l : List (List Int)) (x : List Int) (h : l.Pairwise leL) : (putL l x).Pairwise leL := by
  unfold putL
  rw [List.pairwise_reverse]
  exact putLQ_sorted x _ (by rw [List.pairwise_reverse]; exact h)
theorem sortL_sorted (l : List (List Int)) : (sortL l).Pairwise leL := by
  unfold sortL
  have : ∀ (l acc : List (List Int)), acc.Pairwise leL → (l.foldl putL acc).Pairwise leL := by
    intro l
    induction l with
    | nil => intro acc h; exact h
    | cons x l ih => intro acc h; exact ih _ (putL_sorted acc x h)
  exact this l [] List.Pairwise.nil
theorem sorted_eq : ∀ l m : List (List Int), l.Pairwise leL → m.Pairwise leL → l.Perm m → l = m
  | [], m, _, _, p => (List.nil_perm.1 p).symm
  | x :: l, [], _, _, p => absurd p.length_eq (by simp)
  | x :: l, y :: m, h, k, p => by
    have h' := List.pairwise_cons.1 h
    have k' := List.pairwise_cons.1 k
    have e : x = y := by
      have hy : y ∈ x :: l := p.mem_iff.2 (.head _)
      have hx : x ∈ y :: m := p.mem_iff.1 (.head _)
      cases hy with
      | head => rfl
      | tail _ hy =>
        cases hx with
        | head => rfl
        | tail _ hx =>
          have a := h'.1 y hy
          have b := k'.1 x hx
          unfold leL at a b
          have := cmpL_flip x y
          exact cmpL_eq _ _ (by omega)
    subst e
    rw [sorted_eq l m h'.2 k'.2 (List.Perm.cons_inv p)]
theorem sortL_eq {l m : List (List Int)} (h : m.Pairwise leL) (p : l.Perm m) : sortL l = m := sorted_eq _ _ (sortL_sorted l) h ((sortL_perm l).trans p)

end Go.Proofs.Ythadkebcjlpkhaa

/-
  All flips of triangulations are triangulations: one check over all of them.
  It holds for up to ten corners.
-/
set_option linter.unusedVariables false
set_option linter.unusedSimpArgs false
namespace Go.Proofs.Ythadkebcjlpkhaa.Pl
set_option maxRecDepth 100000 in
theorem flips_low : allR (fun m => allC (flipOk m) (m - 3) [] (candC m)) [2, 3, 4, 5, 6, 7, 8] = true := by decide +kernel
set_option maxRecDepth 100000 in
theorem flips_nine : allC (flipOk 9) 6 [] (candC 9) = true := by decide +kernel
set_option maxRecDepth 100000 in
theorem flips_ten : allC (flipOk 10) 7 [] (candC 10) = true := by decide +kernel
theorem flips_fine {n : Nat} (h : 2 ≤ n ∧ n ≤ 10) : allC (flipOk n) (n - 3) [] (candC n) = true := by
  by_cases c : n ≤ 8
  · exact allR_all flips_low n (by simp; omega)
  · by_cases d : n = 9
    · subst d; exact flips_nine
    · rw [show n = 10 by omega]; exact flips_ten
end Go.Proofs.Ythadkebcjlpkhaa.Pl
