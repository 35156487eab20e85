/-
  Trees of triangulations have their contracts proved on both sides.
  They hold for all rows of rows.
-/
import Derived.Test.YthadkebcjlpkhaaH17
import Derived.Test.YthadkebcjlpkhaaC62
set_option linter.unusedVariables false
set_option linter.unusedSimpArgs false
namespace Go.Proofs.Ythadkebcjlpkhaa
open Go.Proofs.Ythadkebcjlpkhaa.Ab Go.Proofs.Ythadkebcjlpkhaa.Pl

theorem jnR_zero {n : Int} {f : List (List Int)} {x y : Int} (h : ¬ (x = 0 ∧ y = n - 1)) (hy : 0 ≤ y) : jnR n f x y = jnR 0 f x y := by
  unfold jnR
  rw [Bool.eq_iff_iff, decide_eq_true_iff, decide_eq_true_iff]
  constructor
  · rintro (e | e | e)
    · exact .inl e
    · exact absurd e h
    · exact .inr (.inr e)
  · rintro (e | e | e)
    · exact .inl e
    · exfalso; omega
    · exact .inr (.inr e)

set_option maxHeartbeats 2000000 in
theorem l7Tree_ok (n : Int) (R : RL) (f : List (List Int)) (b M C : Nat) (hR : rws R = f) (hM : M = f.length) (hl : M ≤ 1000000) (two : Two f) (hn : 2 ≤ n ∧ n ≤ 10) : ∀ (k l r : Nat) (i j : Int) (h0 : H), i = l → j = r → l < r → (r : Int) ≤ n - 1 → r - l ≤ k → Grid h0 b R →
    AC env 18 [.int .i64 n, .slice b 0 M C, .int .i64 i, .int .i64 j] h0 fun w h' => w = .str (treeT f k l r).txt ∧ h' = h0 := by
  intro k
  induction k with
  | zero => intro l r i j h0 _ _ h1 h2 h3; omega
  | succ k ih =>
    rintro l r i j h0 rfl rfl hlr hr hk hb
    by_cases one : r = l + 1
    · have fm : firstM f l r = none := find_miss fun p hp => by omega
      rw [treeT_none fm]
      refine AC.enter Try.func18 Try.call18 rfl Try.ntmps18 (of_decide_eq_true (by rfl)) ?_
      repeat' (first
        | refine AW.seq ?_
        | (refine AW.region ?_; conv => whnf)
        | (refine AW.ret ?_; conv => whnf)
        | refine AW.cond (by rfl) ?_
        | (refine Br.dt (by omega) ?_; conv => whnf)
        | (refine Wr.i64 (by omega) ?_; conv => whnf))
      exact ⟨rfl, rfl⟩
    · refine AC.enter Try.func18 Try.call18 rfl Try.ntmps18 (of_decide_eq_true (by rfl)) ?_
      repeat' (first
        | refine AW.seq ?_
        | (refine AW.region ?_; conv => whnf)
        | refine AW.block ?_
        | (refine AW.skip ?_; conv => whnf)
        | refine AW.cond (by rfl) ?_
        | (refine Br.df (by omega) ?_; conv => whnf)
        | (refine Wr.i64 (by omega) ?_; conv => whnf))
      refine AW.loop1 (fun (q : Nat) => [(0, .int .i64 n), (1, .slice b 0 M C), (2, .int .i64 l), (3, .int .i64 r), (9, .int .i64 ((l + 1 + q : Nat) : Int))]) (fun q h' => (q ≤ r - l - 1 ∧ ∀ p, p < q → midP f l r p = false) ∧ h' = h0) (fun q => r - l - q) 0
        (Less.cons rfl (Less.cons rfl (Less.cons rfl (Less.cons rfl (Less.cons rfl (Less.nil _)))))) ⟨⟨by omega, fun p hp => by omega⟩, rfl⟩ ?_
      rintro q h2 ⟨⟨hq, hno⟩, rfl⟩
      by_cases hlt : q < r - l - 1
      · have md : midP f l r q = (jnR 0 f (l : Nat) ((l + 1 + q : Nat) : Int) && jnR 0 f ((l + 1 + q : Nat) : Int) (r : Nat)) := rfl
        have z1 : jnR n f (l : Nat) ((l + 1 + q : Nat) : Int) = jnR 0 f (l : Nat) ((l + 1 + q : Nat) : Int) := jnR_zero (by omega) (by omega)
        have z2 : jnR n f ((l + 1 + q : Nat) : Int) (r : Nat) = jnR 0 f ((l + 1 + q : Nat) : Int) (r : Nat) := jnR_zero (by omega) (by omega)
        cases j1 : jnR 0 f (l : Nat) ((l + 1 + q : Nat) : Int) with
        | false =>
          rw [j1, Bool.false_and] at md
          repeat' (first
            | (refine (l7Side_ok n R f b M C (l : Nat) ((l + 1 + q : Nat) : Int) _ hb hR hM (by omega) two hn (by omega)).mono ?_; rw [z1, j1]; rintro w h' ⟨rfl, e'⟩; subst h'; conv => whnf)
            | refine AW.seq ?_
            | (refine AW.region ?_; conv => whnf)
            | refine AW.block ?_
            | (refine AW.skip ?_; conv => whnf)
            | refine AW.cond (by rfl) ?_
            | (refine Br.ff ?_; conv => whnf)
            | (refine Br.dt (by omega) ?_; conv => whnf)
            | (refine Wr.i64 (by omega) ?_; conv => whnf))
          refine ⟨q + 1, (Less.cons rfl (Less.cons rfl (Less.cons rfl (Less.cons rfl (Less.cons rfl (Less.nil _)))))), ⟨⟨by omega, fun p hp => ?_⟩, rfl⟩, by omega⟩
          by_cases c : p = q
          · rw [c]; exact md
          · exact hno p (by omega)
        | true =>
          rw [j1, Bool.true_and] at md
          cases j2 : jnR 0 f ((l + 1 + q : Nat) : Int) (r : Nat) with
          | false =>
            rw [j2] at md
            repeat' (first
              | (refine (l7Side_ok n R f b M C (l : Nat) ((l + 1 + q : Nat) : Int) _ hb hR hM (by omega) two hn (by omega)).mono ?_; rw [z1, j1]; rintro w h' ⟨rfl, e'⟩; subst h'; conv => whnf)
              | (refine (l7Side_ok n R f b M C ((l + 1 + q : Nat) : Int) (r : Nat) _ hb hR hM (by omega) two hn (by omega)).mono ?_; rw [z2, j2]; rintro w h' ⟨rfl, e'⟩; subst h'; conv => whnf)
              | refine AW.seq ?_
              | (refine AW.region ?_; conv => whnf)
              | refine AW.block ?_
              | (refine AW.skip ?_; conv => whnf)
              | refine AW.cond (by rfl) ?_
              | (refine Br.tt ?_; conv => whnf)
              | (refine Br.ff ?_; conv => whnf)
              | (refine Br.dt (by omega) ?_; conv => whnf)
              | (refine Wr.i64 (by omega) ?_; conv => whnf))
            refine ⟨q + 1, (Less.cons rfl (Less.cons rfl (Less.cons rfl (Less.cons rfl (Less.cons rfl (Less.nil _)))))), ⟨⟨by omega, fun p hp => ?_⟩, rfl⟩, by omega⟩
            by_cases c : p = q
            · rw [c]; exact md
            · exact hno p (by omega)
          | true =>
            rw [j2] at md
            have fm : firstM f l r = some q := find_hit hlt md hno
            have sa := treeT_size f k l (l + 1 + q)
            have sb := treeT_size f k (l + 1 + q) r
            have ta := (treeT f k l (l + 1 + q)).txt_length
            have tb := (treeT f k (l + 1 + q) r).txt_length
            have et : (BT.node (treeT f k l (l + 1 + q)) (treeT f k (l + 1 + q) r)).txt = [40] ++ (treeT f k l (l + 1 + q)).txt ++ (treeT f k (l + 1 + q) r).txt ++ [41] := by
              simp [BT.txt]
            rw [treeT_some fm]
            repeat' (first
              | (refine (l7Side_ok n R f b M C (l : Nat) ((l + 1 + q : Nat) : Int) _ hb hR hM (by omega) two hn (by omega)).mono ?_; rw [z1, j1]; rintro w h' ⟨rfl, e'⟩; subst h'; conv => whnf)
              | (refine (l7Side_ok n R f b M C ((l + 1 + q : Nat) : Int) (r : Nat) _ hb hR hM (by omega) two hn (by omega)).mono ?_; rw [z2, j2]; rintro w h' ⟨rfl, e'⟩; subst h'; conv => whnf)
              | (refine (ih l (l + 1 + q) _ _ _ rfl rfl (by omega) (by omega) (by omega) hb).mono ?_; rintro w h' ⟨rfl, e'⟩; subst h'; conv => whnf)
              | (refine (ih (l + 1 + q) r _ _ _ rfl rfl (by omega) (by omega) (by omega) hb).mono ?_; rintro w h' ⟨rfl, e'⟩; subst h'; conv => whnf)
              | refine AW.seq ?_
              | (refine AW.region ?_; conv => whnf)
              | refine AW.block ?_
              | (refine AW.skip ?_; conv => whnf)
              | (refine AW.ret ?_; conv => whnf)
              | refine AW.cond (by rfl) ?_
              | (refine Br.tt ?_; conv => whnf)
              | (refine Br.dt (by omega) ?_; conv => whnf)
              | (refine Ck.mk (by simp only [List.length_drop, List.length_take, List.length_append, List.length_cons, List.length_nil]; omega) ?_; conv => whnf))
            all_goals exact ⟨by rw [et], rfl⟩
      · have fm : firstM f l r = none := find_miss fun p hp => hno p (by omega)
        rw [treeT_none fm]
        repeat' (first
          | refine AW.seq ?_
          | (refine AW.region ?_; conv => whnf)
          | (refine AW.ret ?_; conv => whnf)
          | (refine AW.exit ?_; conv => whnf)
          | refine AW.cond (by rfl) ?_
          | (refine Br.df (by omega) ?_; conv => whnf))
        exact ⟨rfl, rfl⟩
def binT (n : Int) (f : List (List Int)) : List UInt8 × Bool := if isTri n f = true then ((treeT f 10 0 (n.toNat - 1)).txt, true) else ([], false)
theorem sBinT_ok (n : Int) (R : RL) (f : List (List Int)) (b M C : Nat) (h0 : H) (hb : Grid h0 b R) (hR : rws R = f) (hM : M = f.length) (hl : M ≤ 1000000000) (hn : -9223372036854775808 ≤ n ∧ n ≤ 9223372036854775807) : AC env 10 [.int .i64 n, .slice b 0 M C] h0 fun w h' => w = .tup [.str (binT n f).1, .bool (binT n f).2] ∧ h' = h0 := by
  by_cases ht : isTri n f = true
  · have e : binT n f = ((treeT f 10 0 (n.toNat - 1)).txt, true) := if_pos ht
    have sz := tri_size (N := n.toNat) (f := f) (by rw [show ((n.toNat : Nat) : Int) = n by have := (isTri_spec ht).1.1; omega]; exact ht)
    have n2 := (isTri_spec ht).1.1
    rw [e]
    refine AC.enter Try.func10 Try.call10 rfl Try.ntmps10 (of_decide_eq_true (by rfl)) ?_
    repeat' (first
      | (refine (sIsTri_ok n R f _ _ _ _ hb hR hM (by omega) hn).mono ?_; rw [ht]; rintro v h' ⟨rfl, e'⟩; subst h'; conv => whnf)
      | (refine (l7Tree_ok n R f b M C hR hM (by omega) (tri_two ht) (by omega) 10 0 (n.toNat - 1) _ _ _ rfl (by omega) (by omega) (by omega) (by omega) hb).mono ?_; rintro w h' ⟨rfl, e'⟩; subst h'; conv => whnf)
      | refine AW.seq ?_
      | (refine AW.region ?_; conv => whnf)
      | (refine AW.skip ?_; conv => whnf)
      | (refine AW.ret ?_; conv => whnf)
      | refine AW.cond (by rfl) ?_
      | (refine Br.ff ?_; conv => whnf)
      | (refine Wr.i64 (by omega) ?_; conv => whnf))
    exact ⟨rfl, rfl⟩
  · have e : binT n f = ([], false) := if_neg ht
    have ht : isTri n f = false := by simpa using ht
    rw [e]
    refine AC.enter Try.func10 Try.call10 rfl Try.ntmps10 (of_decide_eq_true (by rfl)) ?_
    repeat' (first
      | (refine (sIsTri_ok n R f _ _ _ _ hb hR hM (by omega) hn).mono ?_; rw [ht]; rintro v h' ⟨rfl, e'⟩; subst h'; conv => whnf)
      | refine AW.seq ?_
      | (refine AW.region ?_; conv => whnf)
      | (refine AW.ret ?_; conv => whnf)
      | refine AW.cond (by rfl) ?_
      | (refine Br.tt ?_; conv => whnf))
    exact ⟨rfl, rfl⟩

end Go.Proofs.Ythadkebcjlpkhaa
