/-
  Contracts of triangulations and of joined corners are proved.
  They hold for all rows of rows.
-/
import Derived.Test.YtbicfognbbeigaaGreatC46
import Derived.Test.YtbicfognbbeigaaGreatC37
set_option linter.unusedVariables false
set_option linter.unusedSimpArgs false
namespace Go.Proofs.YtbicfognbbeigaaGreat
open Go.Proofs.YtbicfognbbeigaaGreat.Ab Go.Proofs.YtbicfognbbeigaaGreat.Pl

theorem cmpL_two (x y : List Int) (b c C D : Nat) (h0 : H) (hb : Has h0 b (ints x)) (hc' : Has h0 c (ints y)) (hx : x.length = 2) (hy : y.length = 2) : AC env 51 [.slice b 0 2 C, .slice c 0 2 D] h0 fun v h' => v = .int .i64 (cmpL x y) ∧ h' = h0 := by
  have := cmpL_ok x y b c C D h0 hb hc' (by omega) (by omega)
  rwa [hx, hy] at this
theorem isDiagonal_two (n : Int) (x : List Int) (b C : Nat) (h0 : H) (hb : Has h0 b (ints x)) (hx : x.length = 2) (hn : 2 ≤ n ∧ n ≤ 1000) : AC env 62 [.int .i64 n, .slice b 0 2 C] h0 fun v h' => v = .bool (decide (diagOk n x)) ∧ h' = h0 :=
  isDiagonal_ok n x b 2 C h0 hb hx.symm hn (by omega)
theorem isDiagonal_len (n : Int) (b N C : Nat) (h0 : H) (hN : N ≠ 2) : AC env 62 [.int .i64 n, .slice b 0 N C] h0 fun v h' => v = .bool false ∧ h' = h0 := by
  refine AC.enter Tryz.func62 Tryz.call62 rfl Tryz.ntmps62 (of_decide_eq_true (by rfl)) ?_
  repeat' (first
    | refine AW.seq ?_
    | (refine AW.region ?_; conv => whnf)
    | (refine AW.ret ?_; conv => whnf)
    | (refine AW.draw (id := 1) (.p 0 (.p 1 (.p 2 (.p 3 (.p 4 (.p 5 (.p 7 (.p 8 (.r 6 [9, 10, 11, 12, 13, 14, 15, 16, 17, 18, 19, 20, 21, 22, 23, 24, 25, 26, 27, 28, 29, 30, 31, 32, 33, 34, 35, 36, 37, 38, 39, 40, 41, 42, 43] (.all [9] fun _ => (.p 10 (.p 11 (.p 12 (.p 13 (.p 15 (.p 16 (.r 14 [17, 18, 19, 20, 21, 22, 23, 24, 25, 26, 27, 28, 29, 30, 31, 32, 33, 34, 35, 36, 37, 38, 39, 40, 41, 42, 43] (.all [17] fun _ => (.p 18 (.p 19 (.p 20 (.p 21 (.p 23 (.p 24 (.r 22 [26, 27, 28, 29, 30, 31, 32, 33, 34, 35, 36, 37, 38, 39, 40, 41, 42, 43] (.r 25 [26, 27, 28, 29, 30, 31, 32, 33, 34, 35, 36, 37, 38, 39, 40, 41, 42, 43] (.p 26 (.p 27 (.p 28 (.p 29 (.p 30 (.p 31 (.r 32 [33, 34, 35, 36, 37, 38, 39, 40, 41, 42, 43] (.p 33 (.p 34 (.p 35 (.p 36 (.p 38 (.p 39 (.r 37 [40, 41, 42, 43] (.p 40 (.p 41 (.p 42 (.p 43 .done)))))))))))))))))))))))))))))))))))))))))))) (by kernel_rfl) (by kernel_rfl) ?_; conv => whnf)
    | (refine Br.ff ?_; conv => whnf)
    | (refine Br.df (by omega) ?_; conv => whnf))
  all_goals exact ⟨rfl, rfl⟩

set_option maxHeartbeats 4000000 in
theorem iIsTri_ok (n : Int) (R : RL) (f : List (List Int)) (b N C : Nat) (h0 : H) (hb : Grid h0 b R) (hR : rws R = f) (hN : N = f.length) (hl : N ≤ 1000000000) (hC : N ≤ C) (hn : -9223372036854775808 ≤ n ∧ n ≤ 9223372036854775807) : AC env 14 [.int .i64 n, .slice b 0 N C] h0 fun v h' => v = .bool (isTri n f) ∧ h' = h0 := by
  have lR : R.length = N := by rw [hN, ← hR, rws_length]
  have ed : triSz n f ↔ (2 ≤ n ∧ n ≤ 10) ∧ (f.length : Int) = max 0 (n - 3) := Iff.rfl
  by_cases hsz : triSz n f
  · obtain ⟨hz, hz2⟩ := hsz
    refine AC.enter Tryz.func14 Tryz.call14 rfl Tryz.ntmps14 (of_decide_eq_true (by rfl)) ?_
    repeat' (first
      | refine AW.seq ?_
      | (refine AW.region ?_; conv => whnf)
      | refine AW.block ?_
      | (refine AW.skip ?_; conv => whnf)
      | refine AW.cond (by rfl) ?_
      | (refine (within_ok _ _ _ _).mono ?_; rintro v h' ⟨rfl, e'⟩; subst h'; conv => whnf)
      | refine Br.not ?_
      | (refine Br.dt (by omega) ?_; conv => whnf)
      | (refine Wr.i64 (by omega) ?_; conv => whnf))
    refine AW.loop1 (fun (i : Nat) => [(0, .int .i64 n), (1, .slice b 0 N C), (20, .slice b 0 N C), (21, .int .i64 N), (22, .int .i64 i)]) (fun i h' => i ≤ N ∧ (∀ j, j < i → triRow n f j) ∧ h' = h0) (fun i => N - i) 0 (Less.cons rfl (Less.cons rfl (Less.cons rfl (Less.cons rfl (Less.cons rfl (Less.nil _)))))) ⟨by omega, fun j hj => by omega, rfl⟩ ?_
    rintro i h' ⟨hi, hrows, rfl⟩
    by_cases hlt : i < N
    · have er : ∀ j, f.getD j [] = rl R j := fun j => rws_at hR j
      by_cases d : diagOk n (f.getD i [])
      · have l2 := d.1
        have dk : decide (diagOk n (rl R i)) = true := by rw [← er]; exact decide_eq_true d
        have two : ∀ j, j ≤ i → (rl R j).length = 2 := fun j hj => by
          rw [← er]
          by_cases e : j = i
          · rw [e]; exact l2
          · exact (hrows j (by omega)).1.1
        have twf : ∀ j, j ≤ i → (f.getD j []).length = 2 := fun j hj => by rw [er]; exact two j hj
        by_cases key : 0 < i ∧ ¬ cmpL (f.getD (i - 1) []) (f.getD i []) < 0
        · obtain ⟨k1, k2⟩ := key
          have no := isTri_row (n := n) (by omega) (triRow_no2 k1 k2)
          have kd : 0 ≤ cmpL (rl R (i - 1)) (rl R i) := by rw [← er, ← er]; omega
          repeat' (first
            | (refine Grid.rowAt hb hR i rfl (by omega) (by omega) l2 ?_; conv => whnf)
            | (refine Grid.rowAt hb hR (i - 1) rfl (by omega) (by omega) (twf _ (by omega)) ?_; conv => whnf)
            | (refine (isDiagonal_two n (rl R i) _ _ _ (hb.at (by omega)) (two _ (by omega)) (by omega)).mono ?_; rw [dk]; rintro v h' ⟨rfl, e'⟩; subst h'; conv => whnf)
            | (refine (cmpL_two (rl R (i - 1)) (rl R i) _ _ _ _ _ (hb.at (by omega)) (hb.at (by omega)) (two _ (by omega)) (two _ (by omega))).mono ?_; rintro v h' ⟨rfl, e'⟩; subst h'; conv => whnf)
            | refine AW.seq ?_
            | (refine AW.region ?_; conv => whnf)
            | refine AW.block ?_
            | (refine AW.skip ?_; conv => whnf)
            | (refine AW.ret ?_; conv => whnf)
            | refine AW.cond (by rfl) ?_
            | (refine Br.ff ?_; conv => whnf)
            | (refine Br.dt (by omega) ?_; conv => whnf)
            | (refine Wr.i64 (by omega) ?_; conv => whnf)
            | (refine Ck.mk (by omega) ?_; conv => whnf))
          all_goals exact ⟨by rw [no], rfl⟩
        · have kc : 0 < i → cmpL (f.getD (i - 1) []) (f.getD i []) < 0 := fun h => Classical.byContradiction fun c => key ⟨h, c⟩
          have kd : 0 < i → cmpL (rl R (i - 1)) (rl R i) < 0 := fun h => by rw [← er, ← er]; exact kc h
          repeat' (first
            | (refine Grid.rowAt hb hR i rfl (by omega) (by omega) l2 ?_; conv => whnf)
            | (refine Grid.rowAt hb hR (i - 1) rfl (by omega) (by omega) (twf _ (by omega)) ?_; conv => whnf)
            | (refine (isDiagonal_two n (rl R i) _ _ _ (hb.at (by omega)) (two _ (by omega)) (by omega)).mono ?_; rw [dk]; rintro v h' ⟨rfl, e'⟩; subst h'; conv => whnf)
            | (refine (cmpL_two (rl R (i - 1)) (rl R i) _ _ _ _ _ (hb.at (by omega)) (hb.at (by omega)) (two _ (by omega)) (two _ (by omega))).mono ?_; have kd' := kd (by omega); rintro v h' ⟨rfl, e'⟩; subst h'; conv => whnf)
            | refine AW.seq ?_
            | (refine AW.region ?_; conv => whnf)
            | refine AW.block ?_
            | (refine AW.skip ?_; conv => whnf)
            | refine AW.cond (by rfl) ?_
            | (refine Br.ff ?_; conv => whnf)
            | (refine Br.dt (by omega) ?_; conv => whnf)
            | (refine Br.df (by omega) ?_; conv => whnf)
            | (refine Br.dec (fun hc => ?_) (fun hc => ?_) <;> conv => whnf)
            | (refine Wr.i64 (by omega) ?_; conv => whnf)
            | (refine Ck.mk (by omega) ?_; conv => whnf))
          all_goals (repeat (clear hc))
          all_goals
            refine AW.loop1 (fun (k : Nat) => [(0, .int .i64 n), (1, .slice b 0 N C), (20, .slice b 0 N C), (21, .int .i64 N), (22, .int .i64 i), (5, .int .i64 i), (6, .slice (rb R i) 0 2 2), (47, .slice b 0 i C), (48, .int .i64 i), (49, .int .i64 k)]) (fun k h'' => k ≤ i ∧ (∀ j, j < k → ¬ crossR (f.getD j []) (f.getD i [])) ∧ h'' = h') (fun k => i - k) 0 (Less.cons rfl (Less.cons rfl (Less.cons rfl (Less.cons rfl (Less.cons rfl (Less.cons rfl (Less.cons rfl (Less.cons rfl (Less.cons rfl (Less.cons rfl (Less.nil _))))))))))) ⟨by omega, fun j hj => by omega, rfl⟩ ?_
            rintro k h'' ⟨hk, hcr, rfl⟩
            by_cases hlt2 : k < i
            · have cx : crossR (f.getD k []) (f.getD i []) ↔ (ent f k 0 < ent f i 0 ∧ ent f i 0 < ent f k 1 ∧ ent f k 1 < ent f i 1) ∨ (ent f i 0 < ent f k 0 ∧ ent f k 0 < ent f i 1 ∧ ent f i 1 < ent f k 1) := Iff.rfl
              repeat' (first
                | (refine Grid.rowAt hb hR k rfl (by omega) (by omega) (twf _ (by omega)) ?_; conv => whnf)
                | (refine Grid.num2 hb hR i 0 rfl (by omega) l2 (by omega) ?_; conv => whnf)
                | (refine Grid.num2 hb hR i 1 rfl (by omega) l2 (by omega) ?_; conv => whnf)
                | (refine Grid.num2 hb hR k 0 rfl (by omega) (twf _ (by omega)) (by omega) ?_; conv => whnf)
                | (refine Grid.num2 hb hR k 1 rfl (by omega) (twf _ (by omega)) (by omega) ?_; conv => whnf)
                | refine AW.seq ?_
                | (refine AW.region ?_; conv => whnf)
                | refine AW.block ?_
                | (refine AW.skip ?_; conv => whnf)
                | (refine AW.ret ?_; conv => whnf)
                | refine AW.cond (by rfl) ?_
                | (refine AW.draw (id := 11) (.p 0 (.p 1 (.p 3 (.p 4 (.r 2 [6, 7, 8, 9, 10, 11, 12, 13, 14, 15, 16, 17, 18, 19, 20, 21, 22, 23, 24, 25, 26, 27, 28, 29, 30, 31, 32, 33, 34, 35, 36, 37, 38, 39, 40, 41, 42, 43, 44, 45, 46, 47, 48, 49, 50, 51] (.r 5 [6, 7, 8, 9, 10, 11, 12, 13, 14, 15, 16, 17, 18, 19, 20, 21, 22, 23, 24, 25, 26, 27, 28, 29, 30, 31, 32, 33, 34, 35, 36, 37, 38, 39, 40, 41, 42, 43, 44, 45, 46, 47, 48, 49, 50, 51] (.p 6 (.p 7 (.p 8 (.p 9 (.p 11 (.p 12 (.r 10 [14, 15, 16, 17, 18, 19, 20, 21, 22, 23, 24, 25, 26, 27, 28, 29, 30, 31, 32, 33, 34, 35, 36, 37, 38, 39, 40, 41, 42, 43, 44, 45, 46, 47, 48, 49, 50, 51] (.r 13 [14, 15, 16, 17, 18, 19, 20, 21, 22, 23, 24, 25, 26, 27, 28, 29, 30, 31, 32, 33, 34, 35, 36, 37, 38, 39, 40, 41, 42, 43, 44, 45, 46, 47, 48, 49, 50, 51] (.p 14 (.p 15 (.p 16 (.p 17 (.p 18 (.p 20 (.p 21 (.r 19 [23, 24, 25, 26, 27, 28, 29, 30, 31, 32, 33, 34, 35, 36, 37, 38, 39, 40, 41, 42, 43, 44, 45, 46, 47, 48, 49, 50, 51] (.r 22 [23, 24, 25, 26, 27, 28, 29, 30, 31, 32, 33, 34, 35, 36, 37, 38, 39, 40, 41, 42, 43, 44, 45, 46, 47, 48, 49, 50, 51] (.p 23 (.p 24 (.p 25 (.p 26 (.p 27 (.p 29 (.p 30 (.r 28 [32, 33, 34, 35, 36, 37, 38, 39, 40, 41, 42, 43, 44, 45, 46, 47, 48, 49, 50, 51] (.r 31 [32, 33, 34, 35, 36, 37, 38, 39, 40, 41, 42, 43, 44, 45, 46, 47, 48, 49, 50, 51] (.p 32 (.p 33 (.p 34 (.p 35 (.p 37 (.p 38 (.r 36 [40, 41, 42, 43, 44, 45, 46, 47, 48, 49, 50, 51] (.r 39 [40, 41, 42, 43, 44, 45, 46, 47, 48, 49, 50, 51] (.p 40 (.p 41 (.p 42 (.p 43 (.p 44 (.p 46 (.p 47 (.r 45 [49, 50, 51] (.r 48 [49, 50, 51] (.p 49 (.p 50 (.p 51 .done)))))))))))))))))))))))))))))))))))))))))))))))))))) (by kernel_rfl) (by kernel_rfl) ?_; conv => whnf)
                | (refine Br.tt ?_; conv => whnf)
                | (refine Br.ff ?_; conv => whnf)
                | (refine Br.dt (by omega) ?_; conv => whnf)
                | (refine Br.df (by omega) ?_; conv => whnf)
                | (refine Br.dec (fun hc => ?_) (fun hc => ?_) <;> conv => whnf)
                | (refine Wr.i64 (by omega) ?_; conv => whnf)
                | (refine Ck.mk (by omega) ?_; conv => whnf))
              all_goals first
                | (have cr : crossR (f.getD k []) (f.getD i []) := by rw [cx]; omega
                   have no := isTri_row (n := n) (by omega) (triRow_no3 hlt2 cr)
                   exact ⟨by rw [no], rfl⟩)
                | (refine ⟨k + 1, (Less.cons rfl (Less.cons rfl (Less.cons rfl (Less.cons rfl (Less.cons rfl (Less.cons rfl (Less.cons rfl (Less.cons rfl (Less.cons rfl (Less.cons rfl (Less.nil _))))))))))), ⟨by omega, fun j hj => ?_, rfl⟩, by omega⟩
                   by_cases e : j = k
                   · rw [e, cx]; omega
                   · exact hcr j (by omega))
            · repeat' (first
                | refine AW.seq ?_
                | (refine AW.region ?_; conv => whnf)
                | (refine AW.exit ?_; conv => whnf)
                | refine AW.cond (by rfl) ?_
                | (refine Br.df (by omega) ?_; conv => whnf)
                | (refine Wr.i64 (by omega) ?_; conv => whnf))
              refine ⟨i + 1, (Less.cons rfl (Less.cons rfl (Less.cons rfl (Less.cons rfl (Less.cons rfl (Less.nil _)))))), ⟨by omega, fun j hj => ?_, rfl⟩, by omega⟩
              by_cases e : j = i
              · rw [e]; exact ⟨d, kc, fun k hk => hcr k (by omega)⟩
              · exact hrows j (by omega)
      · have no := isTri_row (n := n) (by omega) (triRow_no1 d)
        have dk : decide (diagOk n (rl R i)) = false := by rw [← er]; exact decide_eq_false d
        by_cases l2 : (f.getD i []).length = 2
        · repeat' (first
            | (refine Grid.rowAt hb hR i rfl (by omega) (by omega) l2 ?_; conv => whnf)
            | (refine (isDiagonal_two n (rl R i) _ _ _ (hb.at (by omega)) (by rw [← er]; exact l2) (by omega)).mono ?_; rw [dk]; rintro v h' ⟨rfl, e'⟩; subst h'; conv => whnf)
            | refine AW.seq ?_
            | (refine AW.region ?_; conv => whnf)
            | refine AW.block ?_
            | (refine AW.skip ?_; conv => whnf)
            | (refine AW.ret ?_; conv => whnf)
            | refine AW.cond (by rfl) ?_
            | (refine Br.tt ?_; conv => whnf)
            | (refine Br.dt (by omega) ?_; conv => whnf)
            | (refine Ck.mk (by omega) ?_; conv => whnf))
          all_goals exact ⟨by rw [no], rfl⟩
        · repeat' (first
            | (refine Grid.rowAt hb hR i rfl (by omega) (by omega) rfl ?_; conv => whnf)
            | (refine (isDiagonal_len n _ _ _ _ l2).mono ?_; rintro v h' ⟨rfl, e'⟩; subst h'; conv => whnf)
            | refine AW.seq ?_
            | (refine AW.region ?_; conv => whnf)
            | refine AW.block ?_
            | (refine AW.skip ?_; conv => whnf)
            | (refine AW.ret ?_; conv => whnf)
            | refine AW.cond (by rfl) ?_
            | (refine Br.tt ?_; conv => whnf)
            | (refine Br.dt (by omega) ?_; conv => whnf)
            | (refine Ck.mk (by omega) ?_; conv => whnf))
          all_goals exact ⟨by rw [no], rfl⟩
    · repeat' (first
        | refine AW.seq ?_
        | (refine AW.region ?_; conv => whnf)
        | (refine AW.ret ?_; conv => whnf)
        | (refine AW.exit ?_; conv => whnf)
        | refine AW.cond (by rfl) ?_
        | (refine Br.df (by omega) ?_; conv => whnf))
      exact ⟨by rw [isTri_yes ⟨hz, hz2⟩ fun j hj => hrows j (by omega)], rfl⟩
  · have no := isTri_no hsz
    rw [ed] at hsz
    refine AC.enter Tryz.func14 Tryz.call14 rfl Tryz.ntmps14 (of_decide_eq_true (by rfl)) ?_
    repeat' (first
      | refine AW.seq ?_
      | (refine AW.region ?_; conv => whnf)
      | (refine AW.ret ?_; conv => whnf)
      | refine AW.cond (by rfl) ?_
      | (refine (within_ok _ _ _ _).mono ?_; rintro v h' ⟨rfl, e'⟩; subst h'; conv => whnf)
      | (refine Br.tt ?_; conv => whnf)
      | refine Br.not ?_
      | (refine Br.dt (by omega) ?_; conv => whnf)
      | (refine Br.df (by omega) ?_; conv => whnf)
      | (refine Br.dec (fun hc => ?_) (fun hc => ?_) <;> conv => whnf)
      | (refine Wr.i64 (by omega) ?_; conv => whnf))
    all_goals exact ⟨by rw [no], rfl⟩

/-- all rows are pairs -/
def Two (f : List (List Int)) : Prop := ∀ i, i < f.length → (f.getD i []).length = 2
theorem tri_two {n : Int} {f : List (List Int)} (h : isTri n f = true) : Two f := fun i hi => ((isTri_spec h).2 i hi).1.1
theorem jnR_no {n : Int} {f : List (List Int)} {a b : Int} (h1 : ¬ (b = a + 1 ∨ (a = 0 ∧ b = n - 1))) (h2 : ∀ j, j < f.length → ¬ (ent f j 0 = a ∧ ent f j 1 = b)) : jnR n f a b = false := decide_eq_false fun h => by
  rcases h with h | h | ⟨i, hi, h3⟩
  · exact h1 (.inl h)
  · exact h1 (.inr h)
  · exact h2 i hi h3
theorem jnR_side {n : Int} {f : List (List Int)} {a b : Int} (h : b = a + 1 ∨ (a = 0 ∧ b = n - 1)) : jnR n f a b = true := decide_eq_true (by
  rcases h with h | h
  · exact .inl h
  · exact .inr (.inl h))
theorem jnR_row {n : Int} {f : List (List Int)} {a b : Int} {i : Nat} (hi : i < f.length) (h : ent f i 0 = a ∧ ent f i 1 = b) : jnR n f a b = true := decide_eq_true (.inr (.inr ⟨i, hi, h⟩))

set_option maxHeartbeats 1000000 in
theorem l7Side_ok (n : Int) (R : RL) (f : List (List Int)) (b N C : Nat) (x y : Int) (h0 : H) (hb : Grid h0 b R) (hR : rws R = f) (hN : N = f.length) (hl : N ≤ 1000000000) (two : Two f) (hn : 2 ≤ n ∧ n ≤ 10) (hx : -1 ≤ x ∧ x ≤ 1000) :
    AC env 97 [.int .i64 n, .slice b 0 N C, .int .i64 x, .int .i64 y] h0 fun v h' => v = .bool (jnR n f x y) ∧ h' = h0 := by
  have lR : R.length = N := by rw [hN, ← hR, rws_length]
  by_cases sd : y = x + 1 ∨ (x = 0 ∧ y = n - 1)
  · have no := jnR_side (f := f) sd
    refine AC.enter Tryz.func97 Tryz.call97 rfl Tryz.ntmps97 (of_decide_eq_true (by rfl)) ?_
    repeat' (first
      | refine AW.seq ?_
      | (refine AW.region ?_; conv => whnf)
      | (refine AW.ret ?_; conv => whnf)
      | refine AW.cond (by rfl) ?_
      | (refine Br.tt ?_; conv => whnf)
      | (refine Br.dt (by omega) ?_; conv => whnf)
      | (refine Br.df (by omega) ?_; conv => whnf)
      | (refine Br.dec (fun hc => ?_) (fun hc => ?_) <;> conv => whnf)
      | (refine Wr.i64 (by omega) ?_; conv => whnf))
    all_goals first
      | exact ⟨by rw [no], rfl⟩
      | (exfalso; omega)
  · refine AC.enter Tryz.func97 Tryz.call97 rfl Tryz.ntmps97 (of_decide_eq_true (by rfl)) ?_
    repeat' (first
      | refine AW.seq ?_
      | (refine AW.region ?_; conv => whnf)
      | refine AW.block ?_
      | (refine AW.skip ?_; conv => whnf)
      | refine AW.cond (by rfl) ?_
      | (refine Br.ff ?_; conv => whnf)
      | (refine Br.dt (by omega) ?_; conv => whnf)
      | (refine Br.df (by omega) ?_; conv => whnf)
      | (refine Br.dec (fun hc => ?_) (fun hc => ?_) <;> conv => whnf)
      | (refine Wr.i64 (by omega) ?_; conv => whnf))
    all_goals
      refine AW.loop1 (fun (i : Nat) => [(0, .int .i64 n), (1, .slice b 0 N C), (2, .int .i64 x), (3, .int .i64 y), (9, .int .i64 i)]) (fun i h' => i ≤ N ∧ (∀ j, j < i → ¬ (ent f j 0 = x ∧ ent f j 1 = y)) ∧ h' = h0) (fun i => N - i) 0 (Less.cons rfl (Less.cons rfl (Less.cons rfl (Less.cons rfl (Less.cons rfl (Less.nil _)))))) ⟨by omega, fun j hj => by omega, rfl⟩ ?_
      rintro i h' ⟨hi, hrows, rfl⟩
      by_cases hlt : i < N
      · repeat' (first
          | (refine Grid.rowAt hb hR i rfl (by omega) (by omega) (two _ (by omega)) ?_; conv => whnf)
          | (refine Grid.num2 hb hR i 0 rfl (by omega) (two _ (by omega)) (by omega) ?_; conv => whnf)
          | (refine Grid.num2 hb hR i 1 rfl (by omega) (two _ (by omega)) (by omega) ?_; conv => whnf)
          | refine AW.seq ?_
          | (refine AW.region ?_; conv => whnf)
          | refine AW.block ?_
          | (refine AW.skip ?_; conv => whnf)
          | (refine AW.ret ?_; conv => whnf)
          | refine AW.cond (by rfl) ?_
          | (refine Br.ff ?_; conv => whnf)
          | (refine Br.dt (by omega) ?_; conv => whnf)
          | (refine Br.df (by omega) ?_; conv => whnf)
          | (refine Br.dec (fun hc => ?_) (fun hc => ?_) <;> conv => whnf)
          | (refine Wr.i64 (by omega) ?_; conv => whnf)
          | (refine Ck.mk (by omega) ?_; conv => whnf))
        all_goals first
          | exact ⟨by rw [jnR_row (i := i) (by omega) (by omega)], rfl⟩
          | (refine ⟨i + 1, (Less.cons rfl (Less.cons rfl (Less.cons rfl (Less.cons rfl (Less.cons rfl (Less.nil _)))))), ⟨by omega, fun j hj => ?_, rfl⟩, by omega⟩
             by_cases e : j = i
             · rw [e]; omega
             · exact hrows j (by omega))
      · repeat' (first
          | refine AW.seq ?_
          | (refine AW.region ?_; conv => whnf)
          | (refine AW.ret ?_; conv => whnf)
          | (refine AW.exit ?_; conv => whnf)
          | refine AW.cond (by rfl) ?_
          | (refine Br.df (by omega) ?_; conv => whnf))
        exact ⟨by rw [jnR_no sd fun j hj => hrows j (by omega)], rfl⟩

set_option maxHeartbeats 1000000 in
theorem joins_ok (n : Int) (R : RL) (f : List (List Int)) (b N C : Nat) (x y : Int) (h0 : H) (hb : Grid h0 b R) (hR : rws R = f) (hN : N = f.length) (hl : N ≤ 1000000000) (two : Two f) (hn : 2 ≤ n ∧ n ≤ 10) (hx : 0 ≤ x ∧ x ≤ 1000) (hy : 0 ≤ y ∧ y ≤ 1000) (ne : x ≠ y) :
    AC env 48 [.int .i64 n, .slice b 0 N C, .int .i64 x, .int .i64 y] h0 fun v h' => v = .bool (jnR n f (min x y) (max x y)) ∧ h' = h0 := by
  have lR : R.length = N := by rw [hN, ← hR, rws_length]
  by_cases sd : max x y = min x y + 1 ∨ (min x y = 0 ∧ max x y = n - 1)
  · have no := jnR_side (f := f) sd
    refine AC.enter Tryz.func48 Tryz.call48 rfl Tryz.ntmps48 (of_decide_eq_true (by rfl)) ?_
    repeat' (first
      | refine AW.seq ?_
      | (refine AW.region ?_; conv => whnf)
      | (refine AW.ret ?_; conv => whnf)
      | refine AW.cond (by rfl) ?_
      | (refine Br.tt ?_; conv => whnf)
      | (refine Br.dt (by omega) ?_; conv => whnf)
      | (refine Br.df (by omega) ?_; conv => whnf)
      | (refine Br.dec (fun hc => ?_) (fun hc => ?_) <;> conv => whnf)
      | (refine Wr.i64 (by omega) ?_; conv => whnf))
    all_goals first
      | (exfalso; omega)
      | (refine ⟨?_, rfl⟩
         rw [no]
         congr 1
         first
           | rfl
           | (rw [bne_iff_ne]; omega)
           | (apply decide_eq_true; omega)
           | (simp; omega))
  · refine AC.enter Tryz.func48 Tryz.call48 rfl Tryz.ntmps48 (of_decide_eq_true (by rfl)) ?_
    repeat' (first
      | refine AW.seq ?_
      | (refine AW.region ?_; conv => whnf)
      | refine AW.block ?_
      | (refine AW.skip ?_; conv => whnf)
      | refine AW.cond (by rfl) ?_
      | (refine Br.ff ?_; conv => whnf)
      | (refine Br.dt (by omega) ?_; conv => whnf)
      | (refine Br.df (by omega) ?_; conv => whnf)
      | (refine Br.dec (fun hc => ?_) (fun hc => ?_) <;> conv => whnf)
      | (refine Wr.i64 (by omega) ?_; conv => whnf))
    all_goals
      refine AW.loop1 (fun (i : Nat) => [(0, .int .i64 n), (1, .slice b 0 N C), (2, .int .i64 (min x y)), (3, .int .i64 (max x y)), (34, .slice b 0 N C), (35, .int .i64 N), (36, .int .i64 i)]) (fun i h' => i ≤ N ∧ (∀ j, j < i → ¬ (ent f j 0 = min x y ∧ ent f j 1 = max x y)) ∧ h' = h0) (fun i => N - i) 0 (Less.cons rfl (Less.cons rfl (Less.cons rfl (Less.cons rfl (Less.cons rfl (Less.cons rfl (Less.cons rfl (Less.nil _)))))))) ⟨by omega, fun j hj => by omega, rfl⟩ ?_
      rintro i h' ⟨hi, hrows, rfl⟩
      by_cases hlt : i < N
      · repeat' (first
          | (refine Grid.rowAt hb hR i rfl (by omega) (by omega) (two _ (by omega)) ?_; conv => whnf)
          | (refine Grid.num2 hb hR i 0 rfl (by omega) (two _ (by omega)) (by omega) ?_; conv => whnf)
          | (refine Grid.num2 hb hR i 1 rfl (by omega) (two _ (by omega)) (by omega) ?_; conv => whnf)
          | refine AW.seq ?_
          | (refine AW.region ?_; conv => whnf)
          | refine AW.block ?_
          | (refine AW.skip ?_; conv => whnf)
          | (refine AW.ret ?_; conv => whnf)
          | refine AW.cond (by rfl) ?_
          | (refine Br.ff ?_; conv => whnf)
          | (refine Br.dt (by omega) ?_; conv => whnf)
          | (refine Br.df (by omega) ?_; conv => whnf)
          | (refine Br.dec (fun hc => ?_) (fun hc => ?_) <;> conv => whnf)
          | (refine Wr.i64 (by omega) ?_; conv => whnf)
          | (refine Ck.mk (by omega) ?_; conv => whnf))
        all_goals first
          | exact ⟨by rw [jnR_row (i := i) (by omega) (by omega)], rfl⟩
          | (refine ⟨i + 1, (Less.cons rfl (Less.cons rfl (Less.cons rfl (Less.cons rfl (Less.cons rfl (Less.cons rfl (Less.cons rfl (Less.nil _)))))))), ⟨by omega, fun j hj => ?_, rfl⟩, by omega⟩
             by_cases e : j = i
             · rw [e]; omega
             · exact hrows j (by omega))
      · repeat' (first
          | refine AW.seq ?_
          | (refine AW.region ?_; conv => whnf)
          | (refine AW.ret ?_; conv => whnf)
          | (refine AW.exit ?_; conv => whnf)
          | refine AW.cond (by rfl) ?_
          | (refine Br.df (by omega) ?_; conv => whnf))
        exact ⟨by rw [jnR_no sd fun j hj => hrows j (by omega)], rfl⟩

theorem copyLists_ok (R : RL) (f : List (List Int)) (b N C : Nat) (h0 : H) (hb : Grid h0 b R) (hR : rws R = f) (hN : N = f.length) (hl : N ≤ 1000000) (two : Two f) :
    AC env 49 [.slice b 0 N C] h0 fun v h' => ∃ b' R', v = .slice b' 0 N N ∧ rws R' = f ∧ R'.length = N ∧ St h0 h' ((b', row (slcs R')) :: (blks R' ++ [])) := by
  have hs := St.refl h0
  have lR : R.length = N := by rw [hN, ← hR, rws_length]
  refine AC.enter Tryz.func49 Tryz.call49 rfl Tryz.ntmps49 (of_decide_eq_true (by rfl)) ?_
  repeat' (first
    | refine AW.seq ?_
    | (refine AW.region ?_; conv => whnf)
    | refine AW.block ?_
    | (refine AW.skip ?_; conv => whnf)
    | (refine AW.ret ?_; conv => whnf)
    | (refine AW.exit ?_; conv => whnf)
    | refine AW.cond (by rfl) ?_
    | (refine (copyInts_ok _ _ _ _ _ (by first | assumption | exact St.has (by assumption) (by repeat first | exact .head _ | apply List.Mem.tail) | exact St.arg (by assumption) (by assumption)) (by first | rfl | omega) (by first | (simp; done) | omega | (simp only [List.length_set, List.length_append, List.length_cons, List.length_nil, List.length_replicate, tab_length]; omega) | (simp; omega))).mono ?_; rintro v h' ⟨b, rfl, hn⟩; have hs' := St.newCall (by assumption) hn; clear hn; conv => whnf)
    | (refine Br.tt ?_; conv => whnf)
    | (refine Br.ff ?_; conv => whnf)
    | refine Br.not ?_
    | (refine Br.t (beq_self_eq_true _) ?_; conv => whnf)
    | (refine Br.t (by assumption) ?_; conv => whnf)
    | (refine Br.f (by assumption) ?_; conv => whnf)
    | (refine Br.dt (by omega) ?_; conv => whnf)
    | (refine Br.df (by omega) ?_; conv => whnf)
    | (refine Br.it (by omega) ?_; conv => whnf)
    | (refine Br.if (by omega) ?_; conv => whnf)
    | (refine Br.nt (by omega) ?_; conv => whnf)
    | (refine Br.nf (by omega) ?_; conv => whnf)
    | (refine Br.dec (fun hc => ?_) (fun hc => ?_) <;> conv => whnf)
    | (refine Br.ieq (fun hc => ?_) (fun hc => ?_) <;> conv => whnf)
    | (refine Br.ine (fun hc => ?_) (fun hc => ?_) <;> conv => whnf)
    | (refine Br.mk (fun hc => ?_) (fun hc => ?_) <;> conv => whnf)
    | (refine Wr.i64 (by omega) ?_; conv => whnf)
    | (refine Ck.mk (by omega) ?_; conv => whnf)
    | (refine Wr.i64 (by simp only [List.length_drop, List.length_take, List.length_append, List.length_cons, List.length_nil]; omega) ?_; conv => whnf)
    | (refine Ck.mk (by simp only [List.length_drop, List.length_take, List.length_append, List.length_cons, List.length_nil]; omega) ?_; conv => whnf)
    | (refine NewG.st (by assumption) (fun bt h' hs' => ?_); conv => whnf)
    | (refine Has.load1 (by first | assumption | exact St.has (by assumption) (by repeat first | exact .head _ | apply List.Mem.tail) | exact St.arg (by assumption) (by assumption)) ?_; conv => whnf)
    | (refine LoadsG.has (by first | assumption | exact St.has (by assumption) (by repeat first | exact .head _ | apply List.Mem.tail) | exact St.arg (by assumption) (by assumption)) (by simp) ?_; conv => whnf)
    | (refine Ck.mk (by simp; omega) ?_; conv => whnf))
  refine AW.loop3 (fun (i bo : Nat) (S : RL) => [(3, .slice bo 0 i i), (7, .slice b 0 N C), (8, .int .i64 N), (9, .int .i64 i)]) (fun i bo S h' => i ≤ N ∧ S.length = i ∧ rws S = f.take i ∧ St h0 h' ((bo, row (slcs S)) :: (blks S ++ []))) (fun i _ _ => N - i) 0 bt []
    (Less.cons rfl (Less.cons rfl (Less.cons rfl (Less.cons rfl (Less.nil _))))) ⟨by omega, rfl, rfl, nilRows hs'⟩ ?_
  rintro i bo S h1 ⟨hi, lS, hS, hs1⟩
  clear hs' hs
  by_cases hlt : i < N
  · have hg := hb.arg hs1
    have l2 : (f.getD i []).length = 2 := two i (by omega)
    have er : f.getD i [] = rl R i := rws_at hR i
    have ef : f.take (i + 1) = f.take i ++ [rl R i] := by
      rw [List.take_succ_eq_append_getElem (by omega), ← er]
      congr 2
      simp [List.getD, show i < f.length by omega]
    repeat' (first
      | (refine Grid.rowAt hg hR i rfl (by omega) (by omega) l2 ?_; conv => whnf)
      | (refine (copyInts_ok (rl R i) _ _ _ _ (hg.at (by omega)) (by rw [← er, l2]) (by rw [← er, l2]; omega)).mono ?_; rintro v h' ⟨bc, rfl, hn⟩; have hs2 := St.newCall hs1 hn; clear hn; conv => whnf)
      | (refine NewG.st hs2 (fun bt h' hs3 => ?_); conv => whnf)
      | (refine AppG.stR hs3.tail lS.symm (by rw [← er, l2]) (by omega) (by decide) (fun b2 h' hs4 => ?_); conv => whnf)
      | refine AW.seq ?_
      | (refine AW.region ?_; conv => whnf)
      | refine AW.block ?_
      | (refine AW.skip ?_; conv => whnf)
      | (refine AW.ret ?_; conv => whnf)
      | (refine AW.exit ?_; conv => whnf)
      | refine AW.cond (by rfl) ?_
      | (refine (copyInts_ok _ _ _ _ _ (by first | assumption | exact St.has (by assumption) (by repeat first | exact .head _ | apply List.Mem.tail) | exact St.arg (by assumption) (by assumption)) (by first | rfl | omega) (by first | (simp; done) | omega | (simp only [List.length_set, List.length_append, List.length_cons, List.length_nil, List.length_replicate, tab_length]; omega) | (simp; omega))).mono ?_; rintro v h' ⟨b, rfl, hn⟩; have hs' := St.newCall (by assumption) hn; clear hn; conv => whnf)
      | (refine Br.tt ?_; conv => whnf)
      | (refine Br.ff ?_; conv => whnf)
      | refine Br.not ?_
      | (refine Br.t (beq_self_eq_true _) ?_; conv => whnf)
      | (refine Br.t (by assumption) ?_; conv => whnf)
      | (refine Br.f (by assumption) ?_; conv => whnf)
      | (refine Br.dt (by omega) ?_; conv => whnf)
      | (refine Br.df (by omega) ?_; conv => whnf)
      | (refine Br.it (by omega) ?_; conv => whnf)
      | (refine Br.if (by omega) ?_; conv => whnf)
      | (refine Br.nt (by omega) ?_; conv => whnf)
      | (refine Br.nf (by omega) ?_; conv => whnf)
      | (refine Br.dec (fun hc => ?_) (fun hc => ?_) <;> conv => whnf)
      | (refine Br.ieq (fun hc => ?_) (fun hc => ?_) <;> conv => whnf)
      | (refine Br.ine (fun hc => ?_) (fun hc => ?_) <;> conv => whnf)
      | (refine Br.mk (fun hc => ?_) (fun hc => ?_) <;> conv => whnf)
      | (refine Wr.i64 (by omega) ?_; conv => whnf)
      | (refine Ck.mk (by omega) ?_; conv => whnf)
      | (refine Wr.i64 (by simp only [List.length_drop, List.length_take, List.length_append, List.length_cons, List.length_nil]; omega) ?_; conv => whnf)
      | (refine Ck.mk (by simp only [List.length_drop, List.length_take, List.length_append, List.length_cons, List.length_nil]; omega) ?_; conv => whnf)
      | (refine NewG.st (by assumption) (fun bt h' hs' => ?_); conv => whnf)
      | (refine Has.load1 (by first | assumption | exact St.has (by assumption) (by repeat first | exact .head _ | apply List.Mem.tail) | exact St.arg (by assumption) (by assumption)) ?_; conv => whnf)
      | (refine LoadsG.has (by first | assumption | exact St.has (by assumption) (by repeat first | exact .head _ | apply List.Mem.tail) | exact St.arg (by assumption) (by assumption)) (by simp) ?_; conv => whnf)
      | (refine Ck.mk (by simp; omega) ?_; conv => whnf))
    exact ⟨i + 1, b2, _, (Less.cons rfl (Less.cons rfl (Less.cons rfl (Less.cons rfl (Less.nil _))))), ⟨by omega, by simp [lS], by rw [rws_append, hS, ef]; rfl, hs4⟩, by omega⟩
  · obtain rfl : i = N := by omega
    repeat' (first
      | refine AW.seq ?_
      | (refine AW.region ?_; conv => whnf)
      | refine AW.block ?_
      | (refine AW.skip ?_; conv => whnf)
      | (refine AW.ret ?_; conv => whnf)
      | (refine AW.exit ?_; conv => whnf)
      | refine AW.cond (by rfl) ?_
      | (refine (copyInts_ok _ _ _ _ _ (by first | assumption | exact St.has (by assumption) (by repeat first | exact .head _ | apply List.Mem.tail) | exact St.arg (by assumption) (by assumption)) (by first | rfl | omega) (by first | (simp; done) | omega | (simp only [List.length_set, List.length_append, List.length_cons, List.length_nil, List.length_replicate, tab_length]; omega) | (simp; omega))).mono ?_; rintro v h' ⟨b, rfl, hn⟩; have hs' := St.newCall (by assumption) hn; clear hn; conv => whnf)
      | (refine Br.tt ?_; conv => whnf)
      | (refine Br.ff ?_; conv => whnf)
      | refine Br.not ?_
      | (refine Br.t (beq_self_eq_true _) ?_; conv => whnf)
      | (refine Br.t (by assumption) ?_; conv => whnf)
      | (refine Br.f (by assumption) ?_; conv => whnf)
      | (refine Br.dt (by omega) ?_; conv => whnf)
      | (refine Br.df (by omega) ?_; conv => whnf)
      | (refine Br.it (by omega) ?_; conv => whnf)
      | (refine Br.if (by omega) ?_; conv => whnf)
      | (refine Br.nt (by omega) ?_; conv => whnf)
      | (refine Br.nf (by omega) ?_; conv => whnf)
      | (refine Br.dec (fun hc => ?_) (fun hc => ?_) <;> conv => whnf)
      | (refine Br.ieq (fun hc => ?_) (fun hc => ?_) <;> conv => whnf)
      | (refine Br.ine (fun hc => ?_) (fun hc => ?_) <;> conv => whnf)
      | (refine Br.mk (fun hc => ?_) (fun hc => ?_) <;> conv => whnf)
      | (refine Wr.i64 (by omega) ?_; conv => whnf)
      | (refine Ck.mk (by omega) ?_; conv => whnf)
      | (refine Wr.i64 (by simp only [List.length_drop, List.length_take, List.length_append, List.length_cons, List.length_nil]; omega) ?_; conv => whnf)
      | (refine Ck.mk (by simp only [List.length_drop, List.length_take, List.length_append, List.length_cons, List.length_nil]; omega) ?_; conv => whnf)
      | (refine NewG.st (by assumption) (fun bt h' hs' => ?_); conv => whnf)
      | (refine Has.load1 (by first | assumption | exact St.has (by assumption) (by repeat first | exact .head _ | apply List.Mem.tail) | exact St.arg (by assumption) (by assumption)) ?_; conv => whnf)
      | (refine LoadsG.has (by first | assumption | exact St.has (by assumption) (by repeat first | exact .head _ | apply List.Mem.tail) | exact St.arg (by assumption) (by assumption)) (by simp) ?_; conv => whnf)
      | (refine Ck.mk (by simp; omega) ?_; conv => whnf))
    exact ⟨bo, S, rfl, by rw [hS, hN, List.take_length], lS, hs1⟩

end Go.Proofs.YtbicfognbbeigaaGreat
