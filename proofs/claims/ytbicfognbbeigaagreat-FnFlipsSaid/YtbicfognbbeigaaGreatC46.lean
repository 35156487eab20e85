/-
  Contracts of triangulations are proved.
  They hold for all rows of rows.
-/
import Derived.Test.YtbicfognbbeigaaGreatH11
set_option linter.unusedVariables false
set_option linter.unusedSimpArgs false
namespace Go.Proofs.YtbicfognbbeigaaGreat
open Go.Proofs.YtbicfognbbeigaaGreat.Ab Go.Proofs.YtbicfognbbeigaaGreat.Pl

set_option maxHeartbeats 4000000 in
theorem sIsTri_ok (n : Int) (R : RL) (f : List (List Int)) (b N C : Nat) (h0 : H) (hb : Grid h0 b R) (hR : rws R = f) (hN : N = f.length) (hl : N ≤ 1000000000) (hn : -9223372036854775808 ≤ n ∧ n ≤ 9223372036854775807) : AC env 52 [.int .i64 n, .slice b 0 N C] h0 fun v h' => v = .bool (isTri n f) ∧ h' = h0 := by
  have lR : R.length = N := by rw [hN, ← hR, rws_length]
  have ed : triSz n f ↔ (2 ≤ n ∧ n ≤ 10) ∧ (f.length : Int) = max 0 (n - 3) := Iff.rfl
  by_cases hsz : triSz n f
  · obtain ⟨hz, hz2⟩ := hsz
    refine AC.enter Tryz.func52 Tryz.call52 rfl Tryz.ntmps52 (of_decide_eq_true (by rfl)) ?_
    repeat' (first
      | refine AW.seq ?_
      | (refine AW.region ?_; conv => whnf)
      | refine AW.block ?_
      | (refine AW.skip ?_; conv => whnf)
      | refine AW.cond (by rfl) ?_
      | (refine (l1In_ok _ _ _ _).mono ?_; rintro v h' ⟨rfl, e'⟩; subst h'; conv => whnf)
      | refine Br.not ?_
      | (refine Br.dt (by omega) ?_; conv => whnf)
      | (refine Wr.i64 (by omega) ?_; conv => whnf))
    refine AW.loop1 (fun (i : Nat) => [(0, .int .i64 n), (1, .slice b 0 N C), (5, .int .i64 i)]) (fun i h' => i ≤ N ∧ (∀ j, j < i → triRow n f j) ∧ h' = h0) (fun i => N - i) 0 (Less.cons rfl (Less.cons rfl (Less.cons rfl (Less.nil _)))) ⟨by omega, fun j hj => by omega, rfl⟩ ?_
    rintro i h' ⟨hi, hrows, rfl⟩
    by_cases hlt : i < N
    · have er : ∀ j, f.getD j [] = rl R j := fun j => rws_at hR j
      have dd : diagOk n (f.getD i []) ↔ (f.getD i []).length = 2 ∧ 0 ≤ ent f i 0 ∧ ent f i 0 + 2 ≤ ent f i 1 ∧ ent f i 1 ≤ n - 1 ∧ ¬ (ent f i 0 = 0 ∧ ent f i 1 = n - 1) := Iff.rfl
      by_cases l2 : (f.getD i []).length = 2
      · by_cases d : diagOk n (f.getD i [])
        · have d' := dd.1 d
          have two : ∀ j, j ≤ i → (rl R j).length = 2 := fun j hj => by
            rw [← er]
            by_cases e : j = i
            · rw [e]; exact l2
            · exact (hrows j (by omega)).1.1
          have twf : ∀ j, j ≤ i → (f.getD j []).length = 2 := fun j hj => by rw [er]; exact two j hj
          by_cases key : 0 < i ∧ ¬ cmpL (f.getD (i - 1) []) (f.getD i []) < 0
          · obtain ⟨k1, k2⟩ := key
            have no := isTri_row (n := n) (by omega) (triRow_no2 k1 k2)
            have kd : decide (cmpL (rl R (i - 1)) (rl R i) < 0) = false := by rw [← er, ← er]; exact decide_eq_false k2
            repeat' (first
              | (refine Grid.rowAt hb hR i rfl (by omega) (by omega) l2 ?_; conv => whnf)
              | (refine Grid.rowAt hb hR (i - 1) rfl (by omega) (by omega) (twf _ (by omega)) ?_; conv => whnf)
              | (refine Grid.num2 hb hR i 0 rfl (by omega) l2 (by omega) ?_; conv => whnf)
              | (refine Grid.num2 hb hR i 1 rfl (by omega) l2 (by omega) ?_; conv => whnf)
              | (refine (before_ok (rl R (i - 1)) (rl R i) _ _ _ _ _ (hb.at (by omega)) (hb.at (by omega)) (two _ (by omega)) (two _ (by omega))).mono ?_; rw [kd]; rintro v h' ⟨rfl, e'⟩; subst h'; conv => whnf)
              | refine AW.seq ?_
              | (refine AW.region ?_; conv => whnf)
              | refine AW.block ?_
              | (refine AW.skip ?_; conv => whnf)
              | (refine AW.ret ?_; conv => whnf)
              | refine AW.cond (by rfl) ?_
              | (refine AW.draw (id := 6) (.p 0 (.p 1 (.p 2 (.r 3 [4, 5, 6, 7, 8, 9, 10, 11, 12, 13, 14, 15, 16, 17, 18, 19, 20, 21, 22, 23, 24, 25, 26, 27, 28, 29, 30, 31, 32, 33, 34, 35, 36, 37, 38, 39, 40, 41, 42, 43, 44, 45, 46, 47, 48, 49, 50, 51, 52, 53, 54, 55, 56] (.p 4 (.p 5 (.p 6 (.p 7 (.p 8 (.p 9 (.p 13 (.p 14 (.r 10 [11, 12, 15, 16, 17, 18, 19, 20, 21, 22, 23, 24, 25, 26, 27, 28, 29, 30, 31, 32, 33, 34, 35, 36, 37, 38, 39, 40, 41, 42, 43, 44, 45, 46, 47, 48, 49, 50, 51, 52, 53, 54, 55, 56] (.p 11 (.r 12 [15, 16, 17, 18, 19, 20, 21, 22, 23, 24, 25, 26, 27, 28, 29, 30, 31, 32, 33, 34, 35, 36, 37, 38, 39, 40, 41, 42, 43, 44, 45, 46, 47, 48, 49, 50, 51, 52, 53, 54, 55, 56] (.all [15] fun _ => (.p 16 (.p 17 (.p 18 (.p 19 (.p 20 (.p 21 (.p 25 (.p 26 (.p 27 (.p 32 (.p 33 (.r 22 [23, 24, 34, 35, 36, 37, 38, 39, 40, 41, 42, 43, 44, 45, 46, 47, 48, 49, 50, 51, 52, 53, 54, 55, 56] (.p 23 (.r 24 [34, 35, 36, 37, 38, 39, 40, 41, 42, 43, 44, 45, 46, 47, 48, 49, 50, 51, 52, 53, 54, 55, 56] (.r 28 [29, 30, 31, 34, 35, 36, 37, 38, 39, 40, 41, 42, 43, 44, 45, 46, 47, 48, 49, 50, 51, 52, 53, 54, 55, 56] (.p 29 (.r 30 [31, 34, 35, 36, 37, 38, 39, 40, 41, 42, 43, 44, 45, 46, 47, 48, 49, 50, 51, 52, 53, 54, 55, 56] (.p 31 (.all [34] fun _ => (.p 35 (.p 36 (.p 37 (.p 38 (.p 39 (.p 40 (.r 41 [42, 43, 44, 45, 46, 47, 48, 49, 50, 51, 52, 53, 54, 55, 56] (.p 42 (.r 43 [44, 45, 46, 47, 48, 49, 50, 51, 52, 53, 54, 55, 56] (.p 44 (.p 45 (.p 46 (.p 47 (.p 48 (.p 52 (.p 53 (.r 49 [50, 51, 54, 55, 56] (.p 50 (.r 51 [54, 55, 56] (.p 54 (.p 55 (.p 56 .done))))))))))))))))))))))))))))))))))))))))))))))))))))))))) (by kernel_rfl) (by kernel_rfl) ?_; conv => whnf)
              | (refine AW.draw (id := 8) (.p 0 (.p 1 (.p 2 (.p 3 (.p 4 (.p 5 (.p 6 (.p 8 (.p 9 (.p 10 (.r 7 [12, 13, 14] (.r 11 [12, 13, 14] (.all [12] fun _ => (.p 13 (.p 14 .done))))))))))))))) (by kernel_rfl) (by kernel_rfl) ?_; conv => whnf)
              | (refine (l1In_ok _ _ _ _).mono ?_; rintro v h' ⟨rfl, e'⟩; subst h'; conv => whnf)
              | (refine Br.tt ?_; conv => whnf)
              | (refine Br.ff ?_; conv => whnf)
              | refine Br.not ?_
              | (refine Br.dt (by omega) ?_; conv => whnf)
              | (refine Br.df (by omega) ?_; conv => whnf)
              | (refine Br.dec (fun hc => ?_) (fun hc => ?_) <;> conv => whnf)
              | (refine Wr.i64 (by omega) ?_; conv => whnf)
              | (refine Ck.mk (by omega) ?_; conv => whnf))
            all_goals exact ⟨by rw [no], rfl⟩
          · have kc : 0 < i → cmpL (f.getD (i - 1) []) (f.getD i []) < 0 := fun h => Classical.byContradiction fun c => key ⟨h, c⟩
            have kd : 0 < i → decide (cmpL (rl R (i - 1)) (rl R i) < 0) = true := fun h => by rw [← er, ← er]; exact decide_eq_true (kc h)
            repeat' (first
              | (refine Grid.rowAt hb hR i rfl (by omega) (by omega) l2 ?_; conv => whnf)
              | (refine Grid.rowAt hb hR (i - 1) rfl (by omega) (by omega) (twf _ (by omega)) ?_; conv => whnf)
              | (refine Grid.num2 hb hR i 0 rfl (by omega) l2 (by omega) ?_; conv => whnf)
              | (refine Grid.num2 hb hR i 1 rfl (by omega) l2 (by omega) ?_; conv => whnf)
              | (refine (before_ok (rl R (i - 1)) (rl R i) _ _ _ _ _ (hb.at (by omega)) (hb.at (by omega)) (two _ (by omega)) (two _ (by omega))).mono ?_; rw [kd (by omega)]; rintro v h' ⟨rfl, e'⟩; subst h'; conv => whnf)
              | refine AW.seq ?_
              | (refine AW.region ?_; conv => whnf)
              | refine AW.block ?_
              | (refine AW.skip ?_; conv => whnf)
              | refine AW.cond (by rfl) ?_
              | (refine AW.draw (id := 6) (.p 0 (.p 1 (.p 2 (.r 3 [4, 5, 6, 7, 8, 9, 10, 11, 12, 13, 14, 15, 16, 17, 18, 19, 20, 21, 22, 23, 24, 25, 26, 27, 28, 29, 30, 31, 32, 33, 34, 35, 36, 37, 38, 39, 40, 41, 42, 43, 44, 45, 46, 47, 48, 49, 50, 51, 52, 53, 54, 55, 56] (.p 4 (.p 5 (.p 6 (.p 7 (.p 8 (.p 9 (.p 13 (.p 14 (.r 10 [11, 12, 15, 16, 17, 18, 19, 20, 21, 22, 23, 24, 25, 26, 27, 28, 29, 30, 31, 32, 33, 34, 35, 36, 37, 38, 39, 40, 41, 42, 43, 44, 45, 46, 47, 48, 49, 50, 51, 52, 53, 54, 55, 56] (.p 11 (.r 12 [15, 16, 17, 18, 19, 20, 21, 22, 23, 24, 25, 26, 27, 28, 29, 30, 31, 32, 33, 34, 35, 36, 37, 38, 39, 40, 41, 42, 43, 44, 45, 46, 47, 48, 49, 50, 51, 52, 53, 54, 55, 56] (.all [15] fun _ => (.p 16 (.p 17 (.p 18 (.p 19 (.p 20 (.p 21 (.p 25 (.p 26 (.p 27 (.p 32 (.p 33 (.r 22 [23, 24, 34, 35, 36, 37, 38, 39, 40, 41, 42, 43, 44, 45, 46, 47, 48, 49, 50, 51, 52, 53, 54, 55, 56] (.p 23 (.r 24 [34, 35, 36, 37, 38, 39, 40, 41, 42, 43, 44, 45, 46, 47, 48, 49, 50, 51, 52, 53, 54, 55, 56] (.r 28 [29, 30, 31, 34, 35, 36, 37, 38, 39, 40, 41, 42, 43, 44, 45, 46, 47, 48, 49, 50, 51, 52, 53, 54, 55, 56] (.p 29 (.r 30 [31, 34, 35, 36, 37, 38, 39, 40, 41, 42, 43, 44, 45, 46, 47, 48, 49, 50, 51, 52, 53, 54, 55, 56] (.p 31 (.all [34] fun _ => (.p 35 (.p 36 (.p 37 (.p 38 (.p 39 (.p 40 (.r 41 [42, 43, 44, 45, 46, 47, 48, 49, 50, 51, 52, 53, 54, 55, 56] (.p 42 (.r 43 [44, 45, 46, 47, 48, 49, 50, 51, 52, 53, 54, 55, 56] (.p 44 (.p 45 (.p 46 (.p 47 (.p 48 (.p 52 (.p 53 (.r 49 [50, 51, 54, 55, 56] (.p 50 (.r 51 [54, 55, 56] (.p 54 (.p 55 (.p 56 .done))))))))))))))))))))))))))))))))))))))))))))))))))))))))) (by kernel_rfl) (by kernel_rfl) ?_; conv => whnf)
              | (refine AW.draw (id := 8) (.p 0 (.p 1 (.p 2 (.p 3 (.p 4 (.p 5 (.p 6 (.p 8 (.p 9 (.p 10 (.r 7 [12, 13, 14] (.r 11 [12, 13, 14] (.all [12] fun _ => (.p 13 (.p 14 .done))))))))))))))) (by kernel_rfl) (by kernel_rfl) ?_; conv => whnf)
              | (refine (l1In_ok _ _ _ _).mono ?_; rintro v h' ⟨rfl, e'⟩; subst h'; conv => whnf)
              | (refine Br.ff ?_; conv => whnf)
              | refine Br.not ?_
              | (refine Br.dt (by omega) ?_; conv => whnf)
              | (refine Br.df (by omega) ?_; conv => whnf)
              | (refine Br.dec (fun hc => ?_) (fun hc => ?_) <;> conv => whnf)
              | (refine Wr.i64 (by omega) ?_; conv => whnf)
              | (refine Ck.mk (by omega) ?_; conv => whnf))
            all_goals (repeat (clear hc))
            all_goals
              refine AW.loop1 (fun (k : Nat) => [(0, .int .i64 n), (1, .slice b 0 N C), (5, .int .i64 i), (6, .int .i64 k)]) (fun k h'' => k ≤ i ∧ (∀ j, j < k → ¬ crossR (f.getD j []) (f.getD i [])) ∧ h'' = h') (fun k => i - k) 0 (Less.cons rfl (Less.cons rfl (Less.cons rfl (Less.cons rfl (Less.nil _))))) ⟨by omega, fun j hj => by omega, rfl⟩ ?_
              rintro k h'' ⟨hk, hcr, rfl⟩
              by_cases hlt2 : k < i
              · by_cases cr : crossR (f.getD k []) (f.getD i [])
                · have no := isTri_row (n := n) (by omega) (triRow_no3 hlt2 cr)
                  have cd : decide (crossR (rl R k) (rl R i)) = true := by rw [← er, ← er]; exact decide_eq_true cr
                  repeat' (first
                    | (refine Grid.rowAt hb hR i rfl (by omega) (by omega) l2 ?_; conv => whnf)
                    | (refine Grid.rowAt hb hR k rfl (by omega) (by omega) (twf _ (by omega)) ?_; conv => whnf)
                    | (refine (crosses_ok (rl R k) (rl R i) _ _ _ _ _ (hb.at (by omega)) (hb.at (by omega)) (two _ (by omega)) (two _ (by omega))).mono ?_; rw [cd]; rintro v h' ⟨rfl, e'⟩; subst h'; conv => whnf)
                    | refine AW.seq ?_
                    | (refine AW.region ?_; conv => whnf)
                    | refine AW.block ?_
                    | (refine AW.skip ?_; conv => whnf)
                    | (refine AW.ret ?_; conv => whnf)
                    | refine AW.cond (by rfl) ?_
                    | (refine AW.draw (id := 13) (.p 0 (.p 1 (.p 2 (.p 4 (.p 5 (.p 6 (.r 3 [8] (.r 7 [8] (.all [8] fun _ => .done))))))))) (by kernel_rfl) (by kernel_rfl) ?_; conv => whnf)
                    | (refine Br.tt ?_; conv => whnf)
                    | (refine Br.dt (by omega) ?_; conv => whnf)
                    | (refine Ck.mk (by omega) ?_; conv => whnf))
                  exact ⟨by rw [no], rfl⟩
                · have cd : decide (crossR (rl R k) (rl R i)) = false := by rw [← er, ← er]; exact decide_eq_false cr
                  repeat' (first
                    | (refine Grid.rowAt hb hR i rfl (by omega) (by omega) l2 ?_; conv => whnf)
                    | (refine Grid.rowAt hb hR k rfl (by omega) (by omega) (twf _ (by omega)) ?_; conv => whnf)
                    | (refine (crosses_ok (rl R k) (rl R i) _ _ _ _ _ (hb.at (by omega)) (hb.at (by omega)) (two _ (by omega)) (two _ (by omega))).mono ?_; rw [cd]; rintro v h' ⟨rfl, e'⟩; subst h'; conv => whnf)
                    | refine AW.seq ?_
                    | (refine AW.region ?_; conv => whnf)
                    | refine AW.block ?_
                    | (refine AW.skip ?_; conv => whnf)
                    | refine AW.cond (by rfl) ?_
                    | (refine AW.draw (id := 13) (.p 0 (.p 1 (.p 2 (.p 4 (.p 5 (.p 6 (.r 3 [8] (.r 7 [8] (.all [8] fun _ => .done))))))))) (by kernel_rfl) (by kernel_rfl) ?_; conv => whnf)
                    | (refine Br.ff ?_; conv => whnf)
                    | (refine Br.dt (by omega) ?_; conv => whnf)
                    | (refine Wr.i64 (by omega) ?_; conv => whnf)
                    | (refine Ck.mk (by omega) ?_; conv => whnf))
                  refine ⟨k + 1, (Less.cons rfl (Less.cons rfl (Less.cons rfl (Less.cons rfl (Less.nil _))))), ⟨by omega, fun j hj => ?_, rfl⟩, by omega⟩
                  by_cases e : j = k
                  · rw [e]; exact cr
                  · exact hcr j (by omega)
              · repeat' (first
                  | refine AW.seq ?_
                  | (refine AW.region ?_; conv => whnf)
                  | (refine AW.exit ?_; conv => whnf)
                  | refine AW.cond (by rfl) ?_
                  | (refine Br.df (by omega) ?_; conv => whnf)
                  | (refine Wr.i64 (by omega) ?_; conv => whnf))
                refine ⟨i + 1, (Less.cons rfl (Less.cons rfl (Less.cons rfl (Less.nil _)))), ⟨by omega, fun j hj => ?_, rfl⟩, by omega⟩
                by_cases e : j = i
                · rw [e]; exact ⟨d, kc, fun k hk => hcr k (by omega)⟩
                · exact hrows j (by omega)
        · have d' := mt dd.2 d
          have no := isTri_row (n := n) (by omega) (triRow_no1 d)
          repeat' (first
            | (refine Grid.rowAt hb hR i rfl rfl (by omega) l2 ?_; conv => whnf)
            | (refine Grid.num2 hb hR i 0 rfl (by omega) l2 (by omega) ?_; conv => whnf)
            | (refine Grid.num2 hb hR i 1 rfl (by omega) l2 (by omega) ?_; conv => whnf)
            | refine AW.seq ?_
            | (refine AW.region ?_; conv => whnf)
            | refine AW.block ?_
            | (refine AW.skip ?_; conv => whnf)
            | (refine AW.ret ?_; conv => whnf)
            | refine AW.cond (by rfl) ?_
            | (refine AW.draw (id := 6) (.p 0 (.p 1 (.p 2 (.r 3 [4, 5, 6, 7, 8, 9, 10, 11, 12, 13, 14, 15, 16, 17, 18, 19, 20, 21, 22, 23, 24, 25, 26, 27, 28, 29, 30, 31, 32, 33, 34, 35, 36, 37, 38, 39, 40, 41, 42, 43, 44, 45, 46, 47, 48, 49, 50, 51, 52, 53, 54, 55, 56] (.p 4 (.p 5 (.p 6 (.p 7 (.p 8 (.p 9 (.p 13 (.p 14 (.r 10 [11, 12, 15, 16, 17, 18, 19, 20, 21, 22, 23, 24, 25, 26, 27, 28, 29, 30, 31, 32, 33, 34, 35, 36, 37, 38, 39, 40, 41, 42, 43, 44, 45, 46, 47, 48, 49, 50, 51, 52, 53, 54, 55, 56] (.p 11 (.r 12 [15, 16, 17, 18, 19, 20, 21, 22, 23, 24, 25, 26, 27, 28, 29, 30, 31, 32, 33, 34, 35, 36, 37, 38, 39, 40, 41, 42, 43, 44, 45, 46, 47, 48, 49, 50, 51, 52, 53, 54, 55, 56] (.all [15] fun _ => (.p 16 (.p 17 (.p 18 (.p 19 (.p 20 (.p 21 (.p 25 (.p 26 (.p 27 (.p 32 (.p 33 (.r 22 [23, 24, 34, 35, 36, 37, 38, 39, 40, 41, 42, 43, 44, 45, 46, 47, 48, 49, 50, 51, 52, 53, 54, 55, 56] (.p 23 (.r 24 [34, 35, 36, 37, 38, 39, 40, 41, 42, 43, 44, 45, 46, 47, 48, 49, 50, 51, 52, 53, 54, 55, 56] (.r 28 [29, 30, 31, 34, 35, 36, 37, 38, 39, 40, 41, 42, 43, 44, 45, 46, 47, 48, 49, 50, 51, 52, 53, 54, 55, 56] (.p 29 (.r 30 [31, 34, 35, 36, 37, 38, 39, 40, 41, 42, 43, 44, 45, 46, 47, 48, 49, 50, 51, 52, 53, 54, 55, 56] (.p 31 (.all [34] fun _ => (.p 35 (.p 36 (.p 37 (.p 38 (.p 39 (.p 40 (.r 41 [42, 43, 44, 45, 46, 47, 48, 49, 50, 51, 52, 53, 54, 55, 56] (.p 42 (.r 43 [44, 45, 46, 47, 48, 49, 50, 51, 52, 53, 54, 55, 56] (.p 44 (.p 45 (.p 46 (.p 47 (.p 48 (.p 52 (.p 53 (.r 49 [50, 51, 54, 55, 56] (.p 50 (.r 51 [54, 55, 56] (.p 54 (.p 55 (.p 56 .done))))))))))))))))))))))))))))))))))))))))))))))))))))))))) (by kernel_rfl) (by kernel_rfl) ?_; conv => whnf)
            | (refine (l1In_ok _ _ _ _).mono ?_; rintro v h' ⟨rfl, e'⟩; subst h'; conv => whnf)
            | (refine Br.tt ?_; conv => whnf)
            | (refine Br.ff ?_; conv => whnf)
            | refine Br.not ?_
            | (refine Br.dt (by omega) ?_; conv => whnf)
            | (refine Br.df (by omega) ?_; conv => whnf)
            | (refine Br.dec (fun hc => ?_) (fun hc => ?_) <;> conv => whnf)
            | (refine Wr.i64 (by omega) ?_; conv => whnf)
            | (refine Ck.mk (by omega) ?_; conv => whnf))
          all_goals exact ⟨by rw [no], rfl⟩
      · have no := isTri_row (n := n) (by omega) (triRow_no1 fun a : diagOk n (f.getD i []) => l2 a.1)
        repeat' (first
          | (refine Grid.rowAt hb hR i rfl rfl (by omega) rfl ?_; conv => whnf)
          | refine AW.seq ?_
          | (refine AW.region ?_; conv => whnf)
          | refine AW.block ?_
          | (refine AW.skip ?_; conv => whnf)
          | (refine AW.ret ?_; conv => whnf)
          | refine AW.cond (by rfl) ?_
          | (refine AW.draw (id := 6) (.p 0 (.p 1 (.p 2 (.r 3 [4, 5, 6, 7, 8, 9, 10, 11, 12, 13, 14, 15, 16, 17, 18, 19, 20, 21, 22, 23, 24, 25, 26, 27, 28, 29, 30, 31, 32, 33, 34, 35, 36, 37, 38, 39, 40, 41, 42, 43, 44, 45, 46, 47, 48, 49, 50, 51, 52, 53, 54, 55, 56] (.p 4 (.p 5 (.p 6 (.p 7 (.p 8 (.p 9 (.p 13 (.p 14 (.r 10 [11, 12, 15, 16, 17, 18, 19, 20, 21, 22, 23, 24, 25, 26, 27, 28, 29, 30, 31, 32, 33, 34, 35, 36, 37, 38, 39, 40, 41, 42, 43, 44, 45, 46, 47, 48, 49, 50, 51, 52, 53, 54, 55, 56] (.p 11 (.r 12 [15, 16, 17, 18, 19, 20, 21, 22, 23, 24, 25, 26, 27, 28, 29, 30, 31, 32, 33, 34, 35, 36, 37, 38, 39, 40, 41, 42, 43, 44, 45, 46, 47, 48, 49, 50, 51, 52, 53, 54, 55, 56] (.all [15] fun _ => (.p 16 (.p 17 (.p 18 (.p 19 (.p 20 (.p 21 (.p 25 (.p 26 (.p 27 (.p 32 (.p 33 (.r 22 [23, 24, 34, 35, 36, 37, 38, 39, 40, 41, 42, 43, 44, 45, 46, 47, 48, 49, 50, 51, 52, 53, 54, 55, 56] (.p 23 (.r 24 [34, 35, 36, 37, 38, 39, 40, 41, 42, 43, 44, 45, 46, 47, 48, 49, 50, 51, 52, 53, 54, 55, 56] (.r 28 [29, 30, 31, 34, 35, 36, 37, 38, 39, 40, 41, 42, 43, 44, 45, 46, 47, 48, 49, 50, 51, 52, 53, 54, 55, 56] (.p 29 (.r 30 [31, 34, 35, 36, 37, 38, 39, 40, 41, 42, 43, 44, 45, 46, 47, 48, 49, 50, 51, 52, 53, 54, 55, 56] (.p 31 (.all [34] fun _ => (.p 35 (.p 36 (.p 37 (.p 38 (.p 39 (.p 40 (.r 41 [42, 43, 44, 45, 46, 47, 48, 49, 50, 51, 52, 53, 54, 55, 56] (.p 42 (.r 43 [44, 45, 46, 47, 48, 49, 50, 51, 52, 53, 54, 55, 56] (.p 44 (.p 45 (.p 46 (.p 47 (.p 48 (.p 52 (.p 53 (.r 49 [50, 51, 54, 55, 56] (.p 50 (.r 51 [54, 55, 56] (.p 54 (.p 55 (.p 56 .done))))))))))))))))))))))))))))))))))))))))))))))))))))))))) (by kernel_rfl) (by kernel_rfl) ?_; conv => whnf)
          | (refine Br.tt ?_; conv => whnf)
          | refine Br.not ?_
          | (refine Br.dt (by omega) ?_; conv => whnf)
          | (refine Br.df (by omega) ?_; conv => whnf)
          | (refine Ck.mk (by omega) ?_; conv => whnf))
        exact ⟨by rw [no], rfl⟩
    · repeat' (first
        | refine AW.seq ?_
        | (refine AW.region ?_; conv => whnf)
        | (refine AW.ret ?_; conv => whnf)
        | (refine AW.exit ?_; conv => whnf)
        | refine AW.cond (by rfl) ?_
        | (refine Br.df (by omega) ?_; conv => whnf))
      exact ⟨by rw [isTri_yes ⟨hz, hz2⟩ fun j hj => hrows j (by omega)], rfl⟩
  · have no := isTri_no hsz
    rw [ed] at hsz
    refine AC.enter Tryz.func52 Tryz.call52 rfl Tryz.ntmps52 (of_decide_eq_true (by rfl)) ?_
    repeat' (first
      | refine AW.seq ?_
      | (refine AW.region ?_; conv => whnf)
      | (refine AW.ret ?_; conv => whnf)
      | refine AW.cond (by rfl) ?_
      | (refine (l1In_ok _ _ _ _).mono ?_; rintro v h' ⟨rfl, e'⟩; subst h'; conv => whnf)
      | (refine Br.tt ?_; conv => whnf)
      | refine Br.not ?_
      | (refine Br.dt (by omega) ?_; conv => whnf)
      | (refine Br.df (by omega) ?_; conv => whnf)
      | (refine Br.dec (fun hc => ?_) (fun hc => ?_) <;> conv => whnf)
      | (refine Wr.i64 (by omega) ?_; conv => whnf))
    all_goals exact ⟨by rw [no], rfl⟩

end Go.Proofs.YtbicfognbbeigaaGreat
