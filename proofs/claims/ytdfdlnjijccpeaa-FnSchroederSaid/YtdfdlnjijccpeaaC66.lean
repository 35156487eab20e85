/-
  The law of the little Schroeder numbers is proved.
  It holds for all numbers.
-/
import Derived.Test.YtdfdlnjijccpeaaC50
set_option linter.unusedVariables false
set_option linter.unusedSimpArgs false
namespace Go.Proofs.Ytdfdlnjijccpeaa
open Go.Proofs.Ytdfdlnjijccpeaa.Ab Go.Proofs.Ytdfdlnjijccpeaa.Pl

def litS (n : Int) : Int := if n = 0 then 1 else if 0 ≤ schN n then (schN n).tdiv 2 else -1
theorem tdiv_two {x : Int} (h : 0 ≤ x) : 0 ≤ x.tdiv 2 ∧ x.tdiv 2 ≤ x := by
  rw [Int.tdiv_eq_ediv_of_nonneg h]
  omega
theorem schN_zero : schN 0 = 1 := by
  unfold schN
  rw [if_pos (by omega)]
  rfl
theorem iLittle_ok (n : Int) (h0 : H) (hn : -9223372036854775808 ≤ n ∧ n ≤ 9223372036854775807) : AC env 39 [.int .i64 n] h0 fun v h' => v = .int .i64 (litS n) ∧ Keeps h0 h' := by
  have hs := St.refl h0
  have bd := schN_bd n
  have d : litS n = if n = 0 then 1 else if 0 ≤ schN n then (schN n).tdiv 2 else -1 := rfl
  by_cases z : n = 0
  · rw [if_pos z] at d
    refine AC.enter Try.func39 Try.call39 rfl Try.ntmps39 (of_decide_eq_true (by rfl)) ?_
    repeat' (first
      | refine AW.seq ?_
      | (refine AW.region ?_; conv => whnf)
      | (refine AW.ret ?_; conv => whnf)
      | refine AW.cond (by rfl) ?_
      | (refine Br.dt (by omega) ?_; conv => whnf))
    exact ⟨by rw [d], hs.keeps⟩
  · rw [if_neg z] at d
    by_cases p : 0 ≤ schN n
    · rw [if_pos p] at d
      have t2 := tdiv_two p
      refine AC.enter Try.func39 Try.call39 rfl Try.ntmps39 (of_decide_eq_true (by rfl)) ?_
      repeat' (first
        | refine AW.seq ?_
        | (refine AW.region ?_; conv => whnf)
        | (refine AW.skip ?_; conv => whnf)
        | (refine AW.ret ?_; conv => whnf)
        | refine AW.cond (by rfl) ?_
        | (refine (iSchroeder_ok _ _ (by omega)).mono ?_; rintro v h' ⟨rfl, hk'⟩; have hs' := St.keep (by assumption) hk'; conv => whnf)
        | (refine Br.dt (by omega) ?_; conv => whnf)
        | (refine Br.df (by omega) ?_; conv => whnf)
        | (refine Wr.i64 (by omega) ?_; conv => whnf)
        | (refine Ck.mk (by omega) ?_; conv => whnf))
      exact ⟨by rw [d], hs'.keeps⟩
    · rw [if_neg p] at d
      refine AC.enter Try.func39 Try.call39 rfl Try.ntmps39 (of_decide_eq_true (by rfl)) ?_
      repeat' (first
        | refine AW.seq ?_
        | (refine AW.region ?_; conv => whnf)
        | (refine AW.skip ?_; conv => whnf)
        | (refine AW.ret ?_; conv => whnf)
        | refine AW.cond (by rfl) ?_
        | (refine (iSchroeder_ok _ _ (by omega)).mono ?_; rintro v h' ⟨rfl, hk'⟩; have hs' := St.keep (by assumption) hk'; conv => whnf)
        | (refine Br.df (by omega) ?_; conv => whnf))
      exact ⟨by rw [d], hs'.keeps⟩
theorem sLittle_ok (n : Int) (h0 : H) (hn : -9223372036854775808 ≤ n ∧ n ≤ 9223372036854775807) : AC env 38 [.int .i64 n] h0 fun v h' => v = .int .i64 (litS n) ∧ Keeps h0 h' := by
  have hs := St.refl h0
  have bd := schN_bd n
  have d : litS n = if n = 0 then 1 else if 0 ≤ schN n then (schN n).tdiv 2 else -1 := rfl
  by_cases z : n = 0
  · rw [if_pos z] at d
    have sz : schN n = 1 := by rw [z]; exact schN_zero
    refine AC.enter Try.func38 Try.call38 rfl Try.ntmps38 (of_decide_eq_true (by rfl)) ?_
    repeat' (first
      | refine AW.seq ?_
      | (refine AW.region ?_; conv => whnf)
      | (refine AW.ret ?_; conv => whnf)
      | refine AW.cond (by rfl) ?_
      | (refine (sSchroeder_ok _ _ (by omega)).mono ?_; rintro v h' ⟨rfl, hk'⟩; have hs' := St.keep (by assumption) hk'; conv => whnf)
      | (refine Br.tt ?_; conv => whnf)
      | (refine Br.dt (by omega) ?_; conv => whnf))
    all_goals exact ⟨by rw [d, sz], hs'.keeps⟩
  · rw [if_neg z] at d
    by_cases p : 0 ≤ schN n
    · rw [if_pos p] at d
      have t2 := tdiv_two p
      refine AC.enter Try.func38 Try.call38 rfl Try.ntmps38 (of_decide_eq_true (by rfl)) ?_
      repeat' (first
        | refine AW.seq ?_
        | (refine AW.region ?_; conv => whnf)
        | (refine AW.skip ?_; conv => whnf)
        | (refine AW.ret ?_; conv => whnf)
        | refine AW.cond (by rfl) ?_
        | (refine (sSchroeder_ok _ _ (by omega)).mono ?_; rintro v h' ⟨rfl, hk'⟩; have hs' := St.keep (by assumption) hk'; conv => whnf)
        | (refine Br.df (by omega) ?_; conv => whnf)
        | (refine Wr.i64 (by omega) ?_; conv => whnf)
        | (refine Ck.mk (by omega) ?_; conv => whnf))
      all_goals exact ⟨by rw [d], hs'.keeps⟩
    · rw [if_neg p] at d
      refine AC.enter Try.func38 Try.call38 rfl Try.ntmps38 (of_decide_eq_true (by rfl)) ?_
      repeat' (first
        | refine AW.seq ?_
        | (refine AW.region ?_; conv => whnf)
        | (refine AW.ret ?_; conv => whnf)
        | refine AW.cond (by rfl) ?_
        | (refine (sSchroeder_ok _ _ (by omega)).mono ?_; rintro v h' ⟨rfl, hk'⟩; have hs' := St.keep (by assumption) hk'; conv => whnf)
        | (refine Br.dt (by omega) ?_; conv => whnf)
        | (refine Br.df (by omega) ?_; conv => whnf))
      all_goals exact ⟨by rw [d]; congr 1; omega, hs'.keeps⟩
theorem lawLittle_ok (n : Int) (hn : -9223372036854775808 ≤ n ∧ n ≤ 9223372036854775807) (h : H) : AC env 4 [.int .i64 n] h fun v _ => v = .bool true := by
  have hs := St.refl h
  refine AC.enter Try.func4 Try.call4 rfl Try.ntmps4 (of_decide_eq_true (by rfl)) ?_
  repeat' (first
    | refine AW.seq ?_
    | (refine AW.region ?_; conv => whnf)
    | (refine AW.skip ?_; conv => whnf)
    | (refine AW.ret ?_; conv => whnf)
    | refine AW.cond (by rfl) ?_
    | (refine (sLittle_ok _ _ (by omega)).mono ?_; rintro v h' ⟨rfl, hk'⟩; have hs' := St.keep (by assumption) hk'; conv => whnf)
    | (refine (iLittle_ok _ _ (by omega)).mono ?_; rintro v h' ⟨rfl, hk'⟩; have hs' := St.keep (by assumption) hk'; conv => whnf)
    | refine Br.not ?_
    | (refine Br.t (beq_self_eq_true _) ?_; conv => whnf))
  all_goals first
    | rfl
    | (simp; done)

end Go.Proofs.Ytdfdlnjijccpeaa
