/-
  Contracts of numbers of words are proved: level steps, binomials, numbers of Fuss.
  They hold for all arguments within the sizes that the statements' code allows.
-/
import Derived.Test.YtdfdlnjijccpeaaC3
import Derived.Test.YtdfdlnjijccpeaaP2
set_option linter.unusedVariables false
set_option linter.unusedSimpArgs false
namespace Go.Proofs.Ytdfdlnjijccpeaa
open Go.Proofs.Ytdfdlnjijccpeaa.Ab Go.Proofs.Ytdfdlnjijccpeaa.Pl


/-- level steps -/
def levels (w : List UInt8) : Int := if isMotzkin w then (cntB w 108 : Int) else -1




theorem choose_ok (n k : Nat) (hk : k ≤ n) (hn : n ≤ 1000) (hb : ∀ i : Nat, i ≤ k → 0 ≤ chooseI n k i ∧ chooseI n k i ≤ 1000000000) (h0 : H) : AC env 113 [.int .i64 n, .int .i64 k] h0 fun v h' => v = .int .i64 (chooseI n k k) ∧ h' = h0 := by
  refine AC.enter Try.func113 Try.call113 rfl Try.ntmps113 (of_decide_eq_true (by rfl)) ?_
  repeat' (first
    | refine AW.seq ?_
    | (refine AW.region ?_; conv => whnf)
    | refine AW.block ?_
    | (refine AW.skip ?_; conv => whnf)
    | refine AW.cond (by rfl) ?_
    | (refine Br.ff ?_; conv => whnf)
    | (refine Br.df (by omega) ?_; conv => whnf))
  refine AW.loop2 (fun (x i : Int) => [(0, .int .i64 n), (1, .int .i64 k), (5, .int .i64 x), (6, .int .i64 i)]) (fun x i h' => (∃ j : Nat, j ≤ k ∧ i = j + 1 ∧ x = chooseI n k j) ∧ h' = h0) (fun _ i => (k + 1 - i).toNat) 1 1
    (Less.cons rfl (Less.cons rfl (Less.cons rfl (Less.cons rfl (Less.nil _))))) ⟨⟨0, by omega, rfl, rfl⟩, rfl⟩ ?_
  rintro x i h' ⟨⟨j, hj, rfl, rfl⟩, rfl⟩
  have b1 := hb j hj
  have b2 : chooseI n k j * (n - k + (j + 1)) ≤ 1000000000 * 2000 := Int.mul_le_mul b1.2 (by omega) (by omega) (by omega)
  have b3 : 0 ≤ chooseI n k j * (n - k + (j + 1)) := Int.mul_nonneg b1.1 (by omega)
  have b4 : j + 1 ≤ k → 0 ≤ chooseI n k (j + 1) ∧ chooseI n k (j + 1) ≤ 1000000000 := hb (j + 1)
  have b5 : chooseI n k (j + 1) = (chooseI n k j * (n - k + (j + 1))).tdiv (j + 1) := rfl
  rw [b5] at b4
  repeat' (first
    | refine AW.seq ?_
    | (refine AW.region ?_; conv => whnf)
    | refine AW.block ?_
    | (refine AW.skip ?_; conv => whnf)
    | (refine AW.ret ?_; conv => whnf)
    | (refine AW.exit ?_; conv => whnf)
    | refine AW.cond (by rfl) ?_
    | (refine Br.dec (fun hc => ?_) (fun hc => ?_) <;> conv => whnf)
    | (refine Wr.i64 (by omega) ?_; conv => whnf)
    | (refine Ck.mk (by omega) ?_; conv => whnf))
  · exact ⟨_, _, (Less.cons rfl (Less.cons rfl (Less.cons rfl (Less.cons rfl (Less.nil _))))), ⟨⟨j + 1, by omega, by omega, rfl⟩, rfl⟩, by omega⟩
  · have e : j = k := by omega
    subst e
    exact ⟨rfl, rfl⟩

theorem choose_at (n k : Int) (h : 0 ≤ k ∧ k ≤ n ∧ n ≤ 1000) (hb : binFine n.toNat k.toNat = true) (h0 : H) : AC env 113 [.int .i64 n, .int .i64 k] h0 fun v h' => v = .int .i64 (chooseI n k k.toNat) ∧ h' = h0 := by
  obtain ⟨a, rfl⟩ := Int.eq_ofNat_of_zero_le (show 0 ≤ n by omega)
  obtain ⟨b, rfl⟩ := Int.eq_ofNat_of_zero_le (show 0 ≤ k by omega)
  exact choose_ok a b (by omega) (by omega) (binFine_c hb) h0

theorem l3Binomial_ok (n k : Nat) (hk : k ≤ n) (hn : n ≤ 1000) (hb : ∀ i : Nat, i ≤ k → 0 ≤ binI n i ∧ binI n i ≤ 1000000000) (h0 : H) : AC env 120 [.int .i64 n, .int .i64 k] h0 fun v h' => v = .int .i64 (binI n k) ∧ h' = h0 := by
  refine AC.enter Try.func120 Try.call120 rfl Try.ntmps120 (of_decide_eq_true (by rfl)) ?_
  repeat' (first
    | refine AW.seq ?_
    | (refine AW.region ?_; conv => whnf)
    | refine AW.block ?_)
  refine AW.loop2 (fun (x i : Int) => [(0, .int .i64 n), (1, .int .i64 k), (5, .int .i64 x), (6, .int .i64 i)]) (fun x i h' => (∃ j : Nat, j ≤ k ∧ i = j ∧ x = binI n j) ∧ h' = h0) (fun _ i => (k - i).toNat) 1 0
    (Less.cons rfl (Less.cons rfl (Less.cons rfl (Less.cons rfl (Less.nil _))))) ⟨⟨0, by omega, rfl, rfl⟩, rfl⟩ ?_
  rintro x i h' ⟨⟨j, hj, rfl, rfl⟩, rfl⟩
  have b1 := hb j hj
  have b2 : binI n j * (n - j) ≤ 1000000000 * 2000 := Int.mul_le_mul b1.2 (by omega) (by omega) (by omega)
  have b3 : 0 ≤ binI n j * (n - j) := Int.mul_nonneg b1.1 (by omega)
  have b4 : j + 1 ≤ k → 0 ≤ binI n (j + 1) ∧ binI n (j + 1) ≤ 1000000000 := hb (j + 1)
  have b5 : binI n (j + 1) = (binI n j * (n - j)).tdiv (j + 1) := rfl
  rw [b5] at b4
  repeat' (first
    | refine AW.seq ?_
    | (refine AW.region ?_; conv => whnf)
    | refine AW.block ?_
    | (refine AW.skip ?_; conv => whnf)
    | (refine AW.ret ?_; conv => whnf)
    | (refine AW.exit ?_; conv => whnf)
    | refine AW.cond (by rfl) ?_
    | (refine Br.dec (fun hc => ?_) (fun hc => ?_) <;> conv => whnf)
    | (refine Wr.i64 (by omega) ?_; conv => whnf)
    | (refine Ck.mk (by omega) ?_; conv => whnf))
  · exact ⟨_, _, (Less.cons rfl (Less.cons rfl (Less.cons rfl (Less.cons rfl (Less.nil _))))), ⟨⟨j + 1, by omega, by omega, rfl⟩, rfl⟩, by omega⟩
  · have e : j = k := by omega
    subst e
    exact ⟨rfl, rfl⟩

theorem l3Binomial_at (n k : Int) (h : 0 ≤ k ∧ k ≤ n ∧ n ≤ 1000) (hb : binFine n.toNat k.toNat = true) (h0 : H) : AC env 120 [.int .i64 n, .int .i64 k] h0 fun v h' => v = .int .i64 (binI n k.toNat) ∧ h' = h0 := by
  obtain ⟨a, rfl⟩ := Int.eq_ofNat_of_zero_le (show 0 ≤ n by omega)
  obtain ⟨b, rfl⟩ := Int.eq_ofNat_of_zero_le (show 0 ≤ k by omega)
  exact l3Binomial_ok a b (by omega) (by omega) (binFine_b hb) h0

theorem iFussNumber_ok (m n : Int) (h0 : H) : AC env 44 [.int .i64 m, .int .i64 n] h0 fun v h' => v = .int .i64 (fussN m n) ∧ h' = h0 := by
  by_cases hr : (1 ≤ m ∧ m ≤ 4) ∧ 0 ≤ n ∧ n ≤ 6
  · have f := fuss_fine hr.1 hr.2
    have f1 := f.1
    refine AC.enter Try.func44 Try.call44 rfl Try.ntmps44 (of_decide_eq_true (by rfl)) ?_
    repeat' (first
      | refine AW.seq ?_
      | (refine AW.region ?_; conv => whnf)
      | (refine AW.skip ?_; conv => whnf)
      | (refine AW.ret ?_; conv => whnf)
      | refine AW.cond (by rfl) ?_
      | (refine (within_ok _ _ _ _).mono ?_; rintro v h' ⟨rfl, e'⟩; subst h'; conv => whnf)
      | (refine (choose_at _ _ (by first | omega | (simp only [List.length_drop, List.length_take, List.length_append, List.length_cons, List.length_nil]; omega)) (by assumption) _).mono ?_; rintro v h' ⟨rfl, e'⟩; subst h'; conv => whnf)
      | refine Br.not ?_
      | (refine Br.dt (by omega) ?_; conv => whnf)
      | (refine Wr.i64 (by omega) ?_; conv => whnf)
      | (refine Ck.mk (by omega) ?_; conv => whnf))
    exact ⟨by rw [fussN, if_pos hr], rfl⟩
  · refine AC.enter Try.func44 Try.call44 rfl Try.ntmps44 (of_decide_eq_true (by rfl)) ?_
    repeat' (first
      | refine AW.seq ?_
      | (refine AW.region ?_; conv => whnf)
      | (refine AW.ret ?_; conv => whnf)
      | refine AW.cond (by rfl) ?_
      | (refine (within_ok _ _ _ _).mono ?_; rintro v h' ⟨rfl, e'⟩; subst h'; conv => whnf)
      | (refine Br.tt ?_; conv => whnf)
      | refine Br.not ?_
      | (refine Br.dt (by omega) ?_; conv => whnf)
      | (refine Br.df (by omega) ?_; conv => whnf)
      | (refine Br.dec (fun hc => ?_) (fun hc => ?_) <;> conv => whnf))
    all_goals exact ⟨by rw [fussN, if_neg hr], rfl⟩

theorem sFussNumber_ok (m n : Int) (h0 : H) : AC env 55 [.int .i64 m, .int .i64 n] h0 fun v h' => v = .int .i64 (fussN m n) ∧ h' = h0 := by
  by_cases hr : (1 ≤ m ∧ m ≤ 4) ∧ 0 ≤ n ∧ n ≤ 6
  · have f := fuss_fine hr.1 hr.2
    have f1 := f.1
    have f2 := f.2.1
    rw [f2] at f
    refine AC.enter Try.func55 Try.call55 rfl Try.ntmps55 (of_decide_eq_true (by rfl)) ?_
    repeat' (first
      | refine AW.seq ?_
      | (refine AW.region ?_; conv => whnf)
      | (refine AW.skip ?_; conv => whnf)
      | (refine AW.ret ?_; conv => whnf)
      | refine AW.cond (by rfl) ?_
      | (refine (l1In_ok _ _ _ _).mono ?_; rintro v h' ⟨rfl, e'⟩; subst h'; conv => whnf)
      | (refine (l3Binomial_at _ _ (by first | omega | (simp only [List.length_drop, List.length_take, List.length_append, List.length_cons, List.length_nil]; omega)) (by assumption) _).mono ?_; rintro v h' ⟨rfl, e'⟩; subst h'; conv => whnf)
      | refine Br.not ?_
      | (refine Br.dt (by omega) ?_; conv => whnf)
      | (refine Wr.i64 (by omega) ?_; conv => whnf)
      | (refine Ck.mk (by omega) ?_; conv => whnf))
    exact ⟨by rw [fussN, if_pos hr, f2], rfl⟩
  · refine AC.enter Try.func55 Try.call55 rfl Try.ntmps55 (of_decide_eq_true (by rfl)) ?_
    repeat' (first
      | refine AW.seq ?_
      | (refine AW.region ?_; conv => whnf)
      | (refine AW.ret ?_; conv => whnf)
      | refine AW.cond (by rfl) ?_
      | (refine (l1In_ok _ _ _ _).mono ?_; rintro v h' ⟨rfl, e'⟩; subst h'; conv => whnf)
      | (refine Br.tt ?_; conv => whnf)
      | refine Br.not ?_
      | (refine Br.dt (by omega) ?_; conv => whnf)
      | (refine Br.df (by omega) ?_; conv => whnf)
      | (refine Br.dec (fun hc => ?_) (fun hc => ?_) <;> conv => whnf))
    all_goals exact ⟨by rw [fussN, if_neg hr], rfl⟩


end Go.Proofs.Ytdfdlnjijccpeaa
