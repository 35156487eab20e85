/-
  Contracts of the tests of words are proved: words of Motzkin, of Schroeder and of Fuss.
  They hold for all words within the size of an int.
-/
import Derived.Test.YtdfdlnjijccpeaaC2
set_option linter.unusedVariables false
set_option linter.unusedSimpArgs false
namespace Go.Proofs.Ytdfdlnjijccpeaa
open Go.Proofs.Ytdfdlnjijccpeaa.Ab Go.Proofs.Ytdfdlnjijccpeaa.Pl

theorem rises_ok (w : List UInt8) (hw : w.length ≤ 9223372036854775807) (h0 : H) : AC env 134 [.str w] h0 fun v h' => v = .bool (rises w) ∧ h' = h0 := by
  refine AC.enter Try.func134 Try.call134 rfl Try.ntmps134 (of_decide_eq_true (by rfl)) ?_
  repeat' (first
    | refine AW.seq ?_
    | (refine AW.region ?_; conv => whnf)
    | refine AW.block ?_)
  refine AW.loop2 (fun (g i : Int) => [(0, .str w), (3, .int .i64 g), (4, .int .i64 i)]) (fun g i h' => (∃ k : Nat, k ≤ w.length ∧ i = k ∧ walkH 1 (-1) true (w.take k) 0 = some g) ∧ h' = h0) (fun _ i => (w.length - i).toNat) 0 0
    (Less.cons rfl (Less.cons rfl (Less.cons rfl (Less.nil _)))) ⟨⟨0, by omega, rfl, rfl⟩, rfl⟩ ?_
  rintro g i h' ⟨⟨k, hk, rfl, hx⟩, rfl⟩
  have b1 := walkH_bd (by decide) (by decide) _ _ _ (by decide) hx
  have b2 : (w.take k).length ≤ k := List.length_take_le _ _
  repeat' (first
    | refine AW.seq ?_
    | (refine AW.region ?_; conv => whnf)
    | refine AW.block ?_
    | (refine AW.skip ?_; conv => whnf)
    | (refine AW.ret ?_; conv => whnf)
    | (refine AW.exit ?_; conv => whnf)
    | refine AW.cond (by rfl) ?_
    | (refine Br.df (by omega) ?_; conv => whnf)
    | (refine Br.dec (fun hc => ?_) (fun hc => ?_) <;> conv => whnf)
    | (refine Wr.i64 (by omega) ?_; conv => whnf)
    | (refine Ck.mk (by omega) ?_; conv => whnf))
  · exact ⟨_, _, (Less.cons rfl (Less.cons rfl (Less.cons rfl (Less.nil _)))), ⟨⟨k + 1, by omega, by omega, walkH_next (by omega) hx (stepOf_u (by simpa using hc)) (by omega)⟩, rfl⟩, by omega⟩
  · exact ⟨congrArg AV.bool (by simp [rises, walkH_low (by omega) hx (stepOf_d (by simpa using ‹_ = (100 : Int)›)) (by omega)]), rfl⟩
  · exact ⟨_, _, (Less.cons rfl (Less.cons rfl (Less.cons rfl (Less.nil _)))), ⟨⟨k + 1, by omega, by omega, walkH_next (by omega) hx (stepOf_d (by simpa using ‹_ = (100 : Int)›)) (by omega)⟩, rfl⟩, by omega⟩
  · exact ⟨_, _, (Less.cons rfl (Less.cons rfl (Less.cons rfl (Less.nil _)))), ⟨⟨k + 1, by omega, by omega, by simpa using walkH_next (by omega) hx (stepOf_l (by simpa using ‹_ = (108 : Int)›)) (by omega)⟩, rfl⟩, by omega⟩
  · exact ⟨congrArg AV.bool (by simp [rises, walkH_bad (by omega) hx (stepOf_no (by simpa using ‹¬ _ = (117 : Int)›) (by simpa using ‹¬ _ = (100 : Int)›) (.inl (by simpa using ‹¬ _ = (108 : Int)›)))]), rfl⟩
  · have e : k = w.length := by omega
    subst e
    rw [List.take_length] at hx
    exact ⟨congrArg AV.bool (by simp [rises, hx]), rfl⟩


theorem iIsSchroeder_ok (w : List UInt8) (hw : w.length ≤ 4611686018427387903) (h0 : H) : AC env 84 [.str w] h0 fun v h' => v = .bool (isSchroeder w) ∧ h' = h0 := by
  have b1 := cntB_le w 108
  refine AC.enter Try.func84 Try.call84 rfl Try.ntmps84 (of_decide_eq_true (by rfl)) ?_
  repeat' (first
    | refine AW.seq ?_
    | (refine AW.region ?_; conv => whnf)
    | (refine AW.ret ?_; conv => whnf)
    | (refine (count_ok _ _ (by first | omega | (simp only [List.length_drop, List.length_take, List.length_append, List.length_cons, List.length_nil]; omega)) _).mono ?_; rintro v h' ⟨rfl, e'⟩; subst h'; conv => whnf)
    | (refine (rises_ok _ (by first | omega | (simp only [List.length_drop, List.length_take, List.length_append, List.length_cons, List.length_nil]; omega)) _).mono ?_; rintro v h' ⟨rfl, e'⟩; subst h'; conv => whnf)
    | (refine Br.dt (by omega) ?_; conv => whnf)
    | (refine Br.df (by omega) ?_; conv => whnf)
    | (refine Br.dec (fun hc => ?_) (fun hc => ?_) <;> conv => whnf)
    | (refine Wr.i64 (by omega) ?_; conv => whnf))
  · exact ⟨congrArg AV.bool (by unfold isSchroeder; rw [decide_eq_true (by omega)]; rfl), rfl⟩
  · exact ⟨congrArg AV.bool (by unfold isSchroeder; rw [decide_eq_false (by omega)]; rfl), rfl⟩


theorem sIsSchroeder_ok (w : List UInt8) (hw : w.length ≤ 4611686018427387903) (h0 : H) : AC env 89 [.str w] h0 fun v h' => v = .bool (isSchroeder w) ∧ h' = h0 := by
  refine AC.enter Try.func89 Try.call89 rfl Try.ntmps89 (of_decide_eq_true (by rfl)) ?_
  repeat' (first
    | refine AW.seq ?_
    | (refine AW.region ?_; conv => whnf)
    | refine AW.block ?_)
  refine AW.loop3 (fun (g n i : Int) => [(0, .str w), (3, .int .i64 g), (4, .int .i64 n), (5, .int .i64 i)]) (fun g n i h' => (∃ k : Nat, k ≤ w.length ∧ i = k ∧ n = k + cntB (w.take k) 108 ∧ walkH 1 (-1) true (w.take k) 0 = some g) ∧ h' = h0) (fun _ _ i => (w.length - i).toNat) 0 0 0
    (Less.cons rfl (Less.cons rfl (Less.cons rfl (Less.cons rfl (Less.nil _))))) ⟨⟨0, by omega, rfl, rfl, rfl⟩, rfl⟩ ?_
  rintro g n i h' ⟨⟨k, hk, rfl, rfl, hx⟩, rfl⟩
  have b1 := walkH_bd (by decide) (by decide) _ _ _ (by decide) hx
  have b2 : (w.take k).length ≤ k := List.length_take_le _ _
  have b3 := cntB_le (w.take k) 108
  have hcnt : ∀ x : List UInt8, k < w.length → cntB (w.take (k + 1)) 108 = cntB (w.take k) 108 + if ((w.getD k 0).toNat : Int) = 108 then 1 else 0 := fun _ hk => by rw [take_snoc w k hk, cntB_snoc]
  repeat' (first
    | refine AW.seq ?_
    | (refine AW.region ?_; conv => whnf)
    | refine AW.block ?_
    | (refine AW.skip ?_; conv => whnf)
    | (refine AW.ret ?_; conv => whnf)
    | (refine AW.exit ?_; conv => whnf)
    | refine AW.cond (by rfl) ?_
    | (refine Br.dt (by omega) ?_; conv => whnf)
    | (refine Br.df (by omega) ?_; conv => whnf)
    | (refine Br.dec (fun hc => ?_) (fun hc => ?_) <;> conv => whnf)
    | (refine Wr.i64 (by omega) ?_; conv => whnf)
    | (refine Ck.mk (by omega) ?_; conv => whnf))
  · have hl : ((w.getD k 0).toNat : Int) = 117 := by simpa using hc
    exact ⟨_, _, _, (Less.cons rfl (Less.cons rfl (Less.cons rfl (Less.cons rfl (Less.nil _))))), ⟨⟨k + 1, by omega, by omega, by rw [hcnt w (by omega), if_neg (by omega)]; omega, walkH_next (by omega) hx (stepOf_u hl) (by omega)⟩, rfl⟩, by omega⟩
  · exact ⟨congrArg AV.bool (by simp [isSchroeder, rises, walkH_low (by omega) hx (stepOf_d (by simpa using ‹_ = (100 : Int)›)) (by omega)]), rfl⟩
  · have hl : ((w.getD k 0).toNat : Int) = 100 := by simpa using ‹_ = (100 : Int)›
    exact ⟨_, _, _, (Less.cons rfl (Less.cons rfl (Less.cons rfl (Less.cons rfl (Less.nil _))))), ⟨⟨k + 1, by omega, by omega, by rw [hcnt w (by omega), if_neg (by omega)]; omega, walkH_next (by omega) hx (stepOf_d hl) (by omega)⟩, rfl⟩, by omega⟩
  · have hl : ((w.getD k 0).toNat : Int) = 108 := by simpa using ‹_ = (108 : Int)›
    exact ⟨_, _, _, (Less.cons rfl (Less.cons rfl (Less.cons rfl (Less.cons rfl (Less.nil _))))), ⟨⟨k + 1, by omega, by omega, by rw [hcnt w (by omega), if_pos hl]; omega, by simpa using walkH_next (by omega) hx (stepOf_l hl) (by omega)⟩, rfl⟩, by omega⟩
  · exact ⟨congrArg AV.bool (by simp [isSchroeder, rises, walkH_bad (by omega) hx (stepOf_no (by simpa using ‹¬ _ = (117 : Int)›) (by simpa using ‹¬ _ = (100 : Int)›) (.inl (by simpa using ‹¬ _ = (108 : Int)›)))]), rfl⟩
  all_goals
    have e : k = w.length := by omega
    subst e
    rw [List.take_length] at *
    exact ⟨congrArg AV.bool (by rw [Bool.eq_iff_iff]; simp [isSchroeder, rises, hx]; try omega), rfl⟩

theorem iIsFuss_ok (m : Int) (w : List UInt8) (hm : -9223372036854775808 ≤ m ∧ m ≤ 9223372036854775807) (hw : w.length ≤ 9223372036854775807) (h0 : H) : AC env 46 [.int .i64 m, .str w] h0 fun v h' => v = .bool (isFuss m w) ∧ h' = h0 := by
  refine AC.enter Try.func46 Try.call46 rfl Try.ntmps46 (of_decide_eq_true (by rfl)) ?_
  repeat' (first
    | refine AW.seq ?_
    | (refine AW.region ?_; conv => whnf)
    | refine AW.block ?_
    | (refine AW.skip ?_; conv => whnf)
    | (refine AW.ret ?_; conv => whnf)
    | refine AW.cond (by rfl) ?_
    | (refine (within_ok _ _ _ _).mono ?_; rintro v h' ⟨rfl, e'⟩; subst h'; conv => whnf)
    | (refine Br.tt ?_; conv => whnf)
    | refine Br.not ?_
    | (refine Br.dt (by omega) ?_; conv => whnf)
    | (refine Br.df (by omega) ?_; conv => whnf)
    | (refine Br.dec (fun hc => ?_) (fun hc => ?_) <;> conv => whnf))
  · exact ⟨congrArg AV.bool (by unfold isFuss; rw [decide_eq_false (by omega)]; rfl), rfl⟩
  rotate_left
  · exact ⟨congrArg AV.bool (by unfold isFuss; rw [decide_eq_false (by omega)]; rfl), rfl⟩
  refine AW.loop2 (fun (g i : Int) => [(0, .int .i64 m), (1, .str w), (5, .int .i64 g), (6, .int .i64 i)]) (fun g i h' => (∃ k : Nat, k ≤ w.length ∧ i = k ∧ walkH (m - 1) (-1) false (w.take k) 0 = some g) ∧ h' = h0) (fun _ i => (w.length - i).toNat) 0 0
    (Less.cons rfl (Less.cons rfl (Less.cons rfl (Less.cons rfl (Less.nil _))))) ⟨⟨0, by omega, rfl, rfl⟩, rfl⟩ ?_
  rintro g i h' ⟨⟨k, hk, rfl, hx⟩, rfl⟩
  have b0 : (1 ≤ m ∧ m ≤ 4) ∧ w.length ≤ 24 := ⟨by assumption, by omega⟩
  have b1 := walkH_bd (by omega) (by omega) _ _ _ (by decide) hx
  have b2 : (w.take k).length ≤ k := List.length_take_le _ _
  have b3 : (m - 1) * ((w.take k).length : Int) ≤ 3 * 24 := Int.mul_le_mul (by omega) (by omega) (by omega) (by omega)
  repeat' (first
    | refine AW.seq ?_
    | (refine AW.region ?_; conv => whnf)
    | refine AW.block ?_
    | (refine AW.skip ?_; conv => whnf)
    | (refine AW.ret ?_; conv => whnf)
    | (refine AW.exit ?_; conv => whnf)
    | refine AW.cond (by rfl) ?_
    | (refine Br.df (by omega) ?_; conv => whnf)
    | (refine Br.dec (fun hc => ?_) (fun hc => ?_) <;> conv => whnf)
    | (refine Wr.i64 (by omega) ?_; conv => whnf)
    | (refine Ck.mk (by omega) ?_; conv => whnf))
  · exact ⟨_, _, (Less.cons rfl (Less.cons rfl (Less.cons rfl (Less.cons rfl (Less.nil _))))), ⟨⟨k + 1, by omega, by omega, by simpa [Int.add_sub_assoc] using walkH_next (by omega) hx (stepOf_u (by simpa using hc)) (by omega)⟩, rfl⟩, by omega⟩
  · exact ⟨congrArg AV.bool (by simp [isFuss, walkH_low (by omega) hx (stepOf_d (by simpa using ‹_ = (100 : Int)›)) (by omega)]), rfl⟩
  · exact ⟨_, _, (Less.cons rfl (Less.cons rfl (Less.cons rfl (Less.cons rfl (Less.nil _))))), ⟨⟨k + 1, by omega, by omega, walkH_next (by omega) hx (stepOf_d (by simpa using ‹_ = (100 : Int)›)) (by omega)⟩, rfl⟩, by omega⟩
  · exact ⟨congrArg AV.bool (by simp [isFuss, walkH_bad (by omega) hx (stepOf_no (by simpa using ‹¬ _ = (117 : Int)›) (by simpa using ‹¬ _ = (100 : Int)›) (.inr rfl))]), rfl⟩
  · have e : k = w.length := by omega
    subst e
    rw [List.take_length] at hx
    exact ⟨congrArg AV.bool (by simp [isFuss, hx, b0]), rfl⟩

theorem sIsFuss_ok (m : Int) (w : List UInt8) (hm : -9223372036854775808 ≤ m ∧ m ≤ 9223372036854775807) (hw : w.length ≤ 9223372036854775807) (h0 : H) : AC env 56 [.int .i64 m, .str w] h0 fun v h' => v = .bool (isFuss m w) ∧ h' = h0 := by
  refine AC.enter Try.func56 Try.call56 rfl Try.ntmps56 (of_decide_eq_true (by rfl)) ?_
  repeat' (first
    | refine AW.seq ?_
    | (refine AW.region ?_; conv => whnf)
    | refine AW.block ?_
    | (refine AW.skip ?_; conv => whnf)
    | (refine AW.ret ?_; conv => whnf)
    | refine AW.cond (by rfl) ?_
    | (refine (l1In_ok _ _ _ _).mono ?_; rintro v h' ⟨rfl, e'⟩; subst h'; conv => whnf)
    | (refine Br.tt ?_; conv => whnf)
    | refine Br.not ?_
    | (refine Br.dt (by omega) ?_; conv => whnf)
    | (refine Br.df (by omega) ?_; conv => whnf)
    | (refine Br.dec (fun hc => ?_) (fun hc => ?_) <;> conv => whnf))
  · exact ⟨congrArg AV.bool (by unfold isFuss; rw [decide_eq_false (by omega)]; rfl), rfl⟩
  rotate_left
  · exact ⟨congrArg AV.bool (by unfold isFuss; rw [decide_eq_false (by omega)]; rfl), rfl⟩
  refine AW.loop2 (fun (g i : Int) => [(0, .int .i64 m), (1, .str w), (5, .int .i64 g), (6, .int .i64 i)]) (fun g i h' => (∃ k : Nat, k ≤ w.length ∧ i = k ∧ walkH (m - 1) (-1) false (w.take k) 0 = some g) ∧ h' = h0) (fun _ i => (w.length - i).toNat) 0 0
    (Less.cons rfl (Less.cons rfl (Less.cons rfl (Less.cons rfl (Less.nil _))))) ⟨⟨0, by omega, rfl, rfl⟩, rfl⟩ ?_
  rintro g i h' ⟨⟨k, hk, rfl, hx⟩, rfl⟩
  have b0 : (1 ≤ m ∧ m ≤ 4) ∧ w.length ≤ 24 := ⟨by assumption, by omega⟩
  have b1 := walkH_bd (by omega) (by omega) _ _ _ (by decide) hx
  have b2 : (w.take k).length ≤ k := List.length_take_le _ _
  have b3 : (m - 1) * ((w.take k).length : Int) ≤ 3 * 24 := Int.mul_le_mul (by omega) (by omega) (by omega) (by omega)
  repeat' (first
    | refine AW.seq ?_
    | (refine AW.region ?_; conv => whnf)
    | refine AW.block ?_
    | (refine AW.skip ?_; conv => whnf)
    | (refine AW.ret ?_; conv => whnf)
    | (refine AW.exit ?_; conv => whnf)
    | refine AW.cond (by rfl) ?_
    | (refine Br.df (by omega) ?_; conv => whnf)
    | (refine Br.dec (fun hc => ?_) (fun hc => ?_) <;> conv => whnf)
    | (refine Wr.i64 (by omega) ?_; conv => whnf)
    | (refine Ck.mk (by omega) ?_; conv => whnf))
  · exact ⟨_, _, (Less.cons rfl (Less.cons rfl (Less.cons rfl (Less.cons rfl (Less.nil _))))), ⟨⟨k + 1, by omega, by omega, by simpa [Int.add_sub_assoc] using walkH_next (by omega) hx (stepOf_u (by simpa using hc)) (by omega)⟩, rfl⟩, by omega⟩
  · exact ⟨congrArg AV.bool (by simp [isFuss, walkH_low (by omega) hx (stepOf_d (by simpa using ‹_ = (100 : Int)›)) (by omega)]), rfl⟩
  · exact ⟨_, _, (Less.cons rfl (Less.cons rfl (Less.cons rfl (Less.cons rfl (Less.nil _))))), ⟨⟨k + 1, by omega, by omega, walkH_next (by omega) hx (stepOf_d (by simpa using ‹_ = (100 : Int)›)) (by omega)⟩, rfl⟩, by omega⟩
  · exact ⟨congrArg AV.bool (by simp [isFuss, walkH_bad (by omega) hx (stepOf_no (by simpa using ‹¬ _ = (117 : Int)›) (by simpa using ‹¬ _ = (100 : Int)›) (.inr rfl))]), rfl⟩
  · have e : k = w.length := by omega
    subst e
    rw [List.take_length] at hx
    exact ⟨congrArg AV.bool (by simp [isFuss, hx, b0]), rfl⟩



end Go.Proofs.Ytdfdlnjijccpeaa
