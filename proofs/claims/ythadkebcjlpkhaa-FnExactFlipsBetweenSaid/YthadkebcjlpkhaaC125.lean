/-
  The law of flips between triangulations is proved.
  It holds for all rows of rows.
-/
import Derived.Test.YthadkebcjlpkhaaC124
set_option linter.unusedVariables false
set_option linter.unusedSimpArgs false
namespace Go.Proofs.Ythadkebcjlpkhaa
open Go.Proofs.Ythadkebcjlpkhaa.Ab Go.Proofs.Ythadkebcjlpkhaa.Pl

set_option maxHeartbeats 4000000 in
theorem lawBetween_ok {h : H} (n : Int) (v u : AV) (hn : -9223372036854775808 ≤ n ∧ n ≤ 9223372036854775807) (m1 : RowsArg h v) (m2 : RowsArg h u) : AC env 3 [.int .i64 n, v, u] h fun v _ => v = .bool true := by
  have hs := St.refl h
  obtain ⟨ls, hbd, hl, hv, e1⟩ := rowsArg_two m1
  obtain ⟨ks, gbd, gl, hu, e2⟩ := rowsArg_two m2
  have e : szL ls 1048576 = if (totL ls + ls.length : Nat) ≤ (1048576 : Int) then (1048576 : Int) - (totL ls + ls.length : Nat) else (-1 : Int) := rfl
  by_cases hz : totL ls + ls.length ≤ 1048576
  · rw [if_pos (by omega)] at e
    have e3 : szL ks (1048576 - (totL ls + ls.length : Nat)) = if (totL ks + ks.length : Nat) ≤ (1048576 - (totL ls + ls.length : Nat) : Int) then (1048576 - (totL ls + ls.length : Nat) : Int) - (totL ks + ks.length : Nat) else (-1 : Int) := rfl
    have tl : totL ls ≤ 2000000 := by omega
    have ts := totL_small hz
    by_cases hz2 : totL ks + ks.length ≤ 1048576 - (totL ls + ls.length)
    · rw [if_pos (by omega)] at e3
      have tl2 : totL ks ≤ 2000000 := by omega
      have ts2 := totL_small (ls := ks) (by omega)
      by_cases fit : fitT n ls ks
      · obtain ⟨m, i, j, rfl, hm5, hi, hj, rfl, rfl⟩ := fitT_num fit
        obtain ⟨rfl, e4⟩ | ⟨b, c, rfl⟩ := e1 <;> obtain ⟨rfl, e5⟩ | ⟨b2, c2, rfl⟩ := e2
        all_goals
          refine AC.enter Try.func3 Try.call3 rfl Try.ntmps3 (of_decide_eq_true (by rfl)) ?_
          repeat' (first
            | (refine (szTot_ok _ _ _ _ hv hbd hl (by omega)).mono ?_; rw [e]; rintro v h' ⟨rfl, e'⟩; subst h'; conv => whnf)
            | (refine (szTot_ok _ _ _ _ hu gbd gl (by omega)).mono ?_; rw [e3]; rintro v h' ⟨rfl, e'⟩; subst h'; conv => whnf)
            | (refine (sBetween_ok m i j _ _ _ _ _ _ _ _ _ hm5 hi hj (St.gridAt (by assumption) (by repeat first | exact RSpot.here | apply RSpot.there | apply RSpot.app)) (by first | assumption | exact Eq.trans (by assumption) (e5.trans e4.symm)) (by first | rfl | omega | exact congrArg List.length (e5.trans e4.symm)) (St.gridAt (by assumption) (by repeat first | exact RSpot.here | apply RSpot.there | apply RSpot.app)) (by first | assumption | exact Eq.trans (by assumption) (e5.trans e4.symm)) (by first | rfl | omega | exact congrArg List.length (e5.trans e4.symm))).mono ?_; rintro w h' ⟨rfl, hk⟩; have hs' := St.keep (by assumption) hk; clear hk; conv => whnf)
            | (refine (iBetween_ok m i j _ _ _ _ _ _ _ _ _ hm5 hi hj (St.gridAt (by assumption) (by repeat first | exact RSpot.here | apply RSpot.there | apply RSpot.app)) (by first | assumption | exact Eq.trans (by assumption) (e5.trans e4.symm)) (by first | rfl | omega | exact congrArg List.length (e5.trans e4.symm)) (by omega) (St.gridAt (by assumption) (by repeat first | exact RSpot.here | apply RSpot.there | apply RSpot.app)) (by first | assumption | exact Eq.trans (by assumption) (e5.trans e4.symm)) (by first | rfl | omega | exact congrArg List.length (e5.trans e4.symm)) (by omega)).mono ?_; rintro w h' ⟨rfl, hk⟩; have hs' := St.keep (by assumption) hk; clear hk; conv => whnf)
            | refine AW.seq ?_
            | (refine AW.region ?_; conv => whnf)
            | refine AW.block ?_
            | (refine AW.skip ?_; conv => whnf)
            | (refine AW.ret ?_; conv => whnf)
            | (refine AW.exit ?_; conv => whnf)
            | refine AW.cond (by rfl) ?_
            | (refine (szIntSS_ok _ _ _ _ (by first | assumption | exact RowsAt.keep (by assumption) (St.keeps (by assumption))) (by assumption) (by omega) (by omega)).mono ?_; rintro v h' ⟨⟨kz, rfl, hz1, hz2⟩, e'⟩; subst h'; conv => whnf)
            | (refine (toIntSS_ok _ _ _ (by first | assumption | exact RowsAt.keep (by assumption) (St.keeps (by assumption))) (by omega) (by assumption)).mono ?_; rintro v h' ⟨b, R, rfl, hR, hN, hsR⟩; have hs' := St.callR (by assumption) hsR; clear hsR; conv => whnf)
            | (refine (eqRows_ok _ _ _ _ _ _ _ _ _ (St.gridAt (by assumption) (by repeat first | exact RSpot.here | apply RSpot.there | apply RSpot.app)) (St.gridAt (by assumption) (by repeat first | exact RSpot.here | apply RSpot.there | apply RSpot.app)) (by assumption) (by assumption) (by first | rfl | omega) (by assumption) (by omega)).mono ?_; rintro v h' ⟨rfl, e'⟩; subst h'; conv => whnf)
            | (refine Br.tt ?_; conv => whnf)
            | (refine Br.ff ?_; conv => whnf)
            | refine Br.not ?_
            | (refine Br.t (beq_self_eq_true _) ?_; conv => whnf)
            | (refine Br.t (by assumption) ?_; conv => whnf)
            | (refine Br.f (by assumption) ?_; conv => whnf)
            | (refine Br.dt (by omega) ?_; conv => whnf)
            | (refine Br.df (by omega) ?_; conv => whnf)
            | (refine Br.it (by omega) ?_; conv => whnf)
            | (refine Br.if (by omega) ?_; conv => whnf)
            | (refine Br.nt (by omega) ?_; conv => whnf)
            | (refine Br.nf (by omega) ?_; conv => whnf)
            | (refine Br.dec (fun hc => ?_) (fun hc => ?_) <;> conv => whnf)
            | (refine Br.ieq (fun hc => ?_) (fun hc => ?_) <;> conv => whnf)
            | (refine Br.ine (fun hc => ?_) (fun hc => ?_) <;> conv => whnf)
            | (refine Br.mk (fun hc => ?_) (fun hc => ?_) <;> conv => whnf)
            | (refine Wr.i64 (by omega) ?_; conv => whnf)
            | (refine Ck.mk (by omega) ?_; conv => whnf)
            | (refine Wr.i64 (by simp only [List.length_drop, List.length_take, List.length_append, List.length_cons, List.length_nil]; omega) ?_; conv => whnf)
            | (refine Ck.mk (by simp only [List.length_drop, List.length_take, List.length_append, List.length_cons, List.length_nil]; omega) ?_; conv => whnf)
            | (refine Ck.mk (by simp; omega) ?_; conv => whnf))
          all_goals rfl
      · obtain ⟨rfl, rfl⟩ | ⟨b, c, rfl⟩ := e1 <;> obtain ⟨rfl, rfl⟩ | ⟨b2, c2, rfl⟩ := e2
        all_goals
          refine AC.enter Try.func3 Try.call3 rfl Try.ntmps3 (of_decide_eq_true (by rfl)) ?_
          repeat' (first
            | (refine (szTot_ok _ _ _ _ hv hbd hl (by omega)).mono ?_; rw [e]; rintro v h' ⟨rfl, e'⟩; subst h'; conv => whnf)
            | (refine (szTot_ok _ _ _ _ hu gbd gl (by omega)).mono ?_; rw [e3]; rintro v h' ⟨rfl, e'⟩; subst h'; conv => whnf)
            | (refine (sBetweenNo_ok n _ _ _ _ _ _ _ _ _ _ _ fit hn (St.gridAt (by assumption) (by repeat first | exact RSpot.here | apply RSpot.there | apply RSpot.app)) (by assumption) (by first | rfl | omega) (by omega) (St.gridAt (by assumption) (by repeat first | exact RSpot.here | apply RSpot.there | apply RSpot.app)) (by assumption) (by first | rfl | omega) (by omega)).mono ?_; rintro w h' ⟨rfl, e'⟩; subst h'; conv => whnf)
            | (refine (iBetweenNo_ok n _ _ _ _ _ _ _ _ _ _ _ fit hn (St.gridAt (by assumption) (by repeat first | exact RSpot.here | apply RSpot.there | apply RSpot.app)) (by assumption) (by first | rfl | omega) (by omega) (by omega) (St.gridAt (by assumption) (by repeat first | exact RSpot.here | apply RSpot.there | apply RSpot.app)) (by assumption) (by first | rfl | omega) (by omega) (by omega)).mono ?_; rintro w h' ⟨rfl, e'⟩; subst h'; conv => whnf)
            | refine AW.seq ?_
            | (refine AW.region ?_; conv => whnf)
            | refine AW.block ?_
            | (refine AW.skip ?_; conv => whnf)
            | (refine AW.ret ?_; conv => whnf)
            | (refine AW.exit ?_; conv => whnf)
            | refine AW.cond (by rfl) ?_
            | (refine (szIntSS_ok _ _ _ _ (by first | assumption | exact RowsAt.keep (by assumption) (St.keeps (by assumption))) (by assumption) (by omega) (by omega)).mono ?_; rintro v h' ⟨⟨kz, rfl, hz1, hz2⟩, e'⟩; subst h'; conv => whnf)
            | (refine (toIntSS_ok _ _ _ (by first | assumption | exact RowsAt.keep (by assumption) (St.keeps (by assumption))) (by omega) (by assumption)).mono ?_; rintro v h' ⟨b, R, rfl, hR, hN, hsR⟩; have hs' := St.callR (by assumption) hsR; clear hsR; conv => whnf)
            | (refine (eqRows_ok _ _ _ _ _ _ _ _ _ (St.gridAt (by assumption) (by repeat first | exact RSpot.here | apply RSpot.there | apply RSpot.app)) (St.gridAt (by assumption) (by repeat first | exact RSpot.here | apply RSpot.there | apply RSpot.app)) (by assumption) (by assumption) (by first | rfl | omega) (by assumption) (by omega)).mono ?_; rintro v h' ⟨rfl, e'⟩; subst h'; conv => whnf)
            | (refine Br.tt ?_; conv => whnf)
            | (refine Br.ff ?_; conv => whnf)
            | refine Br.not ?_
            | (refine Br.t (beq_self_eq_true _) ?_; conv => whnf)
            | (refine Br.t (by assumption) ?_; conv => whnf)
            | (refine Br.f (by assumption) ?_; conv => whnf)
            | (refine Br.dt (by omega) ?_; conv => whnf)
            | (refine Br.df (by omega) ?_; conv => whnf)
            | (refine Br.it (by omega) ?_; conv => whnf)
            | (refine Br.if (by omega) ?_; conv => whnf)
            | (refine Br.nt (by omega) ?_; conv => whnf)
            | (refine Br.nf (by omega) ?_; conv => whnf)
            | (refine Br.dec (fun hc => ?_) (fun hc => ?_) <;> conv => whnf)
            | (refine Br.ieq (fun hc => ?_) (fun hc => ?_) <;> conv => whnf)
            | (refine Br.ine (fun hc => ?_) (fun hc => ?_) <;> conv => whnf)
            | (refine Br.mk (fun hc => ?_) (fun hc => ?_) <;> conv => whnf)
            | (refine Wr.i64 (by omega) ?_; conv => whnf)
            | (refine Ck.mk (by omega) ?_; conv => whnf)
            | (refine Wr.i64 (by simp only [List.length_drop, List.length_take, List.length_append, List.length_cons, List.length_nil]; omega) ?_; conv => whnf)
            | (refine Ck.mk (by simp only [List.length_drop, List.length_take, List.length_append, List.length_cons, List.length_nil]; omega) ?_; conv => whnf)
            | (refine Ck.mk (by simp; omega) ?_; conv => whnf))
          all_goals rfl
    · rw [if_neg (by omega)] at e3
      obtain ⟨rfl, rfl⟩ | ⟨b, c, rfl⟩ := e1 <;> obtain ⟨rfl, rfl⟩ | ⟨b2, c2, rfl⟩ := e2
      all_goals
        refine AC.enter Try.func3 Try.call3 rfl Try.ntmps3 (of_decide_eq_true (by rfl)) ?_
        repeat' (first
          | (refine (szTot_ok _ _ _ _ hv hbd hl (by omega)).mono ?_; rw [e]; rintro v h' ⟨rfl, e'⟩; subst h'; conv => whnf)
          | (refine (szTot_ok _ _ _ _ hu gbd gl (by omega)).mono ?_; rw [e3]; rintro v h' ⟨rfl, e'⟩; subst h'; conv => whnf)
          | refine AW.seq ?_
          | (refine AW.region ?_; conv => whnf)
          | refine AW.block ?_
          | (refine AW.skip ?_; conv => whnf)
          | (refine AW.ret ?_; conv => whnf)
          | (refine AW.exit ?_; conv => whnf)
          | refine AW.cond (by rfl) ?_
          | (refine (szIntSS_ok _ _ _ _ (by first | assumption | exact RowsAt.keep (by assumption) (St.keeps (by assumption))) (by assumption) (by omega) (by omega)).mono ?_; rintro v h' ⟨⟨kz, rfl, hz1, hz2⟩, e'⟩; subst h'; conv => whnf)
          | (refine (toIntSS_ok _ _ _ (by first | assumption | exact RowsAt.keep (by assumption) (St.keeps (by assumption))) (by omega) (by assumption)).mono ?_; rintro v h' ⟨b, R, rfl, hR, hN, hsR⟩; have hs' := St.callR (by assumption) hsR; clear hsR; conv => whnf)
          | (refine (eqRows_ok _ _ _ _ _ _ _ _ _ (St.gridAt (by assumption) (by repeat first | exact RSpot.here | apply RSpot.there | apply RSpot.app)) (St.gridAt (by assumption) (by repeat first | exact RSpot.here | apply RSpot.there | apply RSpot.app)) (by assumption) (by assumption) (by first | rfl | omega) (by assumption) (by omega)).mono ?_; rintro v h' ⟨rfl, e'⟩; subst h'; conv => whnf)
          | (refine Br.tt ?_; conv => whnf)
          | (refine Br.ff ?_; conv => whnf)
          | refine Br.not ?_
          | (refine Br.t (beq_self_eq_true _) ?_; conv => whnf)
          | (refine Br.t (by assumption) ?_; conv => whnf)
          | (refine Br.f (by assumption) ?_; conv => whnf)
          | (refine Br.dt (by omega) ?_; conv => whnf)
          | (refine Br.df (by omega) ?_; conv => whnf)
          | (refine Br.it (by omega) ?_; conv => whnf)
          | (refine Br.if (by omega) ?_; conv => whnf)
          | (refine Br.nt (by omega) ?_; conv => whnf)
          | (refine Br.nf (by omega) ?_; conv => whnf)
          | (refine Br.dec (fun hc => ?_) (fun hc => ?_) <;> conv => whnf)
          | (refine Br.ieq (fun hc => ?_) (fun hc => ?_) <;> conv => whnf)
          | (refine Br.ine (fun hc => ?_) (fun hc => ?_) <;> conv => whnf)
          | (refine Br.mk (fun hc => ?_) (fun hc => ?_) <;> conv => whnf)
          | (refine Wr.i64 (by omega) ?_; conv => whnf)
          | (refine Ck.mk (by omega) ?_; conv => whnf)
          | (refine Wr.i64 (by simp only [List.length_drop, List.length_take, List.length_append, List.length_cons, List.length_nil]; omega) ?_; conv => whnf)
          | (refine Ck.mk (by simp only [List.length_drop, List.length_take, List.length_append, List.length_cons, List.length_nil]; omega) ?_; conv => whnf)
          | (refine Ck.mk (by simp; omega) ?_; conv => whnf))
        all_goals rfl
  · rw [if_neg (by omega)] at e
    obtain ⟨rfl, rfl⟩ | ⟨b, c, rfl⟩ := e1 <;> obtain ⟨rfl, rfl⟩ | ⟨b2, c2, rfl⟩ := e2
    all_goals
      refine AC.enter Try.func3 Try.call3 rfl Try.ntmps3 (of_decide_eq_true (by rfl)) ?_
      repeat' (first
        | (refine (szTot_ok _ _ _ _ hv hbd hl (by omega)).mono ?_; rw [e]; rintro v h' ⟨rfl, e'⟩; subst h'; conv => whnf)
        | refine AW.seq ?_
        | (refine AW.region ?_; conv => whnf)
        | refine AW.block ?_
        | (refine AW.skip ?_; conv => whnf)
        | (refine AW.ret ?_; conv => whnf)
        | (refine AW.exit ?_; conv => whnf)
        | refine AW.cond (by rfl) ?_
        | (refine (szIntSS_ok _ _ _ _ (by first | assumption | exact RowsAt.keep (by assumption) (St.keeps (by assumption))) (by assumption) (by omega) (by omega)).mono ?_; rintro v h' ⟨⟨kz, rfl, hz1, hz2⟩, e'⟩; subst h'; conv => whnf)
        | (refine (toIntSS_ok _ _ _ (by first | assumption | exact RowsAt.keep (by assumption) (St.keeps (by assumption))) (by omega) (by assumption)).mono ?_; rintro v h' ⟨b, R, rfl, hR, hN, hsR⟩; have hs' := St.callR (by assumption) hsR; clear hsR; conv => whnf)
        | (refine (eqRows_ok _ _ _ _ _ _ _ _ _ (St.gridAt (by assumption) (by repeat first | exact RSpot.here | apply RSpot.there | apply RSpot.app)) (St.gridAt (by assumption) (by repeat first | exact RSpot.here | apply RSpot.there | apply RSpot.app)) (by assumption) (by assumption) (by first | rfl | omega) (by assumption) (by omega)).mono ?_; rintro v h' ⟨rfl, e'⟩; subst h'; conv => whnf)
        | (refine Br.tt ?_; conv => whnf)
        | (refine Br.ff ?_; conv => whnf)
        | refine Br.not ?_
        | (refine Br.t (beq_self_eq_true _) ?_; conv => whnf)
        | (refine Br.t (by assumption) ?_; conv => whnf)
        | (refine Br.f (by assumption) ?_; conv => whnf)
        | (refine Br.dt (by omega) ?_; conv => whnf)
        | (refine Br.df (by omega) ?_; conv => whnf)
        | (refine Br.it (by omega) ?_; conv => whnf)
        | (refine Br.if (by omega) ?_; conv => whnf)
        | (refine Br.nt (by omega) ?_; conv => whnf)
        | (refine Br.nf (by omega) ?_; conv => whnf)
        | (refine Br.dec (fun hc => ?_) (fun hc => ?_) <;> conv => whnf)
        | (refine Br.ieq (fun hc => ?_) (fun hc => ?_) <;> conv => whnf)
        | (refine Br.ine (fun hc => ?_) (fun hc => ?_) <;> conv => whnf)
        | (refine Br.mk (fun hc => ?_) (fun hc => ?_) <;> conv => whnf)
        | (refine Wr.i64 (by omega) ?_; conv => whnf)
        | (refine Ck.mk (by omega) ?_; conv => whnf)
        | (refine Wr.i64 (by simp only [List.length_drop, List.length_take, List.length_append, List.length_cons, List.length_nil]; omega) ?_; conv => whnf)
        | (refine Ck.mk (by simp only [List.length_drop, List.length_take, List.length_append, List.length_cons, List.length_nil]; omega) ?_; conv => whnf)
        | (refine Ck.mk (by simp; omega) ?_; conv => whnf))
      all_goals rfl

end Go.Proofs.Ythadkebcjlpkhaa
