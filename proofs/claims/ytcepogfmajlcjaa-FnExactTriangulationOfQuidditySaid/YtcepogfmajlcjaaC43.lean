/-
  The law of fans is proved.
  It holds for all sizes.
-/
import Derived.Test.YtcepogfmajlcjaaGE
set_option linter.unusedVariables false
set_option linter.unusedSimpArgs false
namespace Go.Proofs.Ytcepogfmajlcjaa
open Go.Proofs.Ytcepogfmajlcjaa.Ab Go.Proofs.Ytcepogfmajlcjaa.Pl

theorem fan_two (n v : Int) : ∀ x ∈ (fan n v).1, x.length = 2 := by
  unfold fan
  split
  · exact sortL_two (fanL_two n v _)
  · intro x hx; cases hx
theorem fan_len (n v : Int) : (fan n v).1.length ≤ 10 := by
  unfold fan
  split
  · rename_i h
    rw [sortL_len]
    have := fanL_len n v n.toNat
    have := h.1
    omega
  · simp
theorem fan_tot (n v : Int) : totL (fan n v).1 ≤ 1000000 := by
  have := totL_le (m := 2) fun l hl => by have := fan_two n v l hl; omega
  have := fan_len n v
  omega
set_option maxHeartbeats 1000000 in
theorem lawFanOf_ok (n v : Int) (hn : -9223372036854775808 ≤ n ∧ n ≤ 9223372036854775807) (hv : -9223372036854775808 ≤ v ∧ v ≤ 9223372036854775807) (h : H) : AC env 6 [.int .i64 n, .int .i64 v] h fun v _ => v = .bool true := by
  have hs := St.refl h
  have t1 := fan_tot n v
  have t2 := fan_len n v
  refine AC.enter Try.func6 Try.call6 rfl Try.ntmps6 (of_decide_eq_true (by rfl)) ?_
  repeat' (first
    | refine AW.seq ?_
    | (refine AW.region ?_; conv => whnf)
    | refine AW.block ?_
    | (refine AW.skip ?_; conv => whnf)
    | (refine AW.ret ?_; conv => whnf)
    | (refine AW.exit ?_; conv => whnf)
    | refine AW.cond (by rfl) ?_
    | (refine (sFanOf_ok _ _ _ (by omega) (by omega)).mono ?_; rintro v h' ⟨bF, RF, rfl, hRF, hLF, hsF⟩; have hs' := St.callR (by assumption) hsF; clear hsF; conv => whnf)
    | (refine (iFanOf_ok _ _ _ (by omega) (by omega)).mono ?_; rintro v h' ⟨bF, RF, rfl, hRF, hLF, hsF⟩; have hs' := St.callR (by assumption) hsF; clear hsF; conv => whnf)
    | (refine (eqRows_ok _ _ _ _ _ _ _ _ _ (St.gridAt (by assumption) (by repeat first | exact RSpot.here | apply RSpot.there | apply RSpot.app)) (St.gridAt (by assumption) (by repeat first | exact RSpot.here | apply RSpot.there | apply RSpot.app)) (by assumption) (by assumption) (by first | rfl | omega) (by assumption) (by omega)).mono ?_; rintro v h' ⟨rfl, e'⟩; subst h'; conv => whnf)
    | (refine (markIntSS_ok _ _ _ _ _ _ _ _ _ _ (by assumption) (by repeat first | exact RSpot.here | apply RSpot.there | apply RSpot.app) (by assumption) (by first | rfl | omega) (by assumption) (by omega) (by omega)).mono ?_; rintro v h' ⟨rfl, hs'⟩; conv => whnf)
    | (refine (heldIntSS_ok _ _ _ _ _ _ _ (St.gridAt (by assumption) (by repeat first | exact RSpot.here | apply RSpot.there | apply RSpot.app)) (by assumption) (by first | rfl | omega) (by assumption) (by omega) (by omega)).mono ?_; rintro v h' ⟨rfl, e'⟩; subst h'; conv => whnf)
    | (refine Br.tt ?_; conv => whnf)
    | (refine Br.ff ?_; conv => whnf)
    | refine Br.not ?_
    | (refine Br.t (beq_self_eq_true _) ?_; conv => whnf)
    | (refine Br.t (by assumption) ?_; conv => whnf)
    | (refine Br.f (by assumption) ?_; conv => whnf)
    | (refine Br.dt (by omega) ?_; conv => whnf)
    | (refine Br.df (by omega) ?_; conv => whnf)
    | (refine Br.it (by omega) ?_; conv => whnf)
    | (refine Br.if (by omega) ?_; conv => whnf)
    | (refine Br.nt (by omega) ?_; conv => whnf)
    | (refine Br.nf (by omega) ?_; conv => whnf)
    | (refine Br.dec (fun hc => ?_) (fun hc => ?_) <;> conv => whnf)
    | (refine Br.ieq (fun hc => ?_) (fun hc => ?_) <;> conv => whnf)
    | (refine Br.ine (fun hc => ?_) (fun hc => ?_) <;> conv => whnf)
    | (refine Br.mk (fun hc => ?_) (fun hc => ?_) <;> conv => whnf)
    | (refine Wr.i64 (by omega) ?_; conv => whnf)
    | (refine Ck.mk (by omega) ?_; conv => whnf)
    | (refine Wr.i64 (by simp only [List.length_drop, List.length_take, List.length_append, List.length_cons, List.length_nil]; omega) ?_; conv => whnf)
    | (refine Ck.mk (by simp only [List.length_drop, List.length_take, List.length_append, List.length_cons, List.length_nil]; omega) ?_; conv => whnf)
    | (refine Ck.mk (by simp; omega) ?_; conv => whnf))
  all_goals rfl

end Go.Proofs.Ytcepogfmajlcjaa
