/-
  Contracts of small functions of the program and of the reference are proved: range tests and the shift of a word.
  They hold for all arguments within the kinds of their types.
-/
import Derived.Test.YtcnbmghfmicfnaaEnv
import Derived.Test.YtcnbmghfmicfnaaAb18
set_option linter.unusedVariables false
set_option linter.unusedSimpArgs false
namespace Go.Proofs.Ytcnbmghfmicfnaa
open Go.Proofs.Ytcnbmghfmicfnaa.Ab

theorem within_ok (x lo hi : Int) (h : H) : AC env 43 [.int .i64 x, .int .i64 lo, .int .i64 hi] h fun v h' => v = .bool (decide (lo ≤ x ∧ x ≤ hi)) ∧ h' = h := by
  refine AC.enter Try.func43 Try.call43 rfl Try.ntmps43 (of_decide_eq_true (by rfl)) ?_
  repeat' (first
    | refine AW.seq ?_
    | (refine AW.region ?_; conv => whnf)
    | refine AW.block ?_
    | (refine AW.skip ?_; conv => whnf)
    | (refine AW.ret ?_; conv => whnf)
    | (refine AW.exit ?_; conv => whnf)
    | refine AW.cond (by rfl) ?_
    | (refine Br.tt ?_; conv => whnf)
    | (refine Br.ff ?_; conv => whnf)
    | refine Br.not ?_
    | (refine Br.t (beq_self_eq_true _) ?_; conv => whnf)
    | (refine Br.t (by assumption) ?_; conv => whnf)
    | (refine Br.f (by assumption) ?_; conv => whnf)
    | (refine Br.dt (by omega) ?_; conv => whnf)
    | (refine Br.df (by omega) ?_; conv => whnf)
    | (refine Br.it (by omega) ?_; conv => whnf)
    | (refine Br.if (by omega) ?_; conv => whnf)
    | (refine Br.nt (by omega) ?_; conv => whnf)
    | (refine Br.nf (by omega) ?_; conv => whnf)
    | (refine Br.dec (fun hc => ?_) (fun hc => ?_) <;> conv => whnf)
    | (refine Br.ieq (fun hc => ?_) (fun hc => ?_) <;> conv => whnf)
    | (refine Br.ine (fun hc => ?_) (fun hc => ?_) <;> conv => whnf)
    | (refine Br.mk (fun hc => ?_) (fun hc => ?_) <;> conv => whnf)
    | (refine Wr.i64 (by omega) ?_; conv => whnf)
    | (refine Ck.mk (by omega) ?_; conv => whnf)
    | (refine Ck.mk (by simp only [List.length_drop, List.length_take, List.length_append, List.length_cons, List.length_nil]; omega) ?_; conv => whnf)
    | (refine NewG.mk (fun bt hbt => ?_); conv => whnf)
    | (refine LoadsG.made (by rfl) ?_; conv => whnf)
    | (refine New.appI (New.upd (by assumption) (by assumption) _) (by first | rfl | (simp; done) | omega | (simp; omega)) (by first | (simp; done) | omega | (simp; omega)) (by decide) (fun b' h' hn' ho' => ?_); conv => whnf)
    | (refine New.loadZ (by assumption) rfl (by first | (simp; done) | omega | (simp only [List.length_set, tab_length]; omega) | (simp; omega)) ?_; conv => whnf)
    | (refine Has.loadZ (by assumption) rfl (by first | (simp; done) | omega | (simp only [List.length_set, tab_length]; omega) | (simp; omega)) ?_; conv => whnf)
    | (refine New.storeZ (by assumption) rfl (by first | (simp; done) | omega | (simp only [List.length_set, tab_length]; omega) | (simp; omega)) (fun h' hn' ho' => ?_); conv => whnf)
    | (refine Own.storeZ (by assumption) rfl (by first | (simp; done) | omega | (simp only [List.length_set, tab_length]; omega) | (simp; omega)) (fun h' hn' ho' => ?_); conv => whnf)
    | (refine Ck.slice (by omega) (by omega) (by omega) (by decide) ?_; conv => whnf)
    | (refine Ck.mk (by simp; omega) ?_; conv => whnf))
  · exact ⟨congrArg AV.bool (by simp; omega), rfl⟩
  · exact ⟨congrArg AV.bool (by simp; omega), rfl⟩

theorem l1In_ok (x lo hi : Int) (h : H) : AC env 42 [.int .i64 x, .int .i64 lo, .int .i64 hi] h fun v h' => v = .bool (decide (lo ≤ x ∧ x ≤ hi)) ∧ h' = h := by
  refine AC.enter Try.func42 Try.call42 rfl Try.ntmps42 (of_decide_eq_true (by rfl)) ?_
  repeat' (first
    | refine AW.seq ?_
    | (refine AW.region ?_; conv => whnf)
    | refine AW.block ?_
    | (refine AW.skip ?_; conv => whnf)
    | (refine AW.ret ?_; conv => whnf)
    | (refine AW.exit ?_; conv => whnf)
    | refine AW.cond (by rfl) ?_
    | (refine Br.tt ?_; conv => whnf)
    | (refine Br.ff ?_; conv => whnf)
    | refine Br.not ?_
    | (refine Br.t (beq_self_eq_true _) ?_; conv => whnf)
    | (refine Br.t (by assumption) ?_; conv => whnf)
    | (refine Br.f (by assumption) ?_; conv => whnf)
    | (refine Br.dt (by omega) ?_; conv => whnf)
    | (refine Br.df (by omega) ?_; conv => whnf)
    | (refine Br.it (by omega) ?_; conv => whnf)
    | (refine Br.if (by omega) ?_; conv => whnf)
    | (refine Br.nt (by omega) ?_; conv => whnf)
    | (refine Br.nf (by omega) ?_; conv => whnf)
    | (refine Br.dec (fun hc => ?_) (fun hc => ?_) <;> conv => whnf)
    | (refine Br.ieq (fun hc => ?_) (fun hc => ?_) <;> conv => whnf)
    | (refine Br.ine (fun hc => ?_) (fun hc => ?_) <;> conv => whnf)
    | (refine Br.mk (fun hc => ?_) (fun hc => ?_) <;> conv => whnf)
    | (refine Wr.i64 (by omega) ?_; conv => whnf)
    | (refine Ck.mk (by omega) ?_; conv => whnf)
    | (refine Ck.mk (by simp only [List.length_drop, List.length_take, List.length_append, List.length_cons, List.length_nil]; omega) ?_; conv => whnf)
    | (refine NewG.mk (fun bt hbt => ?_); conv => whnf)
    | (refine LoadsG.made (by rfl) ?_; conv => whnf)
    | (refine New.appI (New.upd (by assumption) (by assumption) _) (by first | rfl | (simp; done) | omega | (simp; omega)) (by first | (simp; done) | omega | (simp; omega)) (by decide) (fun b' h' hn' ho' => ?_); conv => whnf)
    | (refine New.loadZ (by assumption) rfl (by first | (simp; done) | omega | (simp only [List.length_set, tab_length]; omega) | (simp; omega)) ?_; conv => whnf)
    | (refine Has.loadZ (by assumption) rfl (by first | (simp; done) | omega | (simp only [List.length_set, tab_length]; omega) | (simp; omega)) ?_; conv => whnf)
    | (refine New.storeZ (by assumption) rfl (by first | (simp; done) | omega | (simp only [List.length_set, tab_length]; omega) | (simp; omega)) (fun h' hn' ho' => ?_); conv => whnf)
    | (refine Own.storeZ (by assumption) rfl (by first | (simp; done) | omega | (simp only [List.length_set, tab_length]; omega) | (simp; omega)) (fun h' hn' ho' => ?_); conv => whnf)
    | (refine Ck.slice (by omega) (by omega) (by omega) (by decide) ?_; conv => whnf)
    | (refine Ck.mk (by simp; omega) ?_; conv => whnf))
  · exact ⟨congrArg AV.bool (by simp; omega), rfl⟩
  · exact ⟨congrArg AV.bool (by simp; omega), rfl⟩

/-- the first k bytes at the end -/
def shiftW (w : List UInt8) (k : Int) : List UInt8 × Bool :=
  if w.length ≤ 17 ∧ 0 ≤ k ∧ k ≤ max 0 ((w.length : Int) - 1) then (w.drop k.toNat ++ w.take k.toNat, true) else ([], false)

theorem shiftW_yes {w : List UInt8} {k : Int} (h : w.length ≤ 17 ∧ 0 ≤ k ∧ k ≤ max 0 ((w.length : Int) - 1)) : shiftW w k = (w.drop k.toNat ++ w.take k.toNat, true) := if_pos h
theorem shiftW_no {w : List UInt8} {k : Int} (h : ¬ (w.length ≤ 17 ∧ 0 ≤ k ∧ k ≤ max 0 ((w.length : Int) - 1))) : shiftW w k = ([], false) := if_neg h

theorem sShiftWord_ok (w : List UInt8) (k : Int) (h : H) : AC env 15 [.str w, .int .i64 k] h fun v h' => v = .tup [.str (shiftW w k).1, .bool (shiftW w k).2] ∧ h' = h := by
  refine AC.enter Try.func15 Try.call15 rfl Try.ntmps15 (of_decide_eq_true (by rfl)) ?_
  repeat' (first
    | refine AW.seq ?_
    | (refine AW.region ?_; conv => whnf)
    | refine AW.block ?_
    | (refine AW.skip ?_; conv => whnf)
    | (refine AW.ret ?_; conv => whnf)
    | (refine AW.exit ?_; conv => whnf)
    | refine AW.cond (by rfl) ?_
    | (refine AW.draw (id := 3) (.p 0 (.p 1 (.p 2 (.p 3 (.p 4 (.p 5 (.p 6 (.p 7 (.p 8 .done))))))))) (by kernel_rfl) (by kernel_rfl) ?_; conv => whnf)
    | (refine (l1In_ok _ _ _ _).mono ?_; rintro v h' ⟨rfl, e'⟩; subst h'; conv => whnf)
    | (refine Br.tt ?_; conv => whnf)
    | (refine Br.ff ?_; conv => whnf)
    | refine Br.not ?_
    | (refine Br.t (beq_self_eq_true _) ?_; conv => whnf)
    | (refine Br.t (by assumption) ?_; conv => whnf)
    | (refine Br.f (by assumption) ?_; conv => whnf)
    | (refine Br.dt (by omega) ?_; conv => whnf)
    | (refine Br.df (by omega) ?_; conv => whnf)
    | (refine Br.it (by omega) ?_; conv => whnf)
    | (refine Br.if (by omega) ?_; conv => whnf)
    | (refine Br.nt (by omega) ?_; conv => whnf)
    | (refine Br.nf (by omega) ?_; conv => whnf)
    | (refine Br.dec (fun hc => ?_) (fun hc => ?_) <;> conv => whnf)
    | (refine Br.ieq (fun hc => ?_) (fun hc => ?_) <;> conv => whnf)
    | (refine Br.ine (fun hc => ?_) (fun hc => ?_) <;> conv => whnf)
    | (refine Br.mk (fun hc => ?_) (fun hc => ?_) <;> conv => whnf)
    | (refine Wr.i64 (by omega) ?_; conv => whnf)
    | (refine Ck.mk (by omega) ?_; conv => whnf)
    | (refine Ck.mk (by simp only [List.length_drop, List.length_take, List.length_append, List.length_cons, List.length_nil]; omega) ?_; conv => whnf)
    | (refine NewG.mk (fun bt hbt => ?_); conv => whnf)
    | (refine LoadsG.made (by rfl) ?_; conv => whnf)
    | (refine New.appI (New.upd (by assumption) (by assumption) _) (by first | rfl | (simp; done) | omega | (simp; omega)) (by first | (simp; done) | omega | (simp; omega)) (by decide) (fun b' h' hn' ho' => ?_); conv => whnf)
    | (refine New.loadZ (by assumption) rfl (by first | (simp; done) | omega | (simp only [List.length_set, tab_length]; omega) | (simp; omega)) ?_; conv => whnf)
    | (refine Has.loadZ (by assumption) rfl (by first | (simp; done) | omega | (simp only [List.length_set, tab_length]; omega) | (simp; omega)) ?_; conv => whnf)
    | (refine New.storeZ (by assumption) rfl (by first | (simp; done) | omega | (simp only [List.length_set, tab_length]; omega) | (simp; omega)) (fun h' hn' ho' => ?_); conv => whnf)
    | (refine Own.storeZ (by assumption) rfl (by first | (simp; done) | omega | (simp only [List.length_set, tab_length]; omega) | (simp; omega)) (fun h' hn' ho' => ?_); conv => whnf)
    | (refine Ck.slice (by omega) (by omega) (by omega) (by decide) ?_; conv => whnf)
    | (refine Ck.mk (by simp; omega) ?_; conv => whnf))
  · rw [shiftW_no (by omega)]; exact ⟨rfl, rfl⟩
  · rw [shiftW_yes (by omega)]; exact ⟨rfl, rfl⟩
  · rw [shiftW_no (by omega)]; exact ⟨rfl, rfl⟩

theorem iShiftWord_ok (w : List UInt8) (k : Int) (h : H) : AC env 16 [.str w, .int .i64 k] h fun v h' => v = .tup [.str (shiftW w k).1, .bool (shiftW w k).2] ∧ h' = h := by
  refine AC.enter Try.func16 Try.call16 rfl Try.ntmps16 (of_decide_eq_true (by rfl)) ?_
  repeat' (first
    | refine AW.seq ?_
    | (refine AW.region ?_; conv => whnf)
    | refine AW.block ?_
    | (refine AW.skip ?_; conv => whnf)
    | (refine AW.ret ?_; conv => whnf)
    | (refine AW.exit ?_; conv => whnf)
    | refine AW.cond (by rfl) ?_
    | (refine AW.draw (id := 3) (.p 0 (.p 1 (.p 2 (.p 3 (.p 4 (.p 5 (.p 6 (.p 7 (.p 8 .done))))))))) (by kernel_rfl) (by kernel_rfl) ?_; conv => whnf)
    | (refine (within_ok _ _ _ _).mono ?_; rintro v h' ⟨rfl, e'⟩; subst h'; conv => whnf)
    | (refine Br.tt ?_; conv => whnf)
    | (refine Br.ff ?_; conv => whnf)
    | refine Br.not ?_
    | (refine Br.t (beq_self_eq_true _) ?_; conv => whnf)
    | (refine Br.t (by assumption) ?_; conv => whnf)
    | (refine Br.f (by assumption) ?_; conv => whnf)
    | (refine Br.dt (by omega) ?_; conv => whnf)
    | (refine Br.df (by omega) ?_; conv => whnf)
    | (refine Br.it (by omega) ?_; conv => whnf)
    | (refine Br.if (by omega) ?_; conv => whnf)
    | (refine Br.nt (by omega) ?_; conv => whnf)
    | (refine Br.nf (by omega) ?_; conv => whnf)
    | (refine Br.dec (fun hc => ?_) (fun hc => ?_) <;> conv => whnf)
    | (refine Br.ieq (fun hc => ?_) (fun hc => ?_) <;> conv => whnf)
    | (refine Br.ine (fun hc => ?_) (fun hc => ?_) <;> conv => whnf)
    | (refine Br.mk (fun hc => ?_) (fun hc => ?_) <;> conv => whnf)
    | (refine Wr.i64 (by omega) ?_; conv => whnf)
    | (refine Ck.mk (by omega) ?_; conv => whnf)
    | (refine Ck.mk (by simp only [List.length_drop, List.length_take, List.length_append, List.length_cons, List.length_nil]; omega) ?_; conv => whnf)
    | (refine NewG.mk (fun bt hbt => ?_); conv => whnf)
    | (refine LoadsG.made (by rfl) ?_; conv => whnf)
    | (refine New.appI (New.upd (by assumption) (by assumption) _) (by first | rfl | (simp; done) | omega | (simp; omega)) (by first | (simp; done) | omega | (simp; omega)) (by decide) (fun b' h' hn' ho' => ?_); conv => whnf)
    | (refine New.loadZ (by assumption) rfl (by first | (simp; done) | omega | (simp only [List.length_set, tab_length]; omega) | (simp; omega)) ?_; conv => whnf)
    | (refine Has.loadZ (by assumption) rfl (by first | (simp; done) | omega | (simp only [List.length_set, tab_length]; omega) | (simp; omega)) ?_; conv => whnf)
    | (refine New.storeZ (by assumption) rfl (by first | (simp; done) | omega | (simp only [List.length_set, tab_length]; omega) | (simp; omega)) (fun h' hn' ho' => ?_); conv => whnf)
    | (refine Own.storeZ (by assumption) rfl (by first | (simp; done) | omega | (simp only [List.length_set, tab_length]; omega) | (simp; omega)) (fun h' hn' ho' => ?_); conv => whnf)
    | (refine Ck.slice (by omega) (by omega) (by omega) (by decide) ?_; conv => whnf)
    | (refine Ck.mk (by simp; omega) ?_; conv => whnf))
  · rw [shiftW_no (by omega)]; exact ⟨rfl, rfl⟩
  · rw [shiftW_yes (by omega)]; exact ⟨rfl, rfl⟩
  · rw [shiftW_no (by omega)]; exact ⟨rfl, rfl⟩

theorem lawShiftWord_ok (w : List UInt8) (k : Int) (hw : w.length ≤ 9223372036854775807) (hk : -9223372036854775808 ≤ k ∧ k ≤ 9223372036854775807) (h : H) : AC env 3 [.str w, .int .i64 k] h fun v _ => v = .bool true := by
  refine AC.enter Try.func3 Try.call3 rfl Try.ntmps3 (of_decide_eq_true (by rfl)) ?_
  repeat' (first
    | refine AW.seq ?_
    | (refine AW.region ?_; conv => whnf)
    | refine AW.block ?_
    | (refine AW.skip ?_; conv => whnf)
    | (refine AW.ret ?_; conv => whnf)
    | (refine AW.exit ?_; conv => whnf)
    | refine AW.cond (by rfl) ?_
    | (refine (sShiftWord_ok _ _ _).mono ?_; rintro v h' ⟨rfl, e'⟩; subst h'; conv => whnf)
    | (refine (iShiftWord_ok _ _ _).mono ?_; rintro v h' ⟨rfl, e'⟩; subst h'; conv => whnf)
    | (refine Br.tt ?_; conv => whnf)
    | (refine Br.ff ?_; conv => whnf)
    | refine Br.not ?_
    | (refine Br.t (beq_self_eq_true _) ?_; conv => whnf)
    | (refine Br.t (by assumption) ?_; conv => whnf)
    | (refine Br.f (by assumption) ?_; conv => whnf)
    | (refine Br.dt (by omega) ?_; conv => whnf)
    | (refine Br.df (by omega) ?_; conv => whnf)
    | (refine Br.it (by omega) ?_; conv => whnf)
    | (refine Br.if (by omega) ?_; conv => whnf)
    | (refine Br.nt (by omega) ?_; conv => whnf)
    | (refine Br.nf (by omega) ?_; conv => whnf)
    | (refine Br.dec (fun hc => ?_) (fun hc => ?_) <;> conv => whnf)
    | (refine Br.ieq (fun hc => ?_) (fun hc => ?_) <;> conv => whnf)
    | (refine Br.ine (fun hc => ?_) (fun hc => ?_) <;> conv => whnf)
    | (refine Br.mk (fun hc => ?_) (fun hc => ?_) <;> conv => whnf)
    | (refine Wr.i64 (by omega) ?_; conv => whnf)
    | (refine Ck.mk (by omega) ?_; conv => whnf)
    | (refine Ck.mk (by simp only [List.length_drop, List.length_take, List.length_append, List.length_cons, List.length_nil]; omega) ?_; conv => whnf)
    | (refine NewG.mk (fun bt hbt => ?_); conv => whnf)
    | (refine LoadsG.made (by rfl) ?_; conv => whnf)
    | (refine New.appI (New.upd (by assumption) (by assumption) _) (by first | rfl | (simp; done) | omega | (simp; omega)) (by first | (simp; done) | omega | (simp; omega)) (by decide) (fun b' h' hn' ho' => ?_); conv => whnf)
    | (refine New.loadZ (by assumption) rfl (by first | (simp; done) | omega | (simp only [List.length_set, tab_length]; omega) | (simp; omega)) ?_; conv => whnf)
    | (refine Has.loadZ (by assumption) rfl (by first | (simp; done) | omega | (simp only [List.length_set, tab_length]; omega) | (simp; omega)) ?_; conv => whnf)
    | (refine New.storeZ (by assumption) rfl (by first | (simp; done) | omega | (simp only [List.length_set, tab_length]; omega) | (simp; omega)) (fun h' hn' ho' => ?_); conv => whnf)
    | (refine Own.storeZ (by assumption) rfl (by first | (simp; done) | omega | (simp only [List.length_set, tab_length]; omega) | (simp; omega)) (fun h' hn' ho' => ?_); conv => whnf)
    | (refine Ck.slice (by omega) (by omega) (by omega) (by decide) ?_; conv => whnf)
    | (refine Ck.mk (by simp; omega) ?_; conv => whnf))
  all_goals rfl

end Go.Proofs.Ytcnbmghfmicfnaa
