/-
  Contracts of small functions of the program and of the reference are proved: range tests and the shift of a word.
  They hold for all arguments within the kinds of their types.
-/
import Derived.Test.YtdfdlnjijccpeaaEnv
import Derived.Test.YtdfdlnjijccpeaaGX
set_option linter.unusedVariables false
set_option linter.unusedSimpArgs false
namespace Go.Proofs.Ytdfdlnjijccpeaa
open Go.Proofs.Ytdfdlnjijccpeaa.Ab

theorem within_ok (x lo hi : Int) (h : H) : AC env 104 [.int .i64 x, .int .i64 lo, .int .i64 hi] h fun v h' => v = .bool (decide (lo ≤ x ∧ x ≤ hi)) ∧ h' = h := by
  refine AC.enter Try.func104 Try.call104 rfl Try.ntmps104 (of_decide_eq_true (by rfl)) ?_
  repeat' (first
    | refine AW.seq ?_
    | (refine AW.region ?_; conv => whnf)
    | (refine AW.ret ?_; conv => whnf)
    | (refine Br.dt (by omega) ?_; conv => whnf)
    | (refine Br.df (by omega) ?_; conv => whnf)
    | (refine Br.dec (fun hc => ?_) (fun hc => ?_) <;> conv => whnf))
  · exact ⟨congrArg AV.bool (by simp; omega), rfl⟩
  · exact ⟨congrArg AV.bool (by simp; omega), rfl⟩

theorem l1In_ok (x lo hi : Int) (h : H) : AC env 97 [.int .i64 x, .int .i64 lo, .int .i64 hi] h fun v h' => v = .bool (decide (lo ≤ x ∧ x ≤ hi)) ∧ h' = h := by
  refine AC.enter Try.func97 Try.call97 rfl Try.ntmps97 (of_decide_eq_true (by rfl)) ?_
  repeat' (first
    | refine AW.seq ?_
    | (refine AW.region ?_; conv => whnf)
    | (refine AW.ret ?_; conv => whnf)
    | (refine Br.dt (by omega) ?_; conv => whnf)
    | (refine Br.df (by omega) ?_; conv => whnf)
    | (refine Br.dec (fun hc => ?_) (fun hc => ?_) <;> conv => whnf))
  · exact ⟨congrArg AV.bool (by simp; omega), rfl⟩
  · exact ⟨congrArg AV.bool (by simp; omega), rfl⟩

/-- the first k bytes at the end -/
def shiftW (w : List UInt8) (k : Int) : List UInt8 × Bool :=
  if w.length ≤ 17 ∧ 0 ≤ k ∧ k ≤ max 0 ((w.length : Int) - 1) then (w.drop k.toNat ++ w.take k.toNat, true) else ([], false)

theorem shiftW_yes {w : List UInt8} {k : Int} (h : w.length ≤ 17 ∧ 0 ≤ k ∧ k ≤ max 0 ((w.length : Int) - 1)) : shiftW w k = (w.drop k.toNat ++ w.take k.toNat, true) := if_pos h
theorem shiftW_no {w : List UInt8} {k : Int} (h : ¬ (w.length ≤ 17 ∧ 0 ≤ k ∧ k ≤ max 0 ((w.length : Int) - 1))) : shiftW w k = ([], false) := if_neg h




end Go.Proofs.Ytdfdlnjijccpeaa
