/-
  Contracts of functions on words of letters are proved: counting, balanced words.
  They hold for all words within the size of an int.
-/
import Derived.Test.YtdfdlnjijccpeaaC1
import Derived.Test.YtdfdlnjijccpeaaP1
set_option linter.unusedVariables false
set_option linter.unusedSimpArgs false
namespace Go.Proofs.Ytdfdlnjijccpeaa
open Go.Proofs.Ytdfdlnjijccpeaa.Ab Go.Proofs.Ytdfdlnjijccpeaa.Pl

theorem count_ok (w : List UInt8) (c : Int) (hw : w.length ≤ 9223372036854775807) (h0 : H) : AC env 115 [.str w, .int .u8 c] h0 fun v h' => v = .int .i64 (cntB w c) ∧ h' = h0 := by
  refine AC.enter Try.func115 Try.call115 rfl Try.ntmps115 (of_decide_eq_true (by rfl)) ?_
  repeat' (first
    | refine AW.seq ?_
    | (refine AW.region ?_; conv => whnf)
    | refine AW.block ?_)
  refine AW.loop2 (fun (n i : Int) => [(0, .str w), (1, .int .u8 c), (5, .int .i64 n), (6, .int .i64 i)]) (fun n i h' => (∃ k : Nat, k ≤ w.length ∧ i = k ∧ n = cntB (w.take k) c) ∧ h' = h0) (fun _ i => (w.length - i).toNat) 0 0
    (Less.cons rfl (Less.cons rfl (Less.cons rfl (Less.cons rfl (Less.nil _))))) ⟨⟨0, by omega, rfl, rfl⟩, rfl⟩ ?_
  rintro n i h' ⟨⟨k, hk, rfl, rfl⟩, rfl⟩
  have b1 := cntB_le (w.take k) c
  have b2 : (w.take k).length ≤ k := List.length_take_le _ _
  repeat' (first
    | refine AW.seq ?_
    | (refine AW.region ?_; conv => whnf)
    | refine AW.block ?_
    | (refine AW.skip ?_; conv => whnf)
    | (refine AW.ret ?_; conv => whnf)
    | (refine AW.exit ?_; conv => whnf)
    | refine AW.cond (by rfl) ?_
    | (refine Br.dec (fun hc => ?_) (fun hc => ?_) <;> conv => whnf)
    | (refine Wr.i64 (by omega) ?_; conv => whnf)
    | (refine Ck.mk (by omega) ?_; conv => whnf))
  · refine ⟨_, _, (Less.cons rfl (Less.cons rfl (Less.cons rfl (Less.cons rfl (Less.nil _))))), ⟨⟨k + 1, by omega, by omega, ?_⟩, rfl⟩, by omega⟩
    rw [take_snoc w k (by omega), cntB_snoc, if_pos (by simpa using hc)]
    simp
  · refine ⟨_, _, (Less.cons rfl (Less.cons rfl (Less.cons rfl (Less.cons rfl (Less.nil _))))), ⟨⟨k + 1, by omega, by omega, ?_⟩, rfl⟩, by omega⟩
    rw [take_snoc w k (by omega), cntB_snoc, if_neg (by simpa using hc)]
    simp
  · have e : k = w.length := by omega
    subst e
    exact ⟨by rw [List.take_length], rfl⟩




end Go.Proofs.Ytdfdlnjijccpeaa
