/-
  Contracts of functions that make rows of numbers are proved: heights, paths, diagrams of the identity and of hooks.
  They hold for all arguments within the sizes that the statements' code allows.
-/
import Derived.Test.YtdfdlnjijccpeaaC4
import Derived.Test.YtdfdlnjijccpeaaP3
import Derived.Test.YtdfdlnjijccpeaaGX
set_option linter.unusedVariables false
set_option linter.unusedSimpArgs false
namespace Go.Proofs.Ytdfdlnjijccpeaa
open Go.Proofs.Ytdfdlnjijccpeaa.Ab Go.Proofs.Ytdfdlnjijccpeaa.Pl

theorem heights_ok (w : List UInt8) (hw : w.length ≤ 1000000) (h0 : H) : AC env 147 [.str w] h0 fun v h' => Keeps h0 h' ∧ match walkH 1 (-1) false w 0 with
    | none => v = .tup [.nilslice, .bool false]
    | some g => ∃ b, v = .tup [.slice b 0 (w.length + 1) (w.length + 1), .bool (g == 0)] ∧ New h0 h' b (ints (hts w)) := by
  refine AC.enter Try.func147 Try.call147 rfl Try.ntmps147 (of_decide_eq_true (by rfl)) ?_
  repeat' (first
    | refine AW.seq ?_
    | (refine AW.region ?_; conv => whnf)
    | refine AW.block ?_
    | (refine NewG.mk (fun bt hbt => ?_); conv => whnf))
  refine AW.loop3 (fun (b k : Nat) (g : Int) => [(0, .str w), (4, .slice b 0 (k + 1) (k + 1)), (5, .int .i64 g), (6, .int .i64 k)]) (fun b k g h' => k ≤ w.length ∧ walkH 1 (-1) false (w.take k) 0 = some g ∧ New h0 h' b (ints (htsTo w k))) (fun _ k _ => w.length - k) bt 0 0
    (Less.cons rfl (Less.cons rfl (Less.cons rfl (Less.cons rfl (Less.nil _))))) ⟨by omega, rfl, by rw [htsTo_zero]; exact New.make (Keeps.refl _) hbt⟩ ?_
  rintro b k g h' ⟨hk, hx, hn⟩
  have b1 := walkH_bd (by decide) (by decide) _ _ _ (by decide) hx
  have b2 : (w.take k).length ≤ k := List.length_take_le _ _
  repeat' (first
    | refine AW.seq ?_
    | (refine AW.region ?_; conv => whnf)
    | refine AW.block ?_
    | (refine AW.skip ?_; conv => whnf)
    | (refine AW.ret ?_; conv => whnf)
    | (refine AW.exit ?_; conv => whnf)
    | refine AW.cond (by rfl) ?_
    | (refine Br.df (by omega) ?_; conv => whnf)
    | (refine Br.dec (fun hc => ?_) (fun hc => ?_) <;> conv => whnf)
    | (refine Wr.i64 (by omega) ?_; conv => whnf)
    | (refine Ck.mk (by omega) ?_; conv => whnf)
    | (refine NewG.mk (fun bt hbt => ?_); conv => whnf)
    | (refine LoadsG.made (by rfl) ?_; conv => whnf)
    | (refine New.appI (New.upd (by assumption) (by assumption) _) (by first | rfl | (simp; done) | omega | (simp; omega)) (by first | (simp; done) | omega | (simp; omega)) (by decide) (fun b' h' hn' ho' => ?_); conv => whnf))
  · have e := walkH_next (by omega) hx (stepOf_u (by simpa using hc)) (by omega)
    have e2 := walkH_hgt _ _ _ e
    exact ⟨_, k + 1, _, (Less.cons rfl (Less.cons rfl (Less.cons rfl (Less.cons rfl (Less.nil _))))), ⟨by omega, e, by rw [htsTo_succ, ← show g + 1 = hgt (w.take (k + 1)) by omega]; exact hn'⟩, by omega⟩
  · exact ⟨hn.keeps, by rw [walkH_low (by omega) hx (stepOf_d (by simpa using ‹_ = (100 : Int)›)) (by omega)]⟩
  · have e := walkH_next (by omega) hx (stepOf_d (by simpa using ‹_ = (100 : Int)›)) (by omega)
    have e2 := walkH_hgt _ _ _ e
    exact ⟨_, k + 1, _, (Less.cons rfl (Less.cons rfl (Less.cons rfl (Less.cons rfl (Less.nil _))))), ⟨by omega, e, by rw [htsTo_succ, ← show g - 1 = hgt (w.take (k + 1)) by omega]; exact hn'⟩, by omega⟩
  · exact ⟨hn.keeps, by rw [walkH_bad (by omega) hx (stepOf_no (by simpa using ‹¬ _ = (117 : Int)›) (by simpa using ‹¬ _ = (100 : Int)›) (.inr rfl))]⟩
  · have e : k = w.length := by omega
    subst e
    rw [List.take_length] at hx
    rw [hx]
    exact ⟨hn.keeps, b, rfl, hn⟩

theorem iIsDyck_ok (w : List UInt8) (hw : w.length ≤ 9223372036854775807) (h0 : H) : AC env 131 [.str w] h0 fun v h' => v = .bool (isDyck w) ∧ Keeps h0 h' := by
  refine AC.enter Try.func131 Try.call131 rfl Try.ntmps131 (of_decide_eq_true (by rfl)) ?_
  repeat' (first
    | refine AW.seq ?_
    | (refine AW.region ?_; conv => whnf)
    | (refine AW.skip ?_; conv => whnf)
    | (refine AW.ret ?_; conv => whnf)
    | refine AW.cond (by rfl) ?_
    | (refine Br.dec (fun hc => ?_) (fun hc => ?_) <;> conv => whnf))
  · exact ⟨congrArg AV.bool (by unfold isDyck; rw [decide_eq_false (by omega)]; rfl), Keeps.refl _⟩
  · refine (heights_ok w (by omega) _).mono ?_
    rintro v h' ⟨hk, hv⟩
    have e : isDyck w = (walkH 1 (-1) false w 0 == some 0) := by unfold isDyck; rw [decide_eq_true (by omega)]; rfl
    rw [e]
    cases hg : walkH 1 (-1) false w 0 with
    | none =>
      rw [hg] at hv
      subst hv
      conv => whnf
      repeat' (first
        | refine AW.seq ?_
        | (refine AW.region ?_; conv => whnf)
        | (refine AW.ret ?_; conv => whnf))
      exact ⟨rfl, hk⟩
    | some g =>
      rw [hg] at hv
      obtain ⟨b, rfl, hn⟩ := hv
      conv => whnf
      repeat' (first
        | refine AW.seq ?_
        | (refine AW.region ?_; conv => whnf)
        | (refine AW.ret ?_; conv => whnf))
      exact ⟨congrArg AV.bool (by simp), hk⟩

theorem sIsDyck_ok (w : List UInt8) (hw : w.length ≤ 9223372036854775807) (h0 : H) : AC env 99 [.str w] h0 fun v h' => v = .bool (isDyck w) ∧ h' = h0 := by
  refine AC.enter Try.func99 Try.call99 rfl Try.ntmps99 (of_decide_eq_true (by rfl)) ?_
  repeat' (first
    | refine AW.seq ?_
    | (refine AW.region ?_; conv => whnf)
    | refine AW.block ?_)
  refine AW.loop2 (fun (g : Int) (k : Nat) => [(0, .str w), (3, .int .i64 g), (4, .int .i64 k)]) (fun g k h' => (k ≤ w.length ∧ walkH 1 (-1) false (w.take k) 0 = some g) ∧ h' = h0) (fun _ k => w.length - k) 0 0
    (Less.cons rfl (Less.cons rfl (Less.cons rfl (Less.nil _)))) ⟨⟨by omega, rfl⟩, rfl⟩ ?_
  rintro g k h' ⟨⟨hk, hx⟩, rfl⟩
  have b1 := walkH_bd (by decide) (by decide) _ _ _ (by decide) hx
  have b2 : (w.take k).length ≤ k := List.length_take_le _ _
  repeat' (first
    | refine AW.seq ?_
    | (refine AW.region ?_; conv => whnf)
    | refine AW.block ?_
    | (refine AW.skip ?_; conv => whnf)
    | (refine AW.ret ?_; conv => whnf)
    | (refine AW.exit ?_; conv => whnf)
    | refine AW.cond (by rfl) ?_
    | (refine Br.dt (by omega) ?_; conv => whnf)
    | (refine Br.df (by omega) ?_; conv => whnf)
    | (refine Br.dec (fun hc => ?_) (fun hc => ?_) <;> conv => whnf)
    | (refine Wr.i64 (by omega) ?_; conv => whnf)
    | (refine Ck.mk (by omega) ?_; conv => whnf))
  · exact ⟨_, k + 1, (Less.cons rfl (Less.cons rfl (Less.cons rfl (Less.nil _)))), ⟨⟨by omega, walkH_next (by omega) hx (stepOf_u (by simpa using hc)) (by omega)⟩, rfl⟩, by omega⟩
  · exact ⟨congrArg AV.bool (by simp [isDyck, walkH_low (by omega) hx (stepOf_d (by simpa using ‹_ = (100 : Int)›)) (by omega)]), rfl⟩
  · exact ⟨_, k + 1, (Less.cons rfl (Less.cons rfl (Less.cons rfl (Less.nil _)))), ⟨⟨by omega, walkH_next (by omega) hx (stepOf_d (by simpa using ‹_ = (100 : Int)›)) (by omega)⟩, rfl⟩, by omega⟩
  · exact ⟨congrArg AV.bool (by simp [isDyck, walkH_bad (by omega) hx (stepOf_no (by simpa using ‹¬ _ = (117 : Int)›) (by simpa using ‹¬ _ = (100 : Int)›) (.inr rfl))]), rfl⟩
  all_goals
    have e : k = w.length := by omega
    subst e
    rw [List.take_length] at hx
    exact ⟨congrArg AV.bool (by rw [Bool.eq_iff_iff]; simp [isDyck, hx]; try omega), rfl⟩

/-- a word of a circle -/
def circle (w : List UInt8) (k : Int) : List UInt8 × Bool := if isDyck w then shiftW (w ++ [100]) k else ([], false)




end Go.Proofs.Ytdfdlnjijccpeaa
