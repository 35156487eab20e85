/-
  Contracts of peaks and of words whose peaks are flattened are proved.
  They hold for all words within the sizes that the statements' code allows.
-/
import Derived.Test.YtdfdlnjijccpeaaC11
set_option linter.unusedVariables false
set_option linter.unusedSimpArgs false
namespace Go.Proofs.Ytdfdlnjijccpeaa
open Go.Proofs.Ytdfdlnjijccpeaa.Ab Go.Proofs.Ytdfdlnjijccpeaa.Pl

/-- a peak begins at this place -/
def peakAt (w : List UInt8) (i : Nat) : Prop := w.getD i 0 = 117 ∧ w.getD (i + 1) 0 = 100
instance (w : List UInt8) (i : Nat) : Decidable (peakAt w i) := by unfold peakAt; infer_instance
/-- the peaks that begin before this place -/
def peaksTo (w : List UInt8) : Nat → Nat
  | 0 => 0
  | i + 1 => peaksTo w i + if peakAt w i then 1 else 0
theorem peaksTo_le (w : List UInt8) : ∀ i, peaksTo w i ≤ i
  | 0 => Nat.le_refl _
  | i + 1 => by
    have := peaksTo_le w i
    simp only [peaksTo]
    split <;> omega
def peaks (w : List UInt8) : Int := if isDyck w = true then (peaksTo w (w.length - 1) : Int) else -1

theorem peaksTo_end (w : List UInt8) {i : Nat} (h : i = 0 ∨ i + 1 ≤ w.length) (g : ¬ ((i + 1 : Nat) : Int) < w.length) : i = w.length - 1 := by omega
theorem byte_117 (x : UInt8) : (x.toNat : Int) = 117 ↔ x = 117 := ⟨fun h => UInt8.toNat_inj.1 (by rw [show (117 : UInt8).toNat = 117 from rfl]; omega), fun h => by rw [h]; rfl⟩
theorem byte_100 (x : UInt8) : (x.toNat : Int) = 100 ↔ x = 100 := ⟨fun h => UInt8.toNat_inj.1 (by rw [show (100 : UInt8).toNat = 100 from rfl]; omega), fun h => by rw [h]; rfl⟩

theorem iPeaksOf_ok (w : List UInt8) (hw : w.length ≤ 9223372036854775807) (h0 : H) : AC env 132 [.str w] h0 fun v h' => v = .int .i64 (peaks w) ∧ Keeps h0 h' := by
  by_cases hr : isDyck w = true
  · rw [show peaks w = (peaksTo w (w.length - 1) : Int) from if_pos hr]
    have ev := isDyck_even hr
    refine AC.enter Try.func132 Try.call132 rfl Try.ntmps132 (of_decide_eq_true (by rfl)) ?_
    repeat' (first
      | refine AW.seq ?_
      | (refine AW.region ?_; conv => whnf)
      | refine AW.block ?_
      | (refine AW.skip ?_; conv => whnf)
      | refine AW.cond (by rfl) ?_
      | (refine (iIsDyck_ok _ (by first | omega | (simp only [List.length_drop, List.length_take, List.length_append, List.length_cons, List.length_nil]; omega)) _).mono ?_; rintro v h' ⟨rfl, hk'⟩; conv => whnf)
      | refine Br.not ?_
      | (refine Br.t (by assumption) ?_; conv => whnf))
    refine AW.loop2 (fun (n i : Nat) => [(0, .str w), (3, .int .i64 (n : Int)), (4, .int .i64 ((i + 1 : Nat) : Int))]) (fun n i h' => (i = 0 ∨ i + 1 ≤ w.length) ∧ n = peaksTo w i ∧ Keeps h0 h') (fun _ i => w.length - i) 0 0
      (Less.cons rfl (Less.cons rfl (Less.cons rfl (Less.nil _)))) ⟨by omega, rfl, hk'⟩ ?_
    rintro n i h1 ⟨hi, rfl, hk1⟩
    have b1 := peaksTo_le w i
    have e1 : (((i + 1 : Nat) : Int) - 1).toNat = i := by omega
    have e2 : ((i + 1 : Nat) : Int).toNat = i + 1 := rfl
    repeat' (first
      | refine AW.seq ?_
      | (refine AW.region ?_; conv => whnf)
      | refine AW.block ?_
      | (refine AW.skip ?_; conv => whnf)
      | (refine AW.ret ?_; conv => whnf)
      | (refine AW.exit ?_; conv => whnf)
      | refine AW.cond (by rfl) ?_
      | (refine Br.ff ?_; conv => whnf)
      | (refine Br.dt (by omega) ?_; conv => whnf)
      | (refine Br.df (by omega) ?_; conv => whnf)
      | (refine Br.dec (fun hc => ?_) (fun hc => ?_) <;> conv => whnf)
      | (refine Wr.i64 (by omega) ?_; conv => whnf)
      | (refine Ck.mk (by omega) ?_; conv => whnf))
    · rename_i c1 c2
      rw [e1, byte_117] at c2
      rw [e2, byte_100] at hc
      exact ⟨peaksTo w i + 1, i + 1, (Less.cons rfl (Less.cons rfl (Less.cons rfl (Less.nil _)))), ⟨by omega, by rw [peaksTo, if_pos ⟨c2, hc⟩], hk1⟩, by omega⟩
    · rename_i c1 c2
      rw [e2, byte_100] at hc
      exact ⟨peaksTo w i, i + 1, (Less.cons rfl (Less.cons rfl (Less.cons rfl (Less.nil _)))), ⟨by omega, by rw [peaksTo, if_neg fun h => hc h.2]; rfl, hk1⟩, by omega⟩
    · rw [e1, byte_117] at hc
      exact ⟨peaksTo w i, i + 1, (Less.cons rfl (Less.cons rfl (Less.cons rfl (Less.nil _)))), ⟨by omega, by rw [peaksTo, if_neg fun h => hc h.1]; rfl, hk1⟩, by omega⟩
    · rw [peaksTo_end w hi hc]
      exact ⟨rfl, hk1⟩
  · rw [show peaks w = -1 from if_neg hr]
    refine AC.enter Try.func132 Try.call132 rfl Try.ntmps132 (of_decide_eq_true (by rfl)) ?_
    repeat' (first
      | refine AW.seq ?_
      | (refine AW.region ?_; conv => whnf)
      | refine AW.block ?_
      | (refine AW.skip ?_; conv => whnf)
      | (refine AW.ret ?_; conv => whnf)
      | refine AW.cond (by rfl) ?_
      | (refine (iIsDyck_ok _ (by first | omega | (simp only [List.length_drop, List.length_take, List.length_append, List.length_cons, List.length_nil]; omega)) _).mono ?_; rintro v h' ⟨rfl, hk'⟩; conv => whnf)
      | refine Br.not ?_
      | (refine Br.mk (fun hc => ?_) (fun hc => ?_) <;> conv => whnf))
    all_goals first
      | exact ⟨rfl, hk'⟩
      | exact absurd (by assumption) hr

theorem sPeaksOf_ok (w : List UInt8) (hw : w.length ≤ 9223372036854775807) (h0 : H) : AC env 133 [.str w] h0 fun v h' => v = .int .i64 (peaks w) ∧ h' = h0 := by
  by_cases hr : isDyck w = true
  · rw [show peaks w = (peaksTo w (w.length - 1) : Int) from if_pos hr]
    have ev := isDyck_even hr
    refine AC.enter Try.func133 Try.call133 rfl Try.ntmps133 (of_decide_eq_true (by rfl)) ?_
    repeat' (first
      | refine AW.seq ?_
      | (refine AW.region ?_; conv => whnf)
      | refine AW.block ?_
      | (refine AW.skip ?_; conv => whnf)
      | refine AW.cond (by rfl) ?_
      | (refine (sIsDyck_ok _ (by first | omega | (simp only [List.length_drop, List.length_take, List.length_append, List.length_cons, List.length_nil]; omega)) _).mono ?_; rintro v h' ⟨rfl, e'⟩; subst h'; conv => whnf)
      | refine Br.not ?_
      | (refine Br.t (by assumption) ?_; conv => whnf))
    refine AW.loop2 (fun (n i : Nat) => [(0, .str w), (3, .int .i64 (n : Int)), (4, .int .i64 ((i + 1 : Nat) : Int))]) (fun n i h' => (i = 0 ∨ i + 1 ≤ w.length) ∧ n = peaksTo w i ∧ h' = h0) (fun _ i => w.length - i) 0 0
      (Less.cons rfl (Less.cons rfl (Less.cons rfl (Less.nil _)))) ⟨by omega, rfl, rfl⟩ ?_
    rintro n i h1 ⟨hi, rfl, rfl⟩
    have b1 := peaksTo_le w i
    have cu : i + 1 < w.length → (w.take (((i + 1 : Nat) : Int) + 1).toNat).drop (((i + 1 : Nat) : Int) - 1).toNat = [w.getD i 0, w.getD (i + 1) 0] := fun h => by
      rw [← cut_two w i h]
      congr 2 <;> omega
    repeat' (first
      | refine AW.seq ?_
      | (refine AW.region ?_; conv => whnf)
      | refine AW.block ?_
      | (refine AW.skip ?_; conv => whnf)
      | (refine AW.ret ?_; conv => whnf)
      | (refine AW.exit ?_; conv => whnf)
      | refine AW.cond (by rfl) ?_
      | (refine Br.dec (fun hc => ?_) (fun hc => ?_) <;> conv => whnf)
      | (refine Br.mk (fun hc => ?_) (fun hc => ?_) <;> conv => whnf)
      | (refine Wr.i64 (by omega) ?_; conv => whnf)
      | (refine Ck.mk (by omega) ?_; conv => whnf))
    · rw [cu (by omega)] at hc
      have hc : peakAt w i := by simpa [peakAt] using hc
      exact ⟨peaksTo w i + 1, i + 1, (Less.cons rfl (Less.cons rfl (Less.cons rfl (Less.nil _)))), ⟨by omega, by rw [peaksTo, if_pos hc], rfl⟩, by omega⟩
    · rw [cu (by omega)] at hc
      have hc : ¬ peakAt w i := fun h => by rw [h.1, h.2] at hc; cases hc
      exact ⟨peaksTo w i, i + 1, (Less.cons rfl (Less.cons rfl (Less.cons rfl (Less.nil _)))), ⟨by omega, by rw [peaksTo, if_neg hc]; rfl, rfl⟩, by omega⟩
    · rw [peaksTo_end w hi hc]
      exact ⟨rfl, rfl⟩
  · rw [show peaks w = -1 from if_neg hr]
    refine AC.enter Try.func133 Try.call133 rfl Try.ntmps133 (of_decide_eq_true (by rfl)) ?_
    repeat' (first
      | refine AW.seq ?_
      | (refine AW.region ?_; conv => whnf)
      | refine AW.block ?_
      | (refine AW.skip ?_; conv => whnf)
      | (refine AW.ret ?_; conv => whnf)
      | refine AW.cond (by rfl) ?_
      | (refine (sIsDyck_ok _ (by first | omega | (simp only [List.length_drop, List.length_take, List.length_append, List.length_cons, List.length_nil]; omega)) _).mono ?_; rintro v h' ⟨rfl, e'⟩; subst h'; conv => whnf)
      | refine Br.not ?_
      | (refine Br.mk (fun hc => ?_) (fun hc => ?_) <;> conv => whnf))
    all_goals first
      | exact ⟨rfl, rfl⟩
      | exact absurd (by assumption) hr

end Go.Proofs.Ytdfdlnjijccpeaa
