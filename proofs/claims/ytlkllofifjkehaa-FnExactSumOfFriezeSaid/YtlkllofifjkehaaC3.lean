/-
  Contracts of the tests of words are proved: words of Motzkin, of Schroeder and of Fuss.
  They hold for all words within the size of an int.
-/
import Derived.Test.YtlkllofifjkehaaC2
set_option linter.unusedVariables false
set_option linter.unusedSimpArgs false
namespace Go.Proofs.Ytlkllofifjkehaa
open Go.Proofs.Ytlkllofifjkehaa.Ab Go.Proofs.Ytlkllofifjkehaa.Pl






theorem iIsFuss_ok (m : Int) (w : List UInt8) (hm : -9223372036854775808 ≤ m ∧ m ≤ 9223372036854775807) (hw : w.length ≤ 9223372036854775807) (h0 : H) : AC env 62 [.int .i64 m, .str w] h0 fun v h' => v = .bool (isFuss m w) ∧ h' = h0 := by
  refine AC.enter Try.func62 Try.call62 rfl Try.ntmps62 (of_decide_eq_true (by rfl)) ?_
  repeat' (first
    | refine AW.seq ?_
    | (refine AW.region ?_; conv => whnf)
    | refine AW.block ?_
    | (refine AW.skip ?_; conv => whnf)
    | (refine AW.ret ?_; conv => whnf)
    | (refine AW.exit ?_; conv => whnf)
    | refine AW.cond (by rfl) ?_
    | (refine (within_ok _ _ _ _).mono ?_; rintro v h' ⟨rfl, e'⟩; subst h'; conv => whnf)
    | (refine Br.tt ?_; conv => whnf)
    | (refine Br.ff ?_; conv => whnf)
    | refine Br.not ?_
    | (refine Br.t (beq_self_eq_true _) ?_; conv => whnf)
    | (refine Br.t (by assumption) ?_; conv => whnf)
    | (refine Br.f (by assumption) ?_; conv => whnf)
    | (refine Br.dt (by omega) ?_; conv => whnf)
    | (refine Br.df (by omega) ?_; conv => whnf)
    | (refine Br.it (by omega) ?_; conv => whnf)
    | (refine Br.if (by omega) ?_; conv => whnf)
    | (refine Br.nt (by omega) ?_; conv => whnf)
    | (refine Br.nf (by omega) ?_; conv => whnf)
    | (refine Br.dec (fun hc => ?_) (fun hc => ?_) <;> conv => whnf)
    | (refine Br.ieq (fun hc => ?_) (fun hc => ?_) <;> conv => whnf)
    | (refine Br.ine (fun hc => ?_) (fun hc => ?_) <;> conv => whnf)
    | (refine Br.mk (fun hc => ?_) (fun hc => ?_) <;> conv => whnf)
    | (refine Wr.i64 (by omega) ?_; conv => whnf)
    | (refine Ck.mk (by omega) ?_; conv => whnf)
    | (refine Wr.i64 (by simp only [List.length_drop, List.length_take, List.length_append, List.length_cons, List.length_nil]; omega) ?_; conv => whnf)
    | (refine Ck.mk (by simp only [List.length_drop, List.length_take, List.length_append, List.length_cons, List.length_nil]; omega) ?_; conv => whnf)
    | (refine NewG.zeros rfl (fun bt h' hbt hn' => ?_); conv => whnf)
    | (refine NewG.mk (fun bt hbt => ?_); conv => whnf)
    | (refine LoadsG.made (by rfl) ?_; conv => whnf)
    | (refine New.appI (New.upd (by assumption) (by assumption) _) (by first | rfl | (simp; done) | omega | (simp; omega)) (by first | (simp; done) | omega | (simp; omega)) (by decide) (fun b' h' hn' ho' => ?_); conv => whnf)
    | (refine New.loadZ (by assumption) rfl (by first | (simp; done) | omega | (simp only [List.length_set, tab_length]; omega) | (simp; omega)) ?_; conv => whnf)
    | (refine Has.loadZ (by assumption) rfl (by first | (simp; done) | omega | (simp only [List.length_set, tab_length]; omega) | (simp; omega)) ?_; conv => whnf)
    | (refine New.storeZ (by assumption) rfl (by first | (simp; done) | omega | (simp only [List.length_set, tab_length]; omega) | (simp; omega)) (fun h' hn' ho' => ?_); conv => whnf)
    | (refine Own.storeZ (by assumption) rfl (by first | (simp; done) | omega | (simp only [List.length_set, tab_length]; omega) | (simp; omega)) (fun h' hn' ho' => ?_); conv => whnf)
    | (refine Wr.u8 (by omega) ?_; conv => whnf)
    | (refine Wr.u32 (by omega) ?_; conv => whnf)
    | (refine Wr.u64 (by omega) ?_; conv => whnf)
    | (refine New.loadS (by assumption) rfl (by first | (simp; done) | omega | (simp only [List.length_set, tab_length]; omega) | (simp; omega)) ?_; conv => whnf)
    | (refine Has.loadS (by assumption) rfl (by first | (simp; done) | omega | (simp only [List.length_set, tab_length]; omega) | (simp; omega)) ?_; conv => whnf)
    | (refine Own.storeS (by assumption) rfl (by first | (simp; done) | omega | (simp only [List.length_set, tab_length]; omega) | (simp; omega)) (fun h' hn' ho' => ?_); conv => whnf)
    | (refine New.appS (New.upd (by assumption) (by assumption) _) (by first | rfl | (simp; done) | omega | (simp; omega)) (by first | (simp; done) | omega | (simp; omega)) (by decide) (fun b' h' hn' ho' => ?_); conv => whnf)
    | (refine Ck.slice (by omega) (by omega) (by omega) (by decide) ?_; conv => whnf)
    | (refine Ck.mk (by simp; omega) ?_; conv => whnf))
  · exact ⟨congrArg AV.bool (by unfold isFuss; rw [decide_eq_false (by omega)]; rfl), rfl⟩
  rotate_left
  · exact ⟨congrArg AV.bool (by unfold isFuss; rw [decide_eq_false (by omega)]; rfl), rfl⟩
  refine AW.loop2 (fun (g i : Int) => [(0, .int .i64 m), (1, .str w), (5, .int .i64 g), (6, .int .i64 i)]) (fun g i h' => (∃ k : Nat, k ≤ w.length ∧ i = k ∧ walkH (m - 1) (-1) false (w.take k) 0 = some g) ∧ h' = h0) (fun _ i => (w.length - i).toNat) 0 0
    (Less.cons rfl (Less.cons rfl (Less.cons rfl (Less.cons rfl (Less.nil _))))) ⟨⟨0, by omega, rfl, rfl⟩, rfl⟩ ?_
  rintro g i h' ⟨⟨k, hk, rfl, hx⟩, rfl⟩
  have b0 : (1 ≤ m ∧ m ≤ 4) ∧ w.length ≤ 24 := ⟨by assumption, by omega⟩
  have b1 := walkH_bd (by omega) (by omega) _ _ _ (by decide) hx
  have b2 : (w.take k).length ≤ k := List.length_take_le _ _
  have b3 : (m - 1) * ((w.take k).length : Int) ≤ 3 * 24 := Int.mul_le_mul (by omega) (by omega) (by omega) (by omega)
  repeat' (first
    | refine AW.seq ?_
    | (refine AW.region ?_; conv => whnf)
    | refine AW.block ?_
    | (refine AW.skip ?_; conv => whnf)
    | (refine AW.ret ?_; conv => whnf)
    | (refine AW.exit ?_; conv => whnf)
    | refine AW.cond (by rfl) ?_
    | (refine (within_ok _ _ _ _).mono ?_; rintro v h' ⟨rfl, e'⟩; subst h'; conv => whnf)
    | (refine Br.tt ?_; conv => whnf)
    | (refine Br.ff ?_; conv => whnf)
    | refine Br.not ?_
    | (refine Br.t (beq_self_eq_true _) ?_; conv => whnf)
    | (refine Br.t (by assumption) ?_; conv => whnf)
    | (refine Br.f (by assumption) ?_; conv => whnf)
    | (refine Br.dt (by omega) ?_; conv => whnf)
    | (refine Br.df (by omega) ?_; conv => whnf)
    | (refine Br.it (by omega) ?_; conv => whnf)
    | (refine Br.if (by omega) ?_; conv => whnf)
    | (refine Br.nt (by omega) ?_; conv => whnf)
    | (refine Br.nf (by omega) ?_; conv => whnf)
    | (refine Br.dec (fun hc => ?_) (fun hc => ?_) <;> conv => whnf)
    | (refine Br.ieq (fun hc => ?_) (fun hc => ?_) <;> conv => whnf)
    | (refine Br.ine (fun hc => ?_) (fun hc => ?_) <;> conv => whnf)
    | (refine Br.mk (fun hc => ?_) (fun hc => ?_) <;> conv => whnf)
    | (refine Wr.i64 (by omega) ?_; conv => whnf)
    | (refine Ck.mk (by omega) ?_; conv => whnf)
    | (refine Wr.i64 (by simp only [List.length_drop, List.length_take, List.length_append, List.length_cons, List.length_nil]; omega) ?_; conv => whnf)
    | (refine Ck.mk (by simp only [List.length_drop, List.length_take, List.length_append, List.length_cons, List.length_nil]; omega) ?_; conv => whnf)
    | (refine NewG.zeros rfl (fun bt h' hbt hn' => ?_); conv => whnf)
    | (refine NewG.mk (fun bt hbt => ?_); conv => whnf)
    | (refine LoadsG.made (by rfl) ?_; conv => whnf)
    | (refine New.appI (New.upd (by assumption) (by assumption) _) (by first | rfl | (simp; done) | omega | (simp; omega)) (by first | (simp; done) | omega | (simp; omega)) (by decide) (fun b' h' hn' ho' => ?_); conv => whnf)
    | (refine New.loadZ (by assumption) rfl (by first | (simp; done) | omega | (simp only [List.length_set, tab_length]; omega) | (simp; omega)) ?_; conv => whnf)
    | (refine Has.loadZ (by assumption) rfl (by first | (simp; done) | omega | (simp only [List.length_set, tab_length]; omega) | (simp; omega)) ?_; conv => whnf)
    | (refine New.storeZ (by assumption) rfl (by first | (simp; done) | omega | (simp only [List.length_set, tab_length]; omega) | (simp; omega)) (fun h' hn' ho' => ?_); conv => whnf)
    | (refine Own.storeZ (by assumption) rfl (by first | (simp; done) | omega | (simp only [List.length_set, tab_length]; omega) | (simp; omega)) (fun h' hn' ho' => ?_); conv => whnf)
    | (refine Wr.u8 (by omega) ?_; conv => whnf)
    | (refine Wr.u32 (by omega) ?_; conv => whnf)
    | (refine Wr.u64 (by omega) ?_; conv => whnf)
    | (refine New.loadS (by assumption) rfl (by first | (simp; done) | omega | (simp only [List.length_set, tab_length]; omega) | (simp; omega)) ?_; conv => whnf)
    | (refine Has.loadS (by assumption) rfl (by first | (simp; done) | omega | (simp only [List.length_set, tab_length]; omega) | (simp; omega)) ?_; conv => whnf)
    | (refine Own.storeS (by assumption) rfl (by first | (simp; done) | omega | (simp only [List.length_set, tab_length]; omega) | (simp; omega)) (fun h' hn' ho' => ?_); conv => whnf)
    | (refine New.appS (New.upd (by assumption) (by assumption) _) (by first | rfl | (simp; done) | omega | (simp; omega)) (by first | (simp; done) | omega | (simp; omega)) (by decide) (fun b' h' hn' ho' => ?_); conv => whnf)
    | (refine Ck.slice (by omega) (by omega) (by omega) (by decide) ?_; conv => whnf)
    | (refine Ck.mk (by simp; omega) ?_; conv => whnf))
  · exact ⟨_, _, (Less.cons rfl (Less.cons rfl (Less.cons rfl (Less.cons rfl (Less.nil _))))), ⟨⟨k + 1, by omega, by omega, by simpa [Int.add_sub_assoc] using walkH_next (by omega) hx (stepOf_u (by simpa using hc)) (by omega)⟩, rfl⟩, by omega⟩
  · exact ⟨congrArg AV.bool (by simp [isFuss, walkH_low (by omega) hx (stepOf_d (by simpa using ‹_ = (100 : Int)›)) (by omega)]), rfl⟩
  · exact ⟨_, _, (Less.cons rfl (Less.cons rfl (Less.cons rfl (Less.cons rfl (Less.nil _))))), ⟨⟨k + 1, by omega, by omega, walkH_next (by omega) hx (stepOf_d (by simpa using ‹_ = (100 : Int)›)) (by omega)⟩, rfl⟩, by omega⟩
  · exact ⟨congrArg AV.bool (by simp [isFuss, walkH_bad (by omega) hx (stepOf_no (by simpa using ‹¬ _ = (117 : Int)›) (by simpa using ‹¬ _ = (100 : Int)›) (.inr rfl))]), rfl⟩
  · have e : k = w.length := by omega
    subst e
    rw [List.take_length] at hx
    exact ⟨congrArg AV.bool (by simp [isFuss, hx, b0]), rfl⟩

theorem sIsFuss_ok (m : Int) (w : List UInt8) (hm : -9223372036854775808 ≤ m ∧ m ≤ 9223372036854775807) (hw : w.length ≤ 9223372036854775807) (h0 : H) : AC env 61 [.int .i64 m, .str w] h0 fun v h' => v = .bool (isFuss m w) ∧ h' = h0 := by
  refine AC.enter Try.func61 Try.call61 rfl Try.ntmps61 (of_decide_eq_true (by rfl)) ?_
  repeat' (first
    | refine AW.seq ?_
    | (refine AW.region ?_; conv => whnf)
    | refine AW.block ?_
    | (refine AW.skip ?_; conv => whnf)
    | (refine AW.ret ?_; conv => whnf)
    | (refine AW.exit ?_; conv => whnf)
    | refine AW.cond (by rfl) ?_
    | (refine (l1In_ok _ _ _ _).mono ?_; rintro v h' ⟨rfl, e'⟩; subst h'; conv => whnf)
    | (refine Br.tt ?_; conv => whnf)
    | (refine Br.ff ?_; conv => whnf)
    | refine Br.not ?_
    | (refine Br.t (beq_self_eq_true _) ?_; conv => whnf)
    | (refine Br.t (by assumption) ?_; conv => whnf)
    | (refine Br.f (by assumption) ?_; conv => whnf)
    | (refine Br.dt (by omega) ?_; conv => whnf)
    | (refine Br.df (by omega) ?_; conv => whnf)
    | (refine Br.it (by omega) ?_; conv => whnf)
    | (refine Br.if (by omega) ?_; conv => whnf)
    | (refine Br.nt (by omega) ?_; conv => whnf)
    | (refine Br.nf (by omega) ?_; conv => whnf)
    | (refine Br.dec (fun hc => ?_) (fun hc => ?_) <;> conv => whnf)
    | (refine Br.ieq (fun hc => ?_) (fun hc => ?_) <;> conv => whnf)
    | (refine Br.ine (fun hc => ?_) (fun hc => ?_) <;> conv => whnf)
    | (refine Br.mk (fun hc => ?_) (fun hc => ?_) <;> conv => whnf)
    | (refine Wr.i64 (by omega) ?_; conv => whnf)
    | (refine Ck.mk (by omega) ?_; conv => whnf)
    | (refine Wr.i64 (by simp only [List.length_drop, List.length_take, List.length_append, List.length_cons, List.length_nil]; omega) ?_; conv => whnf)
    | (refine Ck.mk (by simp only [List.length_drop, List.length_take, List.length_append, List.length_cons, List.length_nil]; omega) ?_; conv => whnf)
    | (refine NewG.zeros rfl (fun bt h' hbt hn' => ?_); conv => whnf)
    | (refine NewG.mk (fun bt hbt => ?_); conv => whnf)
    | (refine LoadsG.made (by rfl) ?_; conv => whnf)
    | (refine New.appI (New.upd (by assumption) (by assumption) _) (by first | rfl | (simp; done) | omega | (simp; omega)) (by first | (simp; done) | omega | (simp; omega)) (by decide) (fun b' h' hn' ho' => ?_); conv => whnf)
    | (refine New.loadZ (by assumption) rfl (by first | (simp; done) | omega | (simp only [List.length_set, tab_length]; omega) | (simp; omega)) ?_; conv => whnf)
    | (refine Has.loadZ (by assumption) rfl (by first | (simp; done) | omega | (simp only [List.length_set, tab_length]; omega) | (simp; omega)) ?_; conv => whnf)
    | (refine New.storeZ (by assumption) rfl (by first | (simp; done) | omega | (simp only [List.length_set, tab_length]; omega) | (simp; omega)) (fun h' hn' ho' => ?_); conv => whnf)
    | (refine Own.storeZ (by assumption) rfl (by first | (simp; done) | omega | (simp only [List.length_set, tab_length]; omega) | (simp; omega)) (fun h' hn' ho' => ?_); conv => whnf)
    | (refine Wr.u8 (by omega) ?_; conv => whnf)
    | (refine Wr.u32 (by omega) ?_; conv => whnf)
    | (refine Wr.u64 (by omega) ?_; conv => whnf)
    | (refine New.loadS (by assumption) rfl (by first | (simp; done) | omega | (simp only [List.length_set, tab_length]; omega) | (simp; omega)) ?_; conv => whnf)
    | (refine Has.loadS (by assumption) rfl (by first | (simp; done) | omega | (simp only [List.length_set, tab_length]; omega) | (simp; omega)) ?_; conv => whnf)
    | (refine Own.storeS (by assumption) rfl (by first | (simp; done) | omega | (simp only [List.length_set, tab_length]; omega) | (simp; omega)) (fun h' hn' ho' => ?_); conv => whnf)
    | (refine New.appS (New.upd (by assumption) (by assumption) _) (by first | rfl | (simp; done) | omega | (simp; omega)) (by first | (simp; done) | omega | (simp; omega)) (by decide) (fun b' h' hn' ho' => ?_); conv => whnf)
    | (refine Ck.slice (by omega) (by omega) (by omega) (by decide) ?_; conv => whnf)
    | (refine Ck.mk (by simp; omega) ?_; conv => whnf))
  · exact ⟨congrArg AV.bool (by unfold isFuss; rw [decide_eq_false (by omega)]; rfl), rfl⟩
  rotate_left
  · exact ⟨congrArg AV.bool (by unfold isFuss; rw [decide_eq_false (by omega)]; rfl), rfl⟩
  refine AW.loop2 (fun (g i : Int) => [(0, .int .i64 m), (1, .str w), (5, .int .i64 g), (6, .int .i64 i)]) (fun g i h' => (∃ k : Nat, k ≤ w.length ∧ i = k ∧ walkH (m - 1) (-1) false (w.take k) 0 = some g) ∧ h' = h0) (fun _ i => (w.length - i).toNat) 0 0
    (Less.cons rfl (Less.cons rfl (Less.cons rfl (Less.cons rfl (Less.nil _))))) ⟨⟨0, by omega, rfl, rfl⟩, rfl⟩ ?_
  rintro g i h' ⟨⟨k, hk, rfl, hx⟩, rfl⟩
  have b0 : (1 ≤ m ∧ m ≤ 4) ∧ w.length ≤ 24 := ⟨by assumption, by omega⟩
  have b1 := walkH_bd (by omega) (by omega) _ _ _ (by decide) hx
  have b2 : (w.take k).length ≤ k := List.length_take_le _ _
  have b3 : (m - 1) * ((w.take k).length : Int) ≤ 3 * 24 := Int.mul_le_mul (by omega) (by omega) (by omega) (by omega)
  repeat' (first
    | refine AW.seq ?_
    | (refine AW.region ?_; conv => whnf)
    | refine AW.block ?_
    | (refine AW.skip ?_; conv => whnf)
    | (refine AW.ret ?_; conv => whnf)
    | (refine AW.exit ?_; conv => whnf)
    | refine AW.cond (by rfl) ?_
    | (refine (l1In_ok _ _ _ _).mono ?_; rintro v h' ⟨rfl, e'⟩; subst h'; conv => whnf)
    | (refine Br.tt ?_; conv => whnf)
    | (refine Br.ff ?_; conv => whnf)
    | refine Br.not ?_
    | (refine Br.t (beq_self_eq_true _) ?_; conv => whnf)
    | (refine Br.t (by assumption) ?_; conv => whnf)
    | (refine Br.f (by assumption) ?_; conv => whnf)
    | (refine Br.dt (by omega) ?_; conv => whnf)
    | (refine Br.df (by omega) ?_; conv => whnf)
    | (refine Br.it (by omega) ?_; conv => whnf)
    | (refine Br.if (by omega) ?_; conv => whnf)
    | (refine Br.nt (by omega) ?_; conv => whnf)
    | (refine Br.nf (by omega) ?_; conv => whnf)
    | (refine Br.dec (fun hc => ?_) (fun hc => ?_) <;> conv => whnf)
    | (refine Br.ieq (fun hc => ?_) (fun hc => ?_) <;> conv => whnf)
    | (refine Br.ine (fun hc => ?_) (fun hc => ?_) <;> conv => whnf)
    | (refine Br.mk (fun hc => ?_) (fun hc => ?_) <;> conv => whnf)
    | (refine Wr.i64 (by omega) ?_; conv => whnf)
    | (refine Ck.mk (by omega) ?_; conv => whnf)
    | (refine Wr.i64 (by simp only [List.length_drop, List.length_take, List.length_append, List.length_cons, List.length_nil]; omega) ?_; conv => whnf)
    | (refine Ck.mk (by simp only [List.length_drop, List.length_take, List.length_append, List.length_cons, List.length_nil]; omega) ?_; conv => whnf)
    | (refine NewG.zeros rfl (fun bt h' hbt hn' => ?_); conv => whnf)
    | (refine NewG.mk (fun bt hbt => ?_); conv => whnf)
    | (refine LoadsG.made (by rfl) ?_; conv => whnf)
    | (refine New.appI (New.upd (by assumption) (by assumption) _) (by first | rfl | (simp; done) | omega | (simp; omega)) (by first | (simp; done) | omega | (simp; omega)) (by decide) (fun b' h' hn' ho' => ?_); conv => whnf)
    | (refine New.loadZ (by assumption) rfl (by first | (simp; done) | omega | (simp only [List.length_set, tab_length]; omega) | (simp; omega)) ?_; conv => whnf)
    | (refine Has.loadZ (by assumption) rfl (by first | (simp; done) | omega | (simp only [List.length_set, tab_length]; omega) | (simp; omega)) ?_; conv => whnf)
    | (refine New.storeZ (by assumption) rfl (by first | (simp; done) | omega | (simp only [List.length_set, tab_length]; omega) | (simp; omega)) (fun h' hn' ho' => ?_); conv => whnf)
    | (refine Own.storeZ (by assumption) rfl (by first | (simp; done) | omega | (simp only [List.length_set, tab_length]; omega) | (simp; omega)) (fun h' hn' ho' => ?_); conv => whnf)
    | (refine Wr.u8 (by omega) ?_; conv => whnf)
    | (refine Wr.u32 (by omega) ?_; conv => whnf)
    | (refine Wr.u64 (by omega) ?_; conv => whnf)
    | (refine New.loadS (by assumption) rfl (by first | (simp; done) | omega | (simp only [List.length_set, tab_length]; omega) | (simp; omega)) ?_; conv => whnf)
    | (refine Has.loadS (by assumption) rfl (by first | (simp; done) | omega | (simp only [List.length_set, tab_length]; omega) | (simp; omega)) ?_; conv => whnf)
    | (refine Own.storeS (by assumption) rfl (by first | (simp; done) | omega | (simp only [List.length_set, tab_length]; omega) | (simp; omega)) (fun h' hn' ho' => ?_); conv => whnf)
    | (refine New.appS (New.upd (by assumption) (by assumption) _) (by first | rfl | (simp; done) | omega | (simp; omega)) (by first | (simp; done) | omega | (simp; omega)) (by decide) (fun b' h' hn' ho' => ?_); conv => whnf)
    | (refine Ck.slice (by omega) (by omega) (by omega) (by decide) ?_; conv => whnf)
    | (refine Ck.mk (by simp; omega) ?_; conv => whnf))
  · exact ⟨_, _, (Less.cons rfl (Less.cons rfl (Less.cons rfl (Less.cons rfl (Less.nil _))))), ⟨⟨k + 1, by omega, by omega, by simpa [Int.add_sub_assoc] using walkH_next (by omega) hx (stepOf_u (by simpa using hc)) (by omega)⟩, rfl⟩, by omega⟩
  · exact ⟨congrArg AV.bool (by simp [isFuss, walkH_low (by omega) hx (stepOf_d (by simpa using ‹_ = (100 : Int)›)) (by omega)]), rfl⟩
  · exact ⟨_, _, (Less.cons rfl (Less.cons rfl (Less.cons rfl (Less.cons rfl (Less.nil _))))), ⟨⟨k + 1, by omega, by omega, walkH_next (by omega) hx (stepOf_d (by simpa using ‹_ = (100 : Int)›)) (by omega)⟩, rfl⟩, by omega⟩
  · exact ⟨congrArg AV.bool (by simp [isFuss, walkH_bad (by omega) hx (stepOf_no (by simpa using ‹¬ _ = (117 : Int)›) (by simpa using ‹¬ _ = (100 : Int)›) (.inr rfl))]), rfl⟩
  · have e : k = w.length := by omega
    subst e
    rw [List.take_length] at hx
    exact ⟨congrArg AV.bool (by simp [isFuss, hx, b0]), rfl⟩



end Go.Proofs.Ytlkllofifjkehaa
