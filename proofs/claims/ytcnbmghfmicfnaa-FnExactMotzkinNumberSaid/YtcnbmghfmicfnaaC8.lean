/-
  Contracts of the numbers of Motzkin are proved.
  They hold for all arguments.
-/
import Derived.Test.YtcnbmghfmicfnaaC7
import Derived.Test.YtcnbmghfmicfnaaP4
set_option linter.unusedVariables false
set_option linter.unusedSimpArgs false
namespace Go.Proofs.Ytcnbmghfmicfnaa
open Go.Proofs.Ytcnbmghfmicfnaa.Ab Go.Proofs.Ytcnbmghfmicfnaa.Pl

def motN (n : Int) : Int := if 0 ≤ n ∧ n ≤ 20 then motV n.toNat 0 else -1

theorem iMotzkinNumber_ok (n : Int) (h0 : H) : AC env 22 [.int .i64 n] h0 fun v h' => v = .int .i64 (motN n) ∧ Keeps h0 h' := by
  by_cases hr : 0 ≤ n ∧ n ≤ 20
  · have hm : motN n = motV n.toNat 0 := if_pos hr
    rw [hm]
    obtain ⟨m, rfl⟩ := Int.eq_ofNat_of_zero_le hr.1
    refine AC.enter Try.func22 Try.call22 rfl Try.ntmps22 (of_decide_eq_true (by rfl)) ?_
    repeat' (first
      | refine AW.seq ?_
      | (refine AW.region ?_; conv => whnf)
      | refine AW.block ?_
      | (refine AW.skip ?_; conv => whnf)
      | (refine AW.ret ?_; conv => whnf)
      | (refine AW.exit ?_; conv => whnf)
      | refine AW.cond (by rfl) ?_
      | (refine AW.draw (id := 11) (.p 0 (.p 1 (.p 2 (.p 3 (.p 4 (.p 6 (.p 7 (.p 8 (.p 9 (.r 5 [11, 12, 13] (.r 10 [11, 12, 13] (.p 11 (.p 12 (.all [13] fun _ => .done)))))))))))))) (by kernel_rfl) (by kernel_rfl) ?_; conv => whnf)
      | (refine AW.draw (id := 13) (.p 0 (.p 1 (.p 2 (.p 3 (.p 4 (.p 6 (.p 7 (.p 8 (.p 9 (.r 5 [11, 12, 13] (.r 10 [11, 12, 13] (.p 11 (.p 12 (.all [13] fun _ => .done)))))))))))))) (by kernel_rfl) (by kernel_rfl) ?_; conv => whnf)
      | (refine (within_ok _ _ _ _).mono ?_; rintro v h' ⟨rfl, e'⟩; subst h'; conv => whnf)
      | (refine Br.tt ?_; conv => whnf)
      | (refine Br.ff ?_; conv => whnf)
      | refine Br.not ?_
      | (refine Br.t (beq_self_eq_true _) ?_; conv => whnf)
      | (refine Br.t (by assumption) ?_; conv => whnf)
      | (refine Br.f (by assumption) ?_; conv => whnf)
      | (refine Br.dt (by omega) ?_; conv => whnf)
      | (refine Br.df (by omega) ?_; conv => whnf)
      | (refine Br.it (by omega) ?_; conv => whnf)
      | (refine Br.if (by omega) ?_; conv => whnf)
      | (refine Br.nt (by omega) ?_; conv => whnf)
      | (refine Br.nf (by omega) ?_; conv => whnf)
      | (refine Br.dec (fun hc => ?_) (fun hc => ?_) <;> conv => whnf)
      | (refine Br.ieq (fun hc => ?_) (fun hc => ?_) <;> conv => whnf)
      | (refine Br.ine (fun hc => ?_) (fun hc => ?_) <;> conv => whnf)
      | (refine Br.mk (fun hc => ?_) (fun hc => ?_) <;> conv => whnf)
      | (refine Wr.i64 (by omega) ?_; conv => whnf)
      | (refine Ck.mk (by omega) ?_; conv => whnf)
      | (refine Ck.mk (by simp only [List.length_drop, List.length_take, List.length_append, List.length_cons, List.length_nil]; omega) ?_; conv => whnf)
      | (refine NewG.zeros rfl (fun bt h' hbt hn' => ?_); conv => whnf)
      | (refine NewG.mk (fun bt hbt => ?_); conv => whnf)
      | (refine LoadsG.made (by rfl) ?_; conv => whnf)
      | (refine New.appI (New.upd (by assumption) (by assumption) _) (by first | rfl | (simp; done) | omega | (simp; omega)) (by first | (simp; done) | omega | (simp; omega)) (by decide) (fun b' h' hn' ho' => ?_); conv => whnf)
      | (refine New.loadZ (by assumption) rfl (by first | (simp; done) | omega | (simp only [List.length_set, tab_length]; omega) | (simp; omega)) ?_; conv => whnf)
      | (refine Has.loadZ (by assumption) rfl (by first | (simp; done) | omega | (simp only [List.length_set, tab_length]; omega) | (simp; omega)) ?_; conv => whnf)
      | (refine New.storeZ (by assumption) rfl (by first | (simp; done) | omega | (simp only [List.length_set, tab_length]; omega) | (simp; omega)) (fun h' hn' ho' => ?_); conv => whnf)
      | (refine Own.storeZ (by assumption) rfl (by first | (simp; done) | omega | (simp only [List.length_set, tab_length]; omega) | (simp; omega)) (fun h' hn' ho' => ?_); conv => whnf)
      | (refine Ck.slice (by omega) (by omega) (by omega) (by decide) ?_; conv => whnf)
      | (refine Ck.mk (by simp; omega) ?_; conv => whnf))
    have e0 : (tab ((m : Int) + 2).toNat fun _ => 0).set (Int.toNat 0) 1 = tab (m + 2) (motV 0) := by
      rw [tab_set]
      refine tab_congr fun i hi => ?_
      by_cases e : i = 0
      · subst e; rfl
      · rw [if_neg (by simpa using e)]
        unfold motV
        rw [List.getD_eq_getElem?_getD, List.getElem?_eq_none (by show 1 ≤ i; omega)]
        rfl
    rw [e0] at hn'
    refine AW.loop2 (fun (b j : Nat) => [(0, .int .i64 (m : Int)), (3, .slice b 0 (m + 2) (m + 2)), (14, .int .i64 (m : Int)), (15, .int .i64 (j : Int))]) (fun b j h' => j ≤ m ∧ New h0 h' b (ints (tab (m + 2) (motV j)))) (fun _ j => m - j) bt 0 (Less.cons rfl (Less.cons rfl (Less.cons rfl (Less.cons rfl (Less.nil _)))))
      ⟨by omega, hn'.keep (Keeps.refl _)⟩ ?_
    rintro b j h1 ⟨hj, hb⟩
    repeat' (first
      | refine AW.seq ?_
      | (refine AW.region ?_; conv => whnf)
      | refine AW.block ?_
      | (refine AW.skip ?_; conv => whnf)
      | (refine AW.ret ?_; conv => whnf)
      | (refine AW.exit ?_; conv => whnf)
      | refine AW.cond (by rfl) ?_
      | (refine AW.draw (id := 11) (.p 0 (.p 1 (.p 2 (.p 3 (.p 4 (.p 6 (.p 7 (.p 8 (.p 9 (.r 5 [11, 12, 13] (.r 10 [11, 12, 13] (.p 11 (.p 12 (.all [13] fun _ => .done)))))))))))))) (by kernel_rfl) (by kernel_rfl) ?_; conv => whnf)
      | (refine AW.draw (id := 13) (.p 0 (.p 1 (.p 2 (.p 3 (.p 4 (.p 6 (.p 7 (.p 8 (.p 9 (.r 5 [11, 12, 13] (.r 10 [11, 12, 13] (.p 11 (.p 12 (.all [13] fun _ => .done)))))))))))))) (by kernel_rfl) (by kernel_rfl) ?_; conv => whnf)
      | (refine (within_ok _ _ _ _).mono ?_; rintro v h' ⟨rfl, e'⟩; subst h'; conv => whnf)
      | (refine Br.tt ?_; conv => whnf)
      | (refine Br.ff ?_; conv => whnf)
      | refine Br.not ?_
      | (refine Br.t (beq_self_eq_true _) ?_; conv => whnf)
      | (refine Br.t (by assumption) ?_; conv => whnf)
      | (refine Br.f (by assumption) ?_; conv => whnf)
      | (refine Br.dt (by omega) ?_; conv => whnf)
      | (refine Br.df (by omega) ?_; conv => whnf)
      | (refine Br.it (by omega) ?_; conv => whnf)
      | (refine Br.if (by omega) ?_; conv => whnf)
      | (refine Br.nt (by omega) ?_; conv => whnf)
      | (refine Br.nf (by omega) ?_; conv => whnf)
      | (refine Br.dec (fun hc => ?_) (fun hc => ?_) <;> conv => whnf)
      | (refine Br.ieq (fun hc => ?_) (fun hc => ?_) <;> conv => whnf)
      | (refine Br.ine (fun hc => ?_) (fun hc => ?_) <;> conv => whnf)
      | (refine Br.mk (fun hc => ?_) (fun hc => ?_) <;> conv => whnf)
      | (refine Wr.i64 (by omega) ?_; conv => whnf)
      | (refine Ck.mk (by omega) ?_; conv => whnf)
      | (refine Ck.mk (by simp only [List.length_drop, List.length_take, List.length_append, List.length_cons, List.length_nil]; omega) ?_; conv => whnf)
      | (refine NewG.zeros rfl (fun bt h' hbt hn' => ?_); conv => whnf)
      | (refine NewG.mk (fun bt hbt => ?_); conv => whnf)
      | (refine LoadsG.made (by rfl) ?_; conv => whnf)
      | (refine New.appI (New.upd (by assumption) (by assumption) _) (by first | rfl | (simp; done) | omega | (simp; omega)) (by first | (simp; done) | omega | (simp; omega)) (by decide) (fun b' h' hn' ho' => ?_); conv => whnf)
      | (refine New.loadZ (by assumption) rfl (by first | (simp; done) | omega | (simp only [List.length_set, tab_length]; omega) | (simp; omega)) ?_; conv => whnf)
      | (refine Has.loadZ (by assumption) rfl (by first | (simp; done) | omega | (simp only [List.length_set, tab_length]; omega) | (simp; omega)) ?_; conv => whnf)
      | (refine New.storeZ (by assumption) rfl (by first | (simp; done) | omega | (simp only [List.length_set, tab_length]; omega) | (simp; omega)) (fun h' hn' ho' => ?_); conv => whnf)
      | (refine Own.storeZ (by assumption) rfl (by first | (simp; done) | omega | (simp only [List.length_set, tab_length]; omega) | (simp; omega)) (fun h' hn' ho' => ?_); conv => whnf)
      | (refine Ck.slice (by omega) (by omega) (by omega) (by decide) ?_; conv => whnf)
      | (refine Ck.mk (by simp; omega) ?_; conv => whnf))
    · have hne := hn'.ne hb.has
      refine AW.loop1 (fun (k : Nat) => [(0, .int .i64 (m : Int)), (3, .slice b 0 (m + 2) (m + 2)), (4, .slice bt 0 (m + 2) (m + 2)), (5, .int .i64 (k : Int)), (14, .int .i64 (m : Int)), (15, .int .i64 (j : Int))])
        (fun k h'' => k ≤ m + 1 ∧ New h1 h'' bt (ints (tab (m + 2) fun i => if i < k then motV (j + 1) i else 0))) (fun k => m + 1 - k) 0 (Less.cons rfl (Less.cons rfl (Less.cons rfl (Less.cons rfl (Less.cons rfl (Less.cons rfl (Less.nil _))))))) ⟨by omega, by simp only [Nat.not_lt_zero, if_false]; exact hn'⟩ ?_
      rintro k h'' ⟨hk, hm'⟩
      have hrow := hb.has.keep hm'.keeps
      have g1 : (tab (m + 2) (motV j)).getD (k : Int).toNat 0 = motV j k := tab_getD _ (by omega)
      have g2 : k ≤ m → (tab (m + 2) (motV j)).getD ((k : Int) + 1).toNat 0 = motV j (k + 1) := fun h => (tab_getD _ (by omega)).trans (by congr 1)
      have g3 : k ≤ m → 0 < k → (tab (m + 2) (motV j)).getD ((k : Int) - 1).toNat 0 = motV j (k - 1) := fun h h2 => (tab_getD _ (by omega)).trans (by congr 1; omega)
      have g4 : ∀ x, ((tab (m + 2) fun i => if i < k then motV (j + 1) i else 0).set (k : Int).toNat x).getD (k : Int).toNat 0 = x := fun x => by
        rw [tab_set, tab_getD _ (by omega), if_pos rfl]
      have g5 := g4 ((tab (m + 2) (motV j)).getD (k : Int).toNat 0 + (tab (m + 2) (motV j)).getD ((k : Int) + 1).toNat 0)
      have b1 := motV_bd j k
      have b2 := motV_bd j (k + 1)
      have b3 := motV_bd j (k - 1)
      repeat' (first
        | (refine Has.loadZ (hb.has.keep hn'.keeps) rfl (by first | (simp; done) | omega | (simp; omega)) ?_; conv => whnf)
        | refine AW.seq ?_
        | (refine AW.region ?_; conv => whnf)
        | refine AW.block ?_
        | (refine AW.skip ?_; conv => whnf)
        | (refine AW.ret ?_; conv => whnf)
        | (refine AW.exit ?_; conv => whnf)
        | refine AW.cond (by rfl) ?_
        | (refine AW.draw (id := 11) (.p 0 (.p 1 (.p 2 (.p 3 (.p 4 (.p 6 (.p 7 (.p 8 (.p 9 (.r 5 [11, 12, 13] (.r 10 [11, 12, 13] (.p 11 (.p 12 (.all [13] fun _ => .done)))))))))))))) (by kernel_rfl) (by kernel_rfl) ?_; conv => whnf)
        | (refine AW.draw (id := 13) (.p 0 (.p 1 (.p 2 (.p 3 (.p 4 (.p 6 (.p 7 (.p 8 (.p 9 (.r 5 [11, 12, 13] (.r 10 [11, 12, 13] (.p 11 (.p 12 (.all [13] fun _ => .done)))))))))))))) (by kernel_rfl) (by kernel_rfl) ?_; conv => whnf)
        | (refine (within_ok _ _ _ _).mono ?_; rintro v h' ⟨rfl, e'⟩; subst h'; conv => whnf)
        | (refine Br.tt ?_; conv => whnf)
        | (refine Br.ff ?_; conv => whnf)
        | refine Br.not ?_
        | (refine Br.t (beq_self_eq_true _) ?_; conv => whnf)
        | (refine Br.t (by assumption) ?_; conv => whnf)
        | (refine Br.f (by assumption) ?_; conv => whnf)
        | (refine Br.dt (by omega) ?_; conv => whnf)
        | (refine Br.df (by omega) ?_; conv => whnf)
        | (refine Br.it (by omega) ?_; conv => whnf)
        | (refine Br.if (by omega) ?_; conv => whnf)
        | (refine Br.nt (by omega) ?_; conv => whnf)
        | (refine Br.nf (by omega) ?_; conv => whnf)
        | (refine Br.dec (fun hc => ?_) (fun hc => ?_) <;> conv => whnf)
        | (refine Br.ieq (fun hc => ?_) (fun hc => ?_) <;> conv => whnf)
        | (refine Br.ine (fun hc => ?_) (fun hc => ?_) <;> conv => whnf)
        | (refine Br.mk (fun hc => ?_) (fun hc => ?_) <;> conv => whnf)
        | (refine Wr.i64 (by omega) ?_; conv => whnf)
        | (refine Ck.mk (by omega) ?_; conv => whnf)
        | (refine Ck.mk (by simp only [List.length_drop, List.length_take, List.length_append, List.length_cons, List.length_nil]; omega) ?_; conv => whnf)
        | (refine NewG.zeros rfl (fun bt h' hbt hn' => ?_); conv => whnf)
        | (refine NewG.mk (fun bt hbt => ?_); conv => whnf)
        | (refine LoadsG.made (by rfl) ?_; conv => whnf)
        | (refine New.appI (New.upd (by assumption) (by assumption) _) (by first | rfl | (simp; done) | omega | (simp; omega)) (by first | (simp; done) | omega | (simp; omega)) (by decide) (fun b' h' hn' ho' => ?_); conv => whnf)
        | (refine New.loadZ (by assumption) rfl (by first | (simp; done) | omega | (simp only [List.length_set, tab_length]; omega) | (simp; omega)) ?_; conv => whnf)
        | (refine Has.loadZ (by assumption) rfl (by first | (simp; done) | omega | (simp only [List.length_set, tab_length]; omega) | (simp; omega)) ?_; conv => whnf)
        | (refine New.storeZ (by assumption) rfl (by first | (simp; done) | omega | (simp only [List.length_set, tab_length]; omega) | (simp; omega)) (fun h' hn' ho' => ?_); conv => whnf)
        | (refine Own.storeZ (by assumption) rfl (by first | (simp; done) | omega | (simp only [List.length_set, tab_length]; omega) | (simp; omega)) (fun h' hn' ho' => ?_); conv => whnf)
        | (refine Ck.slice (by omega) (by omega) (by omega) (by decide) ?_; conv => whnf)
        | (refine Ck.mk (by simp; omega) ?_; conv => whnf))
      · have st := motV_step j (by omega) k (by omega)
        rw [if_neg (by omega)] at st
        refine ⟨k + 1, (Less.cons rfl (Less.cons rfl (Less.cons rfl (Less.cons rfl (Less.cons rfl (Less.cons rfl (Less.nil _))))))), ⟨by omega, ?_⟩, by omega⟩
        rw [g5, g1, g2 (by omega), g3 (by omega) (by omega), tab_set, tab_set] at hn'
        refine (tab_congr fun i hi => ?_) ▸ hn'
        simp only [Int.toNat_natCast]
        by_cases e : i = k
        · subst e
          rw [if_pos rfl, if_pos (by omega)]
          omega
        · rw [if_neg e, if_neg e]
          by_cases e2 : i < k
          · rw [if_pos e2, if_pos (by omega)]
          · rw [if_neg e2, if_neg (by omega)]
      · have st := motV_step j (by omega) k (by omega)
        rw [if_pos (by omega)] at st
        refine ⟨k + 1, (Less.cons rfl (Less.cons rfl (Less.cons rfl (Less.cons rfl (Less.cons rfl (Less.cons rfl (Less.nil _))))))), ⟨by omega, ?_⟩, by omega⟩
        rw [g1, g2 (by omega), tab_set] at hn'
        refine (tab_congr fun i hi => ?_) ▸ hn'
        simp only [Int.toNat_natCast]
        by_cases e : i = k
        · subst e
          rw [if_pos rfl, if_pos (by omega)]
          omega
        · rw [if_neg e]
          by_cases e2 : i < k
          · rw [if_pos e2, if_pos (by omega)]
          · rw [if_neg e2, if_neg (by omega)]
      · have e : k = m + 1 := by omega
        subst e
        have e2 : (tab (m + 2) fun i => if i < m + 1 then motV (j + 1) i else 0) = tab (m + 2) (motV (j + 1)) := tab_congr fun i hi => by
          by_cases e : i < m + 1
          · rw [if_pos e]
          · rw [if_neg e]
            exact (motV_zero (j + 1) (by omega) i (by omega) (by omega)).symm
        rw [e2] at hm'
        exact ⟨bt, j + 1, (Less.cons rfl (Less.cons rfl (Less.cons rfl (Less.cons rfl (Less.nil _))))), ⟨by omega, hm'.cells, hb.keeps.none hm'.new, hb.keeps.trans hm'.keeps⟩, by omega⟩
    · have e : j = m := by omega
      subst e
      exact ⟨congrArg _ (tab_getD _ (by simp)), hb.keeps⟩
  · have hm : motN n = -1 := if_neg hr
    rw [hm]
    refine AC.enter Try.func22 Try.call22 rfl Try.ntmps22 (of_decide_eq_true (by rfl)) ?_
    repeat' (first
      | refine AW.seq ?_
      | (refine AW.region ?_; conv => whnf)
      | refine AW.block ?_
      | (refine AW.skip ?_; conv => whnf)
      | (refine AW.ret ?_; conv => whnf)
      | (refine AW.exit ?_; conv => whnf)
      | refine AW.cond (by rfl) ?_
      | (refine AW.draw (id := 11) (.p 0 (.p 1 (.p 2 (.p 3 (.p 4 (.p 6 (.p 7 (.p 8 (.p 9 (.r 5 [11, 12, 13] (.r 10 [11, 12, 13] (.p 11 (.p 12 (.all [13] fun _ => .done)))))))))))))) (by kernel_rfl) (by kernel_rfl) ?_; conv => whnf)
      | (refine AW.draw (id := 13) (.p 0 (.p 1 (.p 2 (.p 3 (.p 4 (.p 6 (.p 7 (.p 8 (.p 9 (.r 5 [11, 12, 13] (.r 10 [11, 12, 13] (.p 11 (.p 12 (.all [13] fun _ => .done)))))))))))))) (by kernel_rfl) (by kernel_rfl) ?_; conv => whnf)
      | (refine (within_ok _ _ _ _).mono ?_; rintro v h' ⟨rfl, e'⟩; subst h'; conv => whnf)
      | (refine Br.tt ?_; conv => whnf)
      | (refine Br.ff ?_; conv => whnf)
      | refine Br.not ?_
      | (refine Br.t (beq_self_eq_true _) ?_; conv => whnf)
      | (refine Br.t (by assumption) ?_; conv => whnf)
      | (refine Br.f (by assumption) ?_; conv => whnf)
      | (refine Br.dt (by omega) ?_; conv => whnf)
      | (refine Br.df (by omega) ?_; conv => whnf)
      | (refine Br.it (by omega) ?_; conv => whnf)
      | (refine Br.if (by omega) ?_; conv => whnf)
      | (refine Br.nt (by omega) ?_; conv => whnf)
      | (refine Br.nf (by omega) ?_; conv => whnf)
      | (refine Br.dec (fun hc => ?_) (fun hc => ?_) <;> conv => whnf)
      | (refine Br.ieq (fun hc => ?_) (fun hc => ?_) <;> conv => whnf)
      | (refine Br.ine (fun hc => ?_) (fun hc => ?_) <;> conv => whnf)
      | (refine Br.mk (fun hc => ?_) (fun hc => ?_) <;> conv => whnf)
      | (refine Wr.i64 (by omega) ?_; conv => whnf)
      | (refine Ck.mk (by omega) ?_; conv => whnf)
      | (refine Ck.mk (by simp only [List.length_drop, List.length_take, List.length_append, List.length_cons, List.length_nil]; omega) ?_; conv => whnf)
      | (refine NewG.zeros rfl (fun bt h' hbt hn' => ?_); conv => whnf)
      | (refine NewG.mk (fun bt hbt => ?_); conv => whnf)
      | (refine LoadsG.made (by rfl) ?_; conv => whnf)
      | (refine New.appI (New.upd (by assumption) (by assumption) _) (by first | rfl | (simp; done) | omega | (simp; omega)) (by first | (simp; done) | omega | (simp; omega)) (by decide) (fun b' h' hn' ho' => ?_); conv => whnf)
      | (refine New.loadZ (by assumption) rfl (by first | (simp; done) | omega | (simp only [List.length_set, tab_length]; omega) | (simp; omega)) ?_; conv => whnf)
      | (refine Has.loadZ (by assumption) rfl (by first | (simp; done) | omega | (simp only [List.length_set, tab_length]; omega) | (simp; omega)) ?_; conv => whnf)
      | (refine New.storeZ (by assumption) rfl (by first | (simp; done) | omega | (simp only [List.length_set, tab_length]; omega) | (simp; omega)) (fun h' hn' ho' => ?_); conv => whnf)
      | (refine Own.storeZ (by assumption) rfl (by first | (simp; done) | omega | (simp only [List.length_set, tab_length]; omega) | (simp; omega)) (fun h' hn' ho' => ?_); conv => whnf)
      | (refine Ck.slice (by omega) (by omega) (by omega) (by decide) ?_; conv => whnf)
      | (refine Ck.mk (by simp; omega) ?_; conv => whnf))
    exact ⟨rfl, Keeps.refl _⟩

theorem sMotzkinNumber_ok (n : Int) (h0 : H) : AC env 21 [.int .i64 n] h0 fun v h' => v = .int .i64 (motN n) ∧ Keeps h0 h' := by
  by_cases hr : 0 ≤ n ∧ n ≤ 20
  · have hm : motN n = motV n.toNat 0 := if_pos hr
    rw [hm]
    obtain ⟨m, rfl⟩ := Int.eq_ofNat_of_zero_le hr.1
    refine AC.enter Try.func21 Try.call21 rfl Try.ntmps21 (of_decide_eq_true (by rfl)) ?_
    repeat' (first
      | refine AW.seq ?_
      | (refine AW.region ?_; conv => whnf)
      | refine AW.block ?_
      | (refine AW.skip ?_; conv => whnf)
      | (refine AW.ret ?_; conv => whnf)
      | (refine AW.exit ?_; conv => whnf)
      | refine AW.cond (by rfl) ?_
      | (refine AW.draw (id := 11) (.p 0 (.p 1 (.p 2 (.p 3 (.p 5 (.p 6 (.p 7 (.p 8 (.p 9 (.p 10 (.r 4 [12, 13, 14] (.r 11 [12, 13, 14] (.p 12 (.p 13 (.p 14 .done))))))))))))))) (by kernel_rfl) (by kernel_rfl) ?_; conv => whnf)
      | (refine (l1In_ok _ _ _ _).mono ?_; rintro v h' ⟨rfl, e'⟩; subst h'; conv => whnf)
      | (refine Br.tt ?_; conv => whnf)
      | (refine Br.ff ?_; conv => whnf)
      | refine Br.not ?_
      | (refine Br.t (beq_self_eq_true _) ?_; conv => whnf)
      | (refine Br.t (by assumption) ?_; conv => whnf)
      | (refine Br.f (by assumption) ?_; conv => whnf)
      | (refine Br.dt (by omega) ?_; conv => whnf)
      | (refine Br.df (by omega) ?_; conv => whnf)
      | (refine Br.it (by omega) ?_; conv => whnf)
      | (refine Br.if (by omega) ?_; conv => whnf)
      | (refine Br.nt (by omega) ?_; conv => whnf)
      | (refine Br.nf (by omega) ?_; conv => whnf)
      | (refine Br.dec (fun hc => ?_) (fun hc => ?_) <;> conv => whnf)
      | (refine Br.ieq (fun hc => ?_) (fun hc => ?_) <;> conv => whnf)
      | (refine Br.ine (fun hc => ?_) (fun hc => ?_) <;> conv => whnf)
      | (refine Br.mk (fun hc => ?_) (fun hc => ?_) <;> conv => whnf)
      | (refine Wr.i64 (by omega) ?_; conv => whnf)
      | (refine Ck.mk (by omega) ?_; conv => whnf)
      | (refine Ck.mk (by simp only [List.length_drop, List.length_take, List.length_append, List.length_cons, List.length_nil]; omega) ?_; conv => whnf)
      | (refine NewG.zeros rfl (fun bt h' hbt hn' => ?_); conv => whnf)
      | (refine NewG.mk (fun bt hbt => ?_); conv => whnf)
      | (refine LoadsG.made (by rfl) ?_; conv => whnf)
      | (refine New.appI (New.upd (by assumption) (by assumption) _) (by first | rfl | (simp; done) | omega | (simp; omega)) (by first | (simp; done) | omega | (simp; omega)) (by decide) (fun b' h' hn' ho' => ?_); conv => whnf)
      | (refine New.loadZ (by assumption) rfl (by first | (simp; done) | omega | (simp only [List.length_set, tab_length]; omega) | (simp; omega)) ?_; conv => whnf)
      | (refine Has.loadZ (by assumption) rfl (by first | (simp; done) | omega | (simp only [List.length_set, tab_length]; omega) | (simp; omega)) ?_; conv => whnf)
      | (refine New.storeZ (by assumption) rfl (by first | (simp; done) | omega | (simp only [List.length_set, tab_length]; omega) | (simp; omega)) (fun h' hn' ho' => ?_); conv => whnf)
      | (refine Own.storeZ (by assumption) rfl (by first | (simp; done) | omega | (simp only [List.length_set, tab_length]; omega) | (simp; omega)) (fun h' hn' ho' => ?_); conv => whnf)
      | (refine Ck.slice (by omega) (by omega) (by omega) (by decide) ?_; conv => whnf)
      | (refine Ck.mk (by simp; omega) ?_; conv => whnf))
    refine AW.loop2 (fun (b j : Nat) => [(0, .int .i64 (m : Int)), (3, .slice b 0 j j), (4, .int .i64 (j : Int))]) (fun b j h' => (1 ≤ j ∧ j ≤ m + 1) ∧ New h0 h' b (ints (tab j fun i => motV i 0))) (fun _ j => m + 1 - j) bt 1 (Less.cons rfl (Less.cons rfl (Less.cons rfl (Less.nil _))))
      ⟨by omega, New.made (Keeps.refl _) hbt rfl⟩ ?_
    rintro b j h' ⟨hj, hb⟩
    have g0 : (tab j fun i => motV i 0).getD ((j : Int) - 1).toNat 0 = motV (j - 1) 0 := (tab_getD _ (by omega)).trans (by congr 1; omega)
    repeat' (first
      | refine AW.seq ?_
      | (refine AW.region ?_; conv => whnf)
      | refine AW.block ?_
      | (refine AW.skip ?_; conv => whnf)
      | (refine AW.ret ?_; conv => whnf)
      | (refine AW.exit ?_; conv => whnf)
      | refine AW.cond (by rfl) ?_
      | (refine AW.draw (id := 11) (.p 0 (.p 1 (.p 2 (.p 3 (.p 5 (.p 6 (.p 7 (.p 8 (.p 9 (.p 10 (.r 4 [12, 13, 14] (.r 11 [12, 13, 14] (.p 12 (.p 13 (.p 14 .done))))))))))))))) (by kernel_rfl) (by kernel_rfl) ?_; conv => whnf)
      | (refine (l1In_ok _ _ _ _).mono ?_; rintro v h' ⟨rfl, e'⟩; subst h'; conv => whnf)
      | (refine Br.tt ?_; conv => whnf)
      | (refine Br.ff ?_; conv => whnf)
      | refine Br.not ?_
      | (refine Br.t (beq_self_eq_true _) ?_; conv => whnf)
      | (refine Br.t (by assumption) ?_; conv => whnf)
      | (refine Br.f (by assumption) ?_; conv => whnf)
      | (refine Br.dt (by omega) ?_; conv => whnf)
      | (refine Br.df (by omega) ?_; conv => whnf)
      | (refine Br.it (by omega) ?_; conv => whnf)
      | (refine Br.if (by omega) ?_; conv => whnf)
      | (refine Br.nt (by omega) ?_; conv => whnf)
      | (refine Br.nf (by omega) ?_; conv => whnf)
      | (refine Br.dec (fun hc => ?_) (fun hc => ?_) <;> conv => whnf)
      | (refine Br.ieq (fun hc => ?_) (fun hc => ?_) <;> conv => whnf)
      | (refine Br.ine (fun hc => ?_) (fun hc => ?_) <;> conv => whnf)
      | (refine Br.mk (fun hc => ?_) (fun hc => ?_) <;> conv => whnf)
      | (refine Wr.i64 (by omega) ?_; conv => whnf)
      | (refine Ck.mk (by omega) ?_; conv => whnf)
      | (refine Ck.mk (by simp only [List.length_drop, List.length_take, List.length_append, List.length_cons, List.length_nil]; omega) ?_; conv => whnf)
      | (refine NewG.zeros rfl (fun bt h' hbt hn' => ?_); conv => whnf)
      | (refine NewG.mk (fun bt hbt => ?_); conv => whnf)
      | (refine LoadsG.made (by rfl) ?_; conv => whnf)
      | (refine New.appI (New.upd (by assumption) (by assumption) _) (by first | rfl | (simp; done) | omega | (simp; omega)) (by first | (simp; done) | omega | (simp; omega)) (by decide) (fun b' h' hn' ho' => ?_); conv => whnf)
      | (refine New.loadZ (by assumption) rfl (by first | (simp; done) | omega | (simp only [List.length_set, tab_length]; omega) | (simp; omega)) ?_; conv => whnf)
      | (refine Has.loadZ (by assumption) rfl (by first | (simp; done) | omega | (simp only [List.length_set, tab_length]; omega) | (simp; omega)) ?_; conv => whnf)
      | (refine New.storeZ (by assumption) rfl (by first | (simp; done) | omega | (simp only [List.length_set, tab_length]; omega) | (simp; omega)) (fun h' hn' ho' => ?_); conv => whnf)
      | (refine Own.storeZ (by assumption) rfl (by first | (simp; done) | omega | (simp only [List.length_set, tab_length]; omega) | (simp; omega)) (fun h' hn' ho' => ?_); conv => whnf)
      | (refine Ck.slice (by omega) (by omega) (by omega) (by decide) ?_; conv => whnf)
      | (refine Ck.mk (by simp; omega) ?_; conv => whnf))
    · refine AW.loop2 (fun (x : Int) (k : Nat) => [(0, .int .i64 (m : Int)), (3, .slice b 0 j j), (4, .int .i64 (j : Int)), (5, .int .i64 x), (6, .int .i64 (k : Int))]) (fun x k h'' => k < j ∧ x = motS j k ∧ h'' = h') (fun _ k => j - k) _ 0 (Less.cons rfl (Less.cons rfl (Less.cons rfl (Less.cons rfl (Less.cons rfl (Less.nil _))))))
        ⟨by omega, g0, rfl⟩ ?_
      rintro x k h'' ⟨hk, rfl, rfl⟩
      have g1 : (tab j fun i => motV i 0).getD (k : Int).toNat 0 = motV k 0 := tab_getD _ (by omega)
      have g2 : k + 2 ≤ j → (tab j fun i => motV i 0).getD ((j : Int) - 2 - k).toNat 0 = motV (j - 2 - k) 0 := fun h => (tab_getD _ (by omega)).trans (by congr 1; omega)
      have g3 : k + 2 ≤ j → (tab j fun i => motV i 0).getD (k : Int).toNat 0 * (tab j fun i => motV i 0).getD ((j : Int) - 2 - k).toNat 0 = motV k 0 * motV (j - 2 - k) 0 := fun h => by rw [g1, g2 h]
      have g4 := motP_bd j (by omega) k hk
      have g5 := motS_bd j (by omega) (by omega) k hk
      have g6 : motS j (k + 1) = motS j k + motV k 0 * motV (j - 2 - k) 0 := rfl
      repeat' (first
        | refine AW.seq ?_
        | (refine AW.region ?_; conv => whnf)
        | refine AW.block ?_
        | (refine AW.skip ?_; conv => whnf)
        | (refine AW.ret ?_; conv => whnf)
        | (refine AW.exit ?_; conv => whnf)
        | refine AW.cond (by rfl) ?_
        | (refine AW.draw (id := 11) (.p 0 (.p 1 (.p 2 (.p 3 (.p 5 (.p 6 (.p 7 (.p 8 (.p 9 (.p 10 (.r 4 [12, 13, 14] (.r 11 [12, 13, 14] (.p 12 (.p 13 (.p 14 .done))))))))))))))) (by kernel_rfl) (by kernel_rfl) ?_; conv => whnf)
        | (refine (l1In_ok _ _ _ _).mono ?_; rintro v h' ⟨rfl, e'⟩; subst h'; conv => whnf)
        | (refine Br.tt ?_; conv => whnf)
        | (refine Br.ff ?_; conv => whnf)
        | refine Br.not ?_
        | (refine Br.t (beq_self_eq_true _) ?_; conv => whnf)
        | (refine Br.t (by assumption) ?_; conv => whnf)
        | (refine Br.f (by assumption) ?_; conv => whnf)
        | (refine Br.dt (by omega) ?_; conv => whnf)
        | (refine Br.df (by omega) ?_; conv => whnf)
        | (refine Br.it (by omega) ?_; conv => whnf)
        | (refine Br.if (by omega) ?_; conv => whnf)
        | (refine Br.nt (by omega) ?_; conv => whnf)
        | (refine Br.nf (by omega) ?_; conv => whnf)
        | (refine Br.dec (fun hc => ?_) (fun hc => ?_) <;> conv => whnf)
        | (refine Br.ieq (fun hc => ?_) (fun hc => ?_) <;> conv => whnf)
        | (refine Br.ine (fun hc => ?_) (fun hc => ?_) <;> conv => whnf)
        | (refine Br.mk (fun hc => ?_) (fun hc => ?_) <;> conv => whnf)
        | (refine Wr.i64 (by omega) ?_; conv => whnf)
        | (refine Ck.mk (by omega) ?_; conv => whnf)
        | (refine Ck.mk (by simp only [List.length_drop, List.length_take, List.length_append, List.length_cons, List.length_nil]; omega) ?_; conv => whnf)
        | (refine NewG.zeros rfl (fun bt h' hbt hn' => ?_); conv => whnf)
        | (refine NewG.mk (fun bt hbt => ?_); conv => whnf)
        | (refine LoadsG.made (by rfl) ?_; conv => whnf)
        | (refine New.appI (New.upd (by assumption) (by assumption) _) (by first | rfl | (simp; done) | omega | (simp; omega)) (by first | (simp; done) | omega | (simp; omega)) (by decide) (fun b' h' hn' ho' => ?_); conv => whnf)
        | (refine New.loadZ (by assumption) rfl (by first | (simp; done) | omega | (simp only [List.length_set, tab_length]; omega) | (simp; omega)) ?_; conv => whnf)
        | (refine Has.loadZ (by assumption) rfl (by first | (simp; done) | omega | (simp only [List.length_set, tab_length]; omega) | (simp; omega)) ?_; conv => whnf)
        | (refine New.storeZ (by assumption) rfl (by first | (simp; done) | omega | (simp only [List.length_set, tab_length]; omega) | (simp; omega)) (fun h' hn' ho' => ?_); conv => whnf)
        | (refine Own.storeZ (by assumption) rfl (by first | (simp; done) | omega | (simp only [List.length_set, tab_length]; omega) | (simp; omega)) (fun h' hn' ho' => ?_); conv => whnf)
        | (refine Ck.slice (by omega) (by omega) (by omega) (by decide) ?_; conv => whnf)
        | (refine Ck.mk (by simp; omega) ?_; conv => whnf))
      · exact ⟨_, k + 1, (Less.cons rfl (Less.cons rfl (Less.cons rfl (Less.cons rfl (Less.cons rfl (Less.nil _)))))), ⟨by omega, by omega, rfl⟩, by omega⟩
      · have e : k = j - 1 := by omega
        have e2 := motS_end j (by omega) (by omega)
        refine ⟨b', j + 1, (Less.cons rfl (Less.cons rfl (Less.cons rfl (Less.nil _)))), ⟨by omega, ?_⟩, by omega⟩
        rw [e, e2] at hn'
        rw [tab_succ]
        exact hn'
    · have e : j = m + 1 := by omega
      subst e
      exact ⟨congrArg _ (tab_getD _ (by omega)), hb.keeps⟩
  · have hm : motN n = -1 := if_neg hr
    rw [hm]
    refine AC.enter Try.func21 Try.call21 rfl Try.ntmps21 (of_decide_eq_true (by rfl)) ?_
    repeat' (first
      | refine AW.seq ?_
      | (refine AW.region ?_; conv => whnf)
      | refine AW.block ?_
      | (refine AW.skip ?_; conv => whnf)
      | (refine AW.ret ?_; conv => whnf)
      | (refine AW.exit ?_; conv => whnf)
      | refine AW.cond (by rfl) ?_
      | (refine AW.draw (id := 11) (.p 0 (.p 1 (.p 2 (.p 3 (.p 5 (.p 6 (.p 7 (.p 8 (.p 9 (.p 10 (.r 4 [12, 13, 14] (.r 11 [12, 13, 14] (.p 12 (.p 13 (.p 14 .done))))))))))))))) (by kernel_rfl) (by kernel_rfl) ?_; conv => whnf)
      | (refine (l1In_ok _ _ _ _).mono ?_; rintro v h' ⟨rfl, e'⟩; subst h'; conv => whnf)
      | (refine Br.tt ?_; conv => whnf)
      | (refine Br.ff ?_; conv => whnf)
      | refine Br.not ?_
      | (refine Br.t (beq_self_eq_true _) ?_; conv => whnf)
      | (refine Br.t (by assumption) ?_; conv => whnf)
      | (refine Br.f (by assumption) ?_; conv => whnf)
      | (refine Br.dt (by omega) ?_; conv => whnf)
      | (refine Br.df (by omega) ?_; conv => whnf)
      | (refine Br.it (by omega) ?_; conv => whnf)
      | (refine Br.if (by omega) ?_; conv => whnf)
      | (refine Br.nt (by omega) ?_; conv => whnf)
      | (refine Br.nf (by omega) ?_; conv => whnf)
      | (refine Br.dec (fun hc => ?_) (fun hc => ?_) <;> conv => whnf)
      | (refine Br.ieq (fun hc => ?_) (fun hc => ?_) <;> conv => whnf)
      | (refine Br.ine (fun hc => ?_) (fun hc => ?_) <;> conv => whnf)
      | (refine Br.mk (fun hc => ?_) (fun hc => ?_) <;> conv => whnf)
      | (refine Wr.i64 (by omega) ?_; conv => whnf)
      | (refine Ck.mk (by omega) ?_; conv => whnf)
      | (refine Ck.mk (by simp only [List.length_drop, List.length_take, List.length_append, List.length_cons, List.length_nil]; omega) ?_; conv => whnf)
      | (refine NewG.zeros rfl (fun bt h' hbt hn' => ?_); conv => whnf)
      | (refine NewG.mk (fun bt hbt => ?_); conv => whnf)
      | (refine LoadsG.made (by rfl) ?_; conv => whnf)
      | (refine New.appI (New.upd (by assumption) (by assumption) _) (by first | rfl | (simp; done) | omega | (simp; omega)) (by first | (simp; done) | omega | (simp; omega)) (by decide) (fun b' h' hn' ho' => ?_); conv => whnf)
      | (refine New.loadZ (by assumption) rfl (by first | (simp; done) | omega | (simp only [List.length_set, tab_length]; omega) | (simp; omega)) ?_; conv => whnf)
      | (refine Has.loadZ (by assumption) rfl (by first | (simp; done) | omega | (simp only [List.length_set, tab_length]; omega) | (simp; omega)) ?_; conv => whnf)
      | (refine New.storeZ (by assumption) rfl (by first | (simp; done) | omega | (simp only [List.length_set, tab_length]; omega) | (simp; omega)) (fun h' hn' ho' => ?_); conv => whnf)
      | (refine Own.storeZ (by assumption) rfl (by first | (simp; done) | omega | (simp only [List.length_set, tab_length]; omega) | (simp; omega)) (fun h' hn' ho' => ?_); conv => whnf)
      | (refine Ck.slice (by omega) (by omega) (by omega) (by decide) ?_; conv => whnf)
      | (refine Ck.mk (by simp; omega) ?_; conv => whnf))
    exact ⟨rfl, Keeps.refl _⟩

theorem lawMotzkinNumber_ok (n : Int) (hn : -9223372036854775808 ≤ n ∧ n ≤ 9223372036854775807) (h : H) : AC env 6 [.int .i64 n] h fun v _ => v = .bool true := by
  refine AC.enter Try.func6 Try.call6 rfl Try.ntmps6 (of_decide_eq_true (by rfl)) ?_
  repeat' (first
    | refine AW.seq ?_
    | (refine AW.region ?_; conv => whnf)
    | refine AW.block ?_
    | (refine AW.skip ?_; conv => whnf)
    | (refine AW.ret ?_; conv => whnf)
    | (refine AW.exit ?_; conv => whnf)
    | refine AW.cond (by rfl) ?_
    | (refine (sMotzkinNumber_ok _ _).mono ?_; rintro v h' ⟨rfl, hk'⟩; conv => whnf)
    | (refine (iMotzkinNumber_ok _ _).mono ?_; rintro v h' ⟨rfl, hk'⟩; conv => whnf)
    | (refine Br.tt ?_; conv => whnf)
    | (refine Br.ff ?_; conv => whnf)
    | refine Br.not ?_
    | (refine Br.t (beq_self_eq_true _) ?_; conv => whnf)
    | (refine Br.t (by assumption) ?_; conv => whnf)
    | (refine Br.f (by assumption) ?_; conv => whnf)
    | (refine Br.dt (by omega) ?_; conv => whnf)
    | (refine Br.df (by omega) ?_; conv => whnf)
    | (refine Br.it (by omega) ?_; conv => whnf)
    | (refine Br.if (by omega) ?_; conv => whnf)
    | (refine Br.nt (by omega) ?_; conv => whnf)
    | (refine Br.nf (by omega) ?_; conv => whnf)
    | (refine Br.dec (fun hc => ?_) (fun hc => ?_) <;> conv => whnf)
    | (refine Br.ieq (fun hc => ?_) (fun hc => ?_) <;> conv => whnf)
    | (refine Br.ine (fun hc => ?_) (fun hc => ?_) <;> conv => whnf)
    | (refine Br.mk (fun hc => ?_) (fun hc => ?_) <;> conv => whnf)
    | (refine Wr.i64 (by omega) ?_; conv => whnf)
    | (refine Ck.mk (by omega) ?_; conv => whnf)
    | (refine Ck.mk (by simp only [List.length_drop, List.length_take, List.length_append, List.length_cons, List.length_nil]; omega) ?_; conv => whnf)
    | (refine NewG.zeros rfl (fun bt h' hbt hn' => ?_); conv => whnf)
    | (refine NewG.mk (fun bt hbt => ?_); conv => whnf)
    | (refine LoadsG.made (by rfl) ?_; conv => whnf)
    | (refine New.appI (New.upd (by assumption) (by assumption) _) (by first | rfl | (simp; done) | omega | (simp; omega)) (by first | (simp; done) | omega | (simp; omega)) (by decide) (fun b' h' hn' ho' => ?_); conv => whnf)
    | (refine New.loadZ (by assumption) rfl (by first | (simp; done) | omega | (simp only [List.length_set, tab_length]; omega) | (simp; omega)) ?_; conv => whnf)
    | (refine Has.loadZ (by assumption) rfl (by first | (simp; done) | omega | (simp only [List.length_set, tab_length]; omega) | (simp; omega)) ?_; conv => whnf)
    | (refine New.storeZ (by assumption) rfl (by first | (simp; done) | omega | (simp only [List.length_set, tab_length]; omega) | (simp; omega)) (fun h' hn' ho' => ?_); conv => whnf)
    | (refine Own.storeZ (by assumption) rfl (by first | (simp; done) | omega | (simp only [List.length_set, tab_length]; omega) | (simp; omega)) (fun h' hn' ho' => ?_); conv => whnf)
    | (refine Ck.slice (by omega) (by omega) (by omega) (by decide) ?_; conv => whnf)
    | (refine Ck.mk (by simp; omega) ?_; conv => whnf))
  all_goals rfl

end Go.Proofs.Ytcnbmghfmicfnaa
