/-
  Contracts of the diagrams of the identity and of hooks are proved.
  They hold for all arguments.
-/
import Derived.Test.YtdfdlnjijccpeaaC6
set_option linter.unusedVariables false
set_option linter.unusedSimpArgs false
namespace Go.Proofs.Ytdfdlnjijccpeaa
open Go.Proofs.Ytdfdlnjijccpeaa.Ab Go.Proofs.Ytdfdlnjijccpeaa.Pl

/-- a row of numbers and whether there is one -/
def RetI (p : List Int × Bool) (h0 : H) (v : AV) (h' : H) : Prop := ∃ b, v = .tup [.slice b 0 p.1.length p.1.length, .bool p.2] ∧ New h0 h' b (ints p.1)

theorem RetI.mk' {p : List Int × Bool} {h0 h' : H} {b n : Nat} {l : List Int} {t : Bool} (e : p = (l, t)) (hn : n = l.length) (m : New h0 h' b (ints l)) : RetI p h0 (.tup [.slice b 0 n n, .bool t]) h' := by
  subst e hn
  exact ⟨b, rfl, m⟩

/-- the diagram that joins each point with the one below -/
def idD (n : Nat) : List Int := tab (2 * n) fun i => 2 * n - 1 - i
def idDI (n : Int) : List Int × Bool := if 1 ≤ n ∧ n ≤ 8 then (idD n.toNat, true) else ([], false)

theorem upright_ok (n : Nat) (hn : n ≤ 1000) (h0 : H) : AC env 102 [.int .i64 n] h0 fun v h' => ∃ b, v = .slice b 0 (2 * n) (2 * n) ∧ New h0 h' b (ints (idD n)) := by
  refine AC.enter Try.func102 Try.call102 rfl Try.ntmps102 (of_decide_eq_true (by rfl)) ?_
  repeat' (first
    | refine AW.seq ?_
    | (refine AW.region ?_; conv => whnf)
    | refine AW.block ?_
    | (refine Wr.i64 (by omega) ?_; conv => whnf)
    | (refine NewG.zeros rfl (fun bt h' hbt hn' => ?_); conv => whnf)
    | (refine Ck.slice (by omega) (by omega) (by omega) (by decide) ?_; conv => whnf))
  refine AW.loop1 (fun (k : Nat) => [(0, .int .i64 n), (3, .slice bt 0 (2 * n) (2 * n)), (9, .int .i64 ((2 * n : Nat) : Int)), (10, .int .i64 k)]) (fun k h' => k ≤ 2 * n ∧ New h0 h' bt (ints (tab (2 * n) fun i => if i < k then 2 * n - 1 - i else 0))) (fun k => 2 * n - k) 0 (Less.cons rfl (Less.cons rfl (Less.cons rfl (Less.cons rfl (Less.nil _)))))
    ⟨by omega, by simp only [Nat.not_lt_zero, if_false]; exact hn'⟩ ?_
  rintro k h' ⟨hk, hm⟩
  repeat' (first
    | refine AW.seq ?_
    | (refine AW.region ?_; conv => whnf)
    | refine AW.block ?_
    | (refine AW.skip ?_; conv => whnf)
    | (refine AW.ret ?_; conv => whnf)
    | (refine AW.exit ?_; conv => whnf)
    | refine AW.cond (by rfl) ?_
    | (refine Br.dec (fun hc => ?_) (fun hc => ?_) <;> conv => whnf)
    | (refine Wr.i64 (by omega) ?_; conv => whnf)
    | (refine Ck.mk (by omega) ?_; conv => whnf)
    | (refine New.storeZ (by assumption) rfl (by first | (simp; done) | omega | (simp only [List.length_set, tab_length]; omega) | (simp; omega)) (fun h' hn' ho' => ?_); conv => whnf))
  · refine ⟨k + 1, (Less.cons rfl (Less.cons rfl (Less.cons rfl (Less.cons rfl (Less.nil _))))), ⟨by omega, ?_⟩, by omega⟩
    rw [tab_set] at hn'
    refine (tab_congr fun i hi => ?_) ▸ hn'
    simp only [Int.toNat_natCast]
    split <;> split <;> (try split) <;> omega
  · have e : k = 2 * n := by omega
    subst e
    refine ⟨bt, rfl, ?_⟩
    rw [show idD n = _ from tab_congr fun i hi => (if_pos hi).symm]
    exact hm

theorem sIdentityDiagram_ok (n : Int) (h0 : H) : AC env 17 [.int .i64 n] h0 (RetI (idDI n) h0) := by
  refine AC.enter Try.func17 Try.call17 rfl Try.ntmps17 (of_decide_eq_true (by rfl)) ?_
  repeat' (first
    | refine AW.seq ?_
    | (refine AW.region ?_; conv => whnf)
    | refine AW.block ?_
    | (refine AW.skip ?_; conv => whnf)
    | (refine AW.ret ?_; conv => whnf)
    | refine AW.cond (by rfl) ?_
    | (refine (l1In_ok _ _ _ _).mono ?_; rintro v h' ⟨rfl, e'⟩; subst h'; conv => whnf)
    | refine Br.not ?_
    | (refine Br.dec (fun hc => ?_) (fun hc => ?_) <;> conv => whnf)
    | (refine NewG.mk (fun bt hbt => ?_); conv => whnf))
  rotate_left
  · exact RetI.mk' (if_neg hc) rfl (New.make (Keeps.refl _) hbt)
  have hr := hc
  obtain ⟨m, rfl⟩ := Int.eq_ofNat_of_zero_le (show 0 ≤ n by omega)
  refine AW.loop2 (fun (b k : Nat) => [(0, .int .i64 (m : Int)), (4, .slice b 0 k k), (5, .int .i64 k)]) (fun b k h' => k ≤ 2 * m ∧ New h0 h' b (ints (tab k fun i => 2 * m - 1 - i))) (fun _ k => 2 * m - k) bt 0 (Less.cons rfl (Less.cons rfl (Less.cons rfl (Less.nil _))))
    ⟨by omega, New.make (Keeps.refl _) hbt⟩ ?_
  rintro b k h' ⟨hk, hm⟩
  repeat' (first
    | refine AW.seq ?_
    | (refine AW.region ?_; conv => whnf)
    | refine AW.block ?_
    | (refine AW.skip ?_; conv => whnf)
    | (refine AW.ret ?_; conv => whnf)
    | (refine AW.exit ?_; conv => whnf)
    | refine AW.cond (by rfl) ?_
    | (refine Br.dec (fun hc => ?_) (fun hc => ?_) <;> conv => whnf)
    | (refine Wr.i64 (by omega) ?_; conv => whnf)
    | (refine NewG.mk (fun bt hbt => ?_); conv => whnf)
    | (refine LoadsG.made (by rfl) ?_; conv => whnf)
    | (refine New.appI (New.upd (by assumption) (by assumption) _) (by first | rfl | (simp; done) | omega | (simp; omega)) (by first | (simp; done) | omega | (simp; omega)) (by decide) (fun b' h' hn' ho' => ?_); conv => whnf))
  · refine ⟨b', k + 1, (Less.cons rfl (Less.cons rfl (Less.cons rfl (Less.nil _)))), ⟨by omega, ?_⟩, by omega⟩
    rw [tab_succ]
    exact hn'
  · have e : k = 2 * m := by omega
    subst e
    exact RetI.mk' (if_pos hr) (tab_length _ _).symm hm

theorem iIdentityDiagram_ok (n : Int) (h0 : H) : AC env 31 [.int .i64 n] h0 (RetI (idDI n) h0) := by
  by_cases hr : 1 ≤ n ∧ n ≤ 8
  · obtain ⟨m, rfl⟩ := Int.eq_ofNat_of_zero_le (show 0 ≤ n by omega)
    refine AC.enter Try.func31 Try.call31 rfl Try.ntmps31 (of_decide_eq_true (by rfl)) ?_
    repeat' (first
      | refine AW.seq ?_
      | (refine AW.region ?_; conv => whnf)
      | (refine AW.skip ?_; conv => whnf)
      | (refine AW.ret ?_; conv => whnf)
      | refine AW.cond (by rfl) ?_
      | (refine (within_ok _ _ _ _).mono ?_; rintro v h' ⟨rfl, e'⟩; subst h'; conv => whnf)
      | (refine (upright_ok _ (by first | omega | (simp only [List.length_drop, List.length_take, List.length_append, List.length_cons, List.length_nil]; omega)) _).mono ?_; rintro v h' ⟨b, rfl, hn⟩; conv => whnf)
      | refine Br.not ?_
      | (refine Br.dt (by omega) ?_; conv => whnf))
    exact RetI.mk' (if_pos hr) (by simp [idD]) hn
  · refine AC.enter Try.func31 Try.call31 rfl Try.ntmps31 (of_decide_eq_true (by rfl)) ?_
    repeat' (first
      | refine AW.seq ?_
      | (refine AW.region ?_; conv => whnf)
      | (refine AW.ret ?_; conv => whnf)
      | refine AW.cond (by rfl) ?_
      | (refine (within_ok _ _ _ _).mono ?_; rintro v h' ⟨rfl, e'⟩; subst h'; conv => whnf)
      | refine Br.not ?_
      | (refine Br.df (by omega) ?_; conv => whnf)
      | (refine NewG.mk (fun bt hbt => ?_); conv => whnf))
    exact RetI.mk' (if_neg hr) rfl (New.make (Keeps.refl _) hbt)

theorem idDI_len (n : Int) : (idDI n).1.length ≤ 1000 := by
  unfold idDI
  split
  · simp [idD]
    omega
  · simp


/-- the diagram with one hook above and one below -/
def hookD (n i : Nat) : List Int := ((((idD n).set i (i + 1)).set (i + 1) i).set (2 * n - 1 - i) (2 * n - 2 - i)).set (2 * n - 2 - i) (2 * n - 1 - i)
def hookDI (n i : Int) : List Int × Bool := if (1 ≤ n ∧ n ≤ 8) ∧ 0 ≤ i ∧ i ≤ n - 2 then (hookD n.toNat i.toNat, true) else ([], false)

theorem hookDI_len (n i : Int) : (hookDI n i).1.length ≤ 1000 := by
  unfold hookDI
  split
  · simp [hookD, idD]
    omega
  · simp

theorem iHookDiagram_ok (n i : Int) (hn : -9223372036854775808 ≤ n ∧ n ≤ 9223372036854775807) (h0 : H) : AC env 24 [.int .i64 n, .int .i64 i] h0 (RetI (hookDI n i) h0) := by
  by_cases hr : (1 ≤ n ∧ n ≤ 8) ∧ 0 ≤ i ∧ i ≤ n - 2
  · obtain ⟨m, rfl⟩ := Int.eq_ofNat_of_zero_le (show 0 ≤ n by omega)
    obtain ⟨j, rfl⟩ := Int.eq_ofNat_of_zero_le (show 0 ≤ i by omega)
    have g1 : (idD m).getD (j : Int).toNat 0 = 2 * m - 1 - j := tab_getD _ (by simp; omega)
    have g2 : (idD m).getD ((j : Int) + 1).toNat 0 = 2 * m - 2 - j := (tab_getD _ (by omega)).trans (by omega)
    have g3 : (idD m).length = 2 * m := tab_length _ _
    refine AC.enter Try.func24 Try.call24 rfl Try.ntmps24 (of_decide_eq_true (by rfl)) ?_
    repeat' (first
      | refine AW.seq ?_
      | (refine AW.region ?_; conv => whnf)
      | (refine AW.skip ?_; conv => whnf)
      | (refine AW.ret ?_; conv => whnf)
      | refine AW.cond (by rfl) ?_
      | (refine AW.draw (id := 4) (.p 0 (.p 1 (.p 2 (.p 4 (.p 5 (.p 6 (.p 7 (.r 3 [9, 10] (.p 9 (.r 8 [10] (.p 10 .done))))))))))) (by kernel_rfl) (by kernel_rfl) ?_; conv => whnf)
      | (refine (within_ok _ _ _ _).mono ?_; rintro v h' ⟨rfl, e'⟩; subst h'; conv => whnf)
      | (refine (upright_ok _ (by first | omega | (simp only [List.length_drop, List.length_take, List.length_append, List.length_cons, List.length_nil]; omega)) _).mono ?_; rintro v h' ⟨b, rfl, hn⟩; conv => whnf)
      | refine Br.not ?_
      | (refine Br.dt (by omega) ?_; conv => whnf)
      | (refine Wr.i64 (by omega) ?_; conv => whnf)
      | (refine Ck.mk (by omega) ?_; conv => whnf)
      | (refine New.loadZ (by assumption) rfl (by first | (simp; done) | omega | (simp only [List.length_set, tab_length]; omega) | (simp; omega)) ?_; conv => whnf)
      | (refine New.storeZ (by assumption) rfl (by first | (simp; done) | omega | (simp only [List.length_set, tab_length]; omega) | (simp; omega)) (fun h' hn' ho' => ?_); conv => whnf))
    refine RetI.mk' (if_pos hr) (by simp [hookD, idD]) ?_
    have e : hookD (m : Int).toNat (j : Int).toNat = ((((idD m).set (j : Int).toNat (j + 1)).set ((j : Int) + 1).toNat j).set ((idD m).getD (j : Int).toNat 0).toNat ((idD m).getD ((j : Int) + 1).toNat 0)).set ((idD m).getD ((j : Int) + 1).toNat 0).toNat ((idD m).getD (j : Int).toNat 0) := by
      rw [g1, g2]
      unfold hookD
      congr 2
      all_goals first | omega | (congr 1 <;> omega)
    rw [e]
    exact hn'
  · refine AC.enter Try.func24 Try.call24 rfl Try.ntmps24 (of_decide_eq_true (by rfl)) ?_
    repeat' (first
      | refine AW.seq ?_
      | (refine AW.region ?_; conv => whnf)
      | (refine AW.ret ?_; conv => whnf)
      | refine AW.cond (by rfl) ?_
      | (refine (within_ok _ _ _ _).mono ?_; rintro v h' ⟨rfl, e'⟩; subst h'; conv => whnf)
      | (refine Br.tt ?_; conv => whnf)
      | refine Br.not ?_
      | (refine Br.dt (by omega) ?_; conv => whnf)
      | (refine Br.df (by omega) ?_; conv => whnf)
      | (refine Br.dec (fun hc => ?_) (fun hc => ?_) <;> conv => whnf)
      | (refine Wr.i64 (by omega) ?_; conv => whnf)
      | (refine NewG.mk (fun bt hbt => ?_); conv => whnf))
    all_goals exact RetI.mk' (if_neg hr) rfl (New.make (Keeps.refl _) hbt)

theorem sHookDiagram_ok (n i : Int) (hn : -9223372036854775808 ≤ n ∧ n ≤ 9223372036854775807) (h0 : H) : AC env 25 [.int .i64 n, .int .i64 i] h0 (RetI (hookDI n i) h0) := by
  have cI := sIdentityDiagram_ok n h0
  by_cases hr1 : 1 ≤ n ∧ n ≤ 8
  · rw [show idDI n = (idD n.toNat, true) from if_pos hr1] at cI
    refine AC.enter Try.func25 Try.call25 rfl Try.ntmps25 (of_decide_eq_true (by rfl)) ?_
    repeat' (first
      | refine AW.seq ?_
      | (refine AW.region ?_; conv => whnf))
    refine cI.mono ?_
    rintro v h1 ⟨b, rfl, hm⟩
    conv => whnf
    by_cases hr : 0 ≤ i ∧ i ≤ n - 2
    · obtain ⟨m, rfl⟩ := Int.eq_ofNat_of_zero_le (show 0 ≤ n by omega)
      obtain ⟨j, rfl⟩ := Int.eq_ofNat_of_zero_le (show 0 ≤ i by omega)
      have hm : New h0 h1 b (ints (idD m)) := hm
      have g3 : (idD m).length = 2 * m := tab_length _ _
      repeat' (first
        | refine AW.seq ?_
        | (refine AW.region ?_; conv => whnf)
        | (refine AW.skip ?_; conv => whnf)
        | (refine AW.ret ?_; conv => whnf)
        | refine AW.cond (by rfl) ?_
        | (refine (l1In_ok _ _ _ _).mono ?_; rintro v h' ⟨rfl, e'⟩; subst h'; conv => whnf)
        | (refine Br.ff ?_; conv => whnf)
        | refine Br.not ?_
        | (refine Br.dt (by omega) ?_; conv => whnf)
        | (refine Wr.i64 (by omega) ?_; conv => whnf)
        | (refine New.storeZ (by assumption) rfl (by first | (simp; done) | omega | (simp only [List.length_set, tab_length]; omega) | (simp; omega)) (fun h' hn' ho' => ?_); conv => whnf)
        | (refine Ck.mk (by simp; omega) ?_; conv => whnf))
      refine RetI.mk' (if_pos ⟨hr1, hr⟩) (by simp [hookD, idD]) ?_
      have e : hookD (m : Int).toNat (j : Int).toNat = ((((idD m).set (j : Int).toNat (j + 1)).set ((j : Int) + 1).toNat j).set (2 * (m : Int) - 1 - j).toNat (2 * m - 1 - j - 1)).set (2 * (m : Int) - 1 - j - 1).toNat (2 * m - 1 - j) := by
        unfold hookD
        congr 2
        all_goals first | omega | (congr 1 <;> omega)
      rw [e]
      exact hn'
    · repeat' (first
        | refine AW.seq ?_
        | (refine AW.region ?_; conv => whnf)
        | (refine AW.ret ?_; conv => whnf)
        | refine AW.cond (by rfl) ?_
        | (refine (l1In_ok _ _ _ _).mono ?_; rintro v h' ⟨rfl, e'⟩; subst h'; conv => whnf)
        | (refine Br.ff ?_; conv => whnf)
        | refine Br.not ?_
        | (refine Br.df (by omega) ?_; conv => whnf)
        | (refine Wr.i64 (by omega) ?_; conv => whnf)
        | (refine NewG.mk (fun bt hbt => ?_); conv => whnf))
      exact RetI.mk' (if_neg fun h => hr h.2) rfl (New.make hm.keeps hbt)
  · rw [show idDI n = ([], false) from if_neg hr1] at cI
    refine AC.enter Try.func25 Try.call25 rfl Try.ntmps25 (of_decide_eq_true (by rfl)) ?_
    repeat' (first
      | refine AW.seq ?_
      | (refine AW.region ?_; conv => whnf))
    refine cI.mono ?_
    rintro v h1 ⟨b, rfl, hm⟩
    conv => whnf
    repeat' (first
      | refine AW.seq ?_
      | (refine AW.region ?_; conv => whnf)
      | (refine AW.ret ?_; conv => whnf)
      | refine AW.cond (by rfl) ?_
      | (refine Br.tt ?_; conv => whnf)
      | (refine NewG.mk (fun bt hbt => ?_); conv => whnf))
    exact RetI.mk' (if_neg fun h => hr1 h.1) rfl (New.make hm.keeps hbt)


end Go.Proofs.Ytdfdlnjijccpeaa
