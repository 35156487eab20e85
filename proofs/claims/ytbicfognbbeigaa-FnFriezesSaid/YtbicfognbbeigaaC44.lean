/-
  Contracts of triangulations by their quiddities are proved.
  They hold for all rows of numbers.
-/
import Derived.Test.YtbicfognbbeigaaH9
import Derived.Test.YtbicfognbbeigaaH12
set_option linter.unusedVariables false
set_option linter.unusedSimpArgs false
namespace Go.Proofs.Ytbicfognbbeigaa
open Go.Proofs.Ytbicfognbbeigaa.Ab Go.Proofs.Ytbicfognbbeigaa.Pl

def triQ (q : List Int) : List (List Int) × Bool := if isQ q = true then (sortL (qSt q (q.length - 3)).2.2, true) else ([], false)
theorem qSt_two (q : List Int) : ∀ k, ∀ x ∈ (qSt q k).2.2, x.length = 2
  | 0, x, hx => by cases hx
  | k + 1, x, hx => by
    rw [qSt, qStep] at hx
    rcases List.mem_append.1 hx with hx | hx
    · exact qSt_two q k x hx
    · cases List.mem_singleton.1 hx; rfl
theorem isQ_small {q : List Int} (h : isQ q = true) : smallQ q := (of_decide_eq_true h).1
theorem isQ_alive {q : List Int} (h : isQ q = true) : aliveQ q (q.length - 3) := (of_decide_eq_true h).2.1

theorem iTriQ_ok (q : List Int) (bq N C : Nat) (h0 : H) (hb : Has h0 bq (ints q)) (hN : N = q.length) (hl : N ≤ 100000000) : AC env 10 [.slice bq 0 N C] h0 (RetR (triQ q) h0) := by
  refine AC.enter Try.func10 Try.call10 rfl Try.ntmps10 (of_decide_eq_true (by rfl)) ?_
  repeat' (first
    | refine AW.seq ?_
    | (refine AW.region ?_; conv => whnf))
  refine (cuts_ok q bq N C h0 hb hN hl).mono ?_
  rintro v h' (⟨hq, b, R, rfl, hR, hL, hs⟩ | ⟨hq, rfl | ⟨_, _, _, rfl⟩, hk⟩)
  · have e : triQ q = (sortL (qSt q (q.length - 3)).2.2, true) := if_pos hq
    have sm := (isQ_small hq).1
    conv => whnf
    repeat' (first
      | (refine (sortFunc_ok R [] b _ _ h0 _ hs hL.symm (by omega) (fun r hr => by have := rws_two hR (qSt_two q _) r hr; omega)).mono ?_; rintro v h' ⟨rfl, hs4⟩; conv => whnf)
      | refine AW.seq ?_
      | (refine AW.region ?_; conv => whnf)
      | (refine AW.skip ?_; conv => whnf)
      | (refine AW.ret ?_; conv => whnf)
      | refine AW.cond (by rfl) ?_
      | (refine Br.ff ?_; conv => whnf))
    rw [← hL] at hs4 ⊢
    exact RetR.mk' (by rw [e, insO_rws, hR]) (by rw [insO_len]) hs4
  all_goals
    have e : triQ q = ([], false) := if_neg (by rw [hq]; simp)
    have hs := (St.refl h0).keep hk
    conv => whnf
    repeat' (first
      | refine AW.seq ?_
      | (refine AW.region ?_; conv => whnf)
      | (refine AW.ret ?_; conv => whnf)
      | refine AW.cond (by rfl) ?_
      | (refine Br.tt ?_; conv => whnf)
      | (refine NewG.st (by assumption) (fun bt h' hs' => ?_); conv => whnf))
    exact RetR.mk' (R := []) e rfl (nilRows hs')

theorem perm_tq {α : Type} (c x y bo : α) (X : List α) : (c :: x :: y :: bo :: (X ++ [])).Perm (c :: bo :: (X ++ [x, y])) := perm_cut c x y bo X
set_option maxHeartbeats 4000000 in
theorem sTriQ_ok (q : List Int) (bq N C : Nat) (h0 : H) (hb : Has h0 bq (ints q)) (hN : N = q.length) (hl : N ≤ 100000000) : AC env 19 [.slice bq 0 N C] h0 (RetR (triQ q) h0) := by
  have hs := St.refl h0
  subst hN
  by_cases hq : isQ q = true
  · have e : triQ q = (sortL (qSt q (q.length - 3)).2.2, true) := if_pos hq
    have sm := isQ_small hq
    have hsz := sm.1
    refine AC.enter Try.func19 Try.call19 rfl Try.ntmps19 (of_decide_eq_true (by rfl)) ?_
    repeat' (first
      | (refine NewG.st hs (fun bd hD hsD => ?_); conv => whnf)
      | (refine (sIsQuiddity_ok q _ _ _ _ (St.arg hsD hb) rfl (by omega)).mono ?_; rw [hq]; rintro v h' ⟨rfl, hkq⟩; have hsk := St.keep hsD hkq; conv => whnf)
      | (refine LoadsG.has (hb.keep hsA.keeps) (by simp) ?_; conv => whnf)
      | (refine NewG.st hsk (fun bA hA hsA => ?_); conv => whnf)
      | (refine AppG.stZs (l := []) hsA (by intro b'; exact .here) rfl (by simp; omega) (by decide) (fun bl hB hsB => ?_); rw [List.nil_append] at hsB; conv => whnf)
      | (refine NewG.st hsB (fun bn hN hsN => ?_); conv => whnf)
      | refine AW.seq ?_
      | (refine AW.region ?_; conv => whnf)
      | refine AW.block ?_
      | (refine AW.skip ?_; conv => whnf)
      | refine AW.cond (by rfl) ?_
      | (refine Br.ff ?_; conv => whnf))
    rw [Nat.zero_add]
    refine AW.loop2 (fun (j bn : Nat) => [(0, .slice bq 0 q.length C), (4, .slice bd 0 0 0), (5, .slice bl 0 q.length q.length), (6, .slice bn 0 j j), (7, .int .i64 j)]) (fun j bn h' => j ≤ q.length ∧ St h0 h' [(bn, row (ints (iotaI j))), (bl, row (ints q)), (bd, row [])]) (fun j _ => q.length - j) 0 bn
      (Less.cons rfl (Less.cons rfl (Less.cons rfl (Less.cons rfl (Less.cons rfl (Less.nil _)))))) ⟨by omega, hsN⟩ ?_
    rintro j bn h2 ⟨hj2, hs2⟩
    clear hsN hsB hsA hsk hsD hs
    by_cases hlt2 : j < q.length
    · repeat' (first
        | refine AW.seq ?_
        | (refine AW.region ?_; conv => whnf)
        | refine AW.block ?_
        | (refine AW.skip ?_; conv => whnf)
        | refine AW.cond (by rfl) ?_
        | (refine Br.dt (by omega) ?_; conv => whnf)
        | (refine Wr.i64 (by omega) ?_; conv => whnf)
        | (refine NewG.st (by assumption) (fun bt h' hs' => ?_); conv => whnf)
        | (refine LoadsG.has (by first | assumption | exact St.has (by assumption) (by repeat first | exact .head _ | apply List.Mem.tail) | exact St.arg (by assumption) (by assumption)) (by simp) ?_; conv => whnf)
        | (refine AppG.stZ (by assumption) (by intro b'; repeat first | exact .here | apply Spot.there) (by first | (simp; done) | omega | (simp only [List.length_set, List.length_append, List.length_cons, List.length_nil, List.length_replicate, tab_length]; omega) | (simp; omega)) (by first | (simp; done) | omega | (simp only [List.length_set, List.length_append, List.length_cons, List.length_nil, List.length_replicate, tab_length]; omega) | (simp; omega)) (by decide) (fun b' h' hs' => ?_); conv => whnf))
      rw [iotaI_succ] at hs'
      exact ⟨j + 1, _, (Less.cons rfl (Less.cons rfl (Less.cons rfl (Less.cons rfl (Less.cons rfl (Less.nil _)))))), ⟨by omega, hs'.tail⟩, by omega⟩
    · obtain rfl : j = q.length := by omega
      repeat' (first
        | refine AW.seq ?_
        | (refine AW.region ?_; conv => whnf)
        | refine AW.block ?_
        | (refine AW.exit ?_; conv => whnf)
        | refine AW.cond (by rfl) ?_
        | (refine Br.df (by omega) ?_; conv => whnf))
      refine AW.loop4 (fun (k bl bn bd : Nat) => [(4, .slice bd 0 k k), (5, .slice bl 0 (q.length - k) (q.length - k)), (6, .slice bn 0 (q.length - k) (q.length - k))])
        (fun k bl bn bd h' => k + 3 ≤ q.length ∧ ∃ R, R.length = k ∧ rws R = sortL (qSt q k).2.2 ∧ St h0 h' ((bl, row (ints (qSt q k).1)) :: (bn, row (ints (qSt q k).2.1)) :: (bd, row (slcs R)) :: (blks R ++ []))) (fun k _ _ _ => q.length - k) 0 bl bn bd
        (Less.cons rfl (Less.cons rfl (Less.cons rfl (Less.nil _)))) ⟨by omega, [], rfl, rfl, hs2.perm (.swap _ _ _)⟩ ?_
      rintro k bl bn bd h4 ⟨hk3, R, lR, hR, hs4⟩
      clear hs2
      have al : aliveQ q k := fun i hi => isQ_alive hq i (by omega)
      have ln := qSt_len al (by omega)
      have bdd := qSt_bd sm k
      have nx : qSt q (k + 1) = qStep (qSt q k) := rfl
      have r2 : ∀ r ∈ R, r.2.length = 2 := rws_two hR (sortL_two (qSt_two q k))
      have hitq : k + 3 < q.length → fst1 (qSt q k).1 < (qSt q k).1.length := fun h => isQ_alive hq k (by omega)
      have finq : k + 3 = q.length → triQ q = (sortL (qSt q k).2.2, true) := fun h => by rw [e, show q.length - 3 = k by omega]
      obtain ⟨m, hm⟩ : ∃ m, q.length - k = m := ⟨_, rfl⟩
      rw [hm]
      rw [hm] at ln
      have em : q.length - (k + 1) = m - 1 := by omega
      have m10 : m ≤ 10 := by omega
      generalize es : qSt q k = s at *
      obtain ⟨l, c, o⟩ := s
      simp only at ln bdd hR hs4 hitq finq
      have ll := ln.1
      have lc := ln.2.1
      have hL : Has h4 bl (ints l) := hs4.has (.head _)
      have hC : Has h4 bn (ints c) := hs4.has (.tail _ (.head _))
      by_cases hlt3 : 3 < m
      · have hit := hitq (by omega)
        have at1 := fst1_at l hit
        have nx2 := qStep_eq l c o
        have cut := cutQ_two l (fst1 l) m ll (by omega) (by omega)
        repeat' (first
          | refine AW.seq ?_
          | (refine AW.region ?_; conv => whnf)
          | refine AW.block ?_
          | (refine AW.skip ?_; conv => whnf)
          | refine AW.cond (by rfl) ?_
          | (refine Br.dt (by omega) ?_; conv => whnf))
        refine AW.loop1 (fun (a : Nat) => [(4, .slice bd 0 k k), (5, .slice bl 0 m m), (6, .slice bn 0 m m), (8, .int .i64 a)]) (fun a h' => a ≤ fst1 l ∧ h' = h4) (fun a => fst1 l - a) 0 (Less.cons rfl (Less.cons rfl (Less.cons rfl (Less.cons rfl (Less.nil _))))) ⟨by omega, rfl⟩ ?_
        rintro a h5 ⟨ha, rfl⟩
        by_cases hne : a < fst1 l
        · have c1 := at1.2 a hne
          have c2 : l.getD (a : Int).toNat 0 ≠ 1 := c1
          repeat' (first
            | refine AW.seq ?_
            | (refine AW.region ?_; conv => whnf)
            | refine AW.block ?_
            | (refine AW.skip ?_; conv => whnf)
            | refine AW.cond (by rfl) ?_
            | refine Br.not ?_
            | (refine Br.df (by omega) ?_; conv => whnf)
            | (refine Wr.i64 (by omega) ?_; conv => whnf)
            | (refine Ck.mk (by omega) ?_; conv => whnf)
            | (refine Has.loadZ (by first | assumption | exact St.has (by assumption) (by repeat first | exact .head _ | apply List.Mem.tail) | exact St.arg (by assumption) (by assumption)) rfl (by first | (simp; done) | omega | (simp only [List.length_set, List.length_append, List.length_cons, List.length_nil, List.length_replicate, tab_length]; omega) | (simp; omega)) ?_; conv => whnf))
          exact ⟨a + 1, (Less.cons rfl (Less.cons rfl (Less.cons rfl (Less.cons rfl (Less.nil _))))), ⟨by omega, rfl⟩, by omega⟩
        · have ea : fst1 l = a := by omega
          have c2 : l.getD (a : Int).toNat 0 = 1 := by rw [← ea]; exact at1.1
          rw [ea] at nx2 cut hit
          rw [ll] at nx2
          generalize a = i at *
          have t1 := cut_mod1 i m (by omega)
          have t2 := cut_mod2 i m
          have a1 : (i + m - 1) % m < m := Nat.mod_lt _ (by omega)
          have a2 : (i + 1) % m < m := Nat.mod_lt _ (by omega)
          generalize (i + m - 1) % m = a at *
          generalize (i + 1) % m = b at *
          have q1 := bdd.get (by omega) b
          have q2 := (bdd.dec (by omega) b).get (by omega) a
          have q3 : -(2 * (k : Int)) ≤ l.getD (b : Int).toNat 0 ∧ l.getD (b : Int).toNat 0 ≤ 100 := q1
          have q4 : -(2 * (k : Int) + 1) ≤ (l.set (b : Int).toNat (l.getD (b : Int).toNat 0 - 1)).getD (a : Int).toNat 0 ∧ (l.set (b : Int).toNat (l.getD (b : Int).toNat 0 - 1)).getD (a : Int).toNat 0 ≤ 100 := q2
          have mn : min (c.getD (b : Int).toNat 0) (c.getD (a : Int).toNat 0) = min (c.getD a 0) (c.getD b 0) := Int.min_comm _ _
          have mx : max (c.getD (b : Int).toNat 0) (c.getD (a : Int).toNat 0) = max (c.getD a 0) (c.getD b 0) := Int.max_comm _ _
          repeat' (first
            | (rw [t2])
            | (rw [t1])
            | (refine NewG.st hs4 (fun bx hx hsx => ?_); rw [mn, mx] at hsx; conv => whnf)
            | (refine (put_ok R [min (c.getD a 0) (c.getD b 0), max (c.getD a 0) (c.getD b 0)] _ bd bx _ _ h0 _ (St.perm hsx (perm_cut _ _ _ _ _)) lR.symm (by omega) (by omega) rfl r2).mono ?_; rintro v h' ⟨bd', rfl, hs7⟩; have hs8 := St.perm hs7 (perm_cut2 _ _ _ _); conv => whnf)
            | (refine StoreG.stZ hs8 .here rfl (by simp; omega) (fun h9 hs9 => ?_); conv => whnf)
            | (refine StoreG.stZ hs9 .here rfl (by simp; omega) (fun hA hsA => ?_); conv => whnf)
            | (refine NewG.st hsA (fun by_ hB hsB => ?_); have hLB := St.has hsB (.tail _ (.head _)); conv => whnf)
            | (refine Has.loadsTo hLB i rfl (by simp; omega) ?_; conv => whnf)
            | (refine AppG.stZs (l := []) hsB (fun b' => .here) rfl (by simp; omega) (by decide) (fun bz hC hsC => ?_); have hLC := St.has hsC (.tail _ (.head _)); conv => whnf)
            | (refine Has.loadsOff hLC rfl (i + 1) (m - (i + 1)) (by omega) (by omega) (by simp; omega) ?_; conv => whnf)
            | (refine AppG.stZs hsC (fun b' => .here) (by simp; omega) (by simp; omega) (by decide) (fun bw hE hsE => ?_); conv => whnf)
            | (refine NewG.st hsE (fun by_ hF hsF => ?_); have hLF := St.has hsF (.tail _ (.tail _ (.tail _ (.head _)))); conv => whnf)
            | (refine Has.loadsTo hLF i rfl (by omega) ?_; conv => whnf)
            | (refine AppG.stZs (l := []) hsF (fun b' => .here) rfl (by simp; omega) (by decide) (fun bz hG hsG => ?_); have hLG := St.has hsG (.tail _ (.tail _ (.tail _ (.head _)))); conv => whnf)
            | (refine Has.loadsOff hLG rfl (i + 1) (m - (i + 1)) (by omega) (by omega) (by omega) ?_; conv => whnf)
            | (refine AppG.stZs hsG (fun b' => .here) (by simp; omega) (by simp; omega) (by decide) (fun bv hK hsK => ?_); conv => whnf)
            | refine AW.seq ?_
            | (refine AW.region ?_; conv => whnf)
            | (refine AW.exit ?_; conv => whnf)
            | refine AW.cond (by rfl) ?_
            | (refine AW.draw (id := 18) (.p 0 (.p 1 (.p 2 (.p 3 (.p 4 (.p 5 (.p 6 (.p 7 (.p 8 (.p 9 (.p 10 (.r 11 [12, 13, 14] (.p 12 (.p 13 (.all [14] fun _ => .done))))))))))))))) (by kernel_rfl) (by kernel_rfl) ?_; conv => whnf)
            | (refine AW.draw (id := 19) (.p 0 (.p 1 (.p 2 (.p 3 (.p 4 (.p 5 (.p 6 (.p 7 (.p 8 (.p 9 (.p 10 (.p 11 (.p 12 (.p 13 (.p 14 (.r 15 [16, 17, 18] (.p 16 (.p 17 (.all [18] fun _ => .done))))))))))))))))))) (by kernel_rfl) (by kernel_rfl) ?_; conv => whnf)
            | (refine AW.draw (id := 20) (.p 1 (.p 2 (.p 3 (.p 5 (.p 6 (.p 7 (.p 8 (.all [0] fun _ => (.all [4] fun _ => (.all [9] fun _ => (.p 10 .done))))))))))) (by kernel_rfl) (by kernel_rfl) ?_; conv => whnf)
            | (refine AW.draw (id := 21) (.p 1 (.p 2 (.p 3 (.p 5 (.p 6 (.p 7 (.p 8 (.all [0] fun _ => (.all [4] fun _ => (.all [9] fun _ => (.p 10 .done))))))))))) (by kernel_rfl) (by kernel_rfl) ?_; conv => whnf)
            | refine Br.not ?_
            | (refine Br.dt (by omega) ?_; conv => whnf)
            | (refine Wr.i64 (by omega) ?_; conv => whnf)
            | (refine Ck.mk (by omega) ?_; conv => whnf)
            | (refine Has.loadZ (by first | assumption | exact St.has (by assumption) (by repeat first | exact .head _ | apply List.Mem.tail) | exact St.arg (by assumption) (by assumption)) rfl (by first | (simp; done) | omega | (simp only [List.length_set, List.length_append, List.length_cons, List.length_nil, List.length_replicate, tab_length]; omega) | (simp; omega)) ?_; conv => whnf))
          have en : 0 + i + (m - ((i : Int) + 1).toNat) = q.length - (k + 1) := by omega
          have him : i < m := by omega
          rw [List.nil_append, List.nil_append, erase_two c him lc, erase_two _ him (by simp only [List.length_set]; exact ll)] at hsK
          refine ⟨k + 1, bw, bv, bd', by rw [← en]; exact (Less.cons rfl (Less.cons rfl (Less.cons rfl (Less.nil _)))), ⟨by omega, putP R (bx, [min (c.getD a 0) (c.getD b 0), max (c.getD a 0) (c.getD b 0)]), by rw [putP_len, lR], by rw [putP_rws, hR, nx, nx2, sortL_snoc], ?_⟩, by omega⟩
          rw [nx, nx2, cut]
          refine (hsK.perm (.swap _ _ _)).sub (List.Sublist.cons_cons _ (List.Sublist.cons_cons _ ?_))
          exact (List.sublist_cons_self _ _).trans (List.sublist_cons_self _ _)
      · have f := finq (by omega)
        repeat' (first
          | refine AW.seq ?_
          | (refine AW.region ?_; conv => whnf)
          | (refine AW.ret ?_; conv => whnf)
          | (refine AW.exit ?_; conv => whnf)
          | refine AW.cond (by rfl) ?_
          | (refine Br.df (by omega) ?_; conv => whnf))
        refine RetR.mk' (by rw [f, hR]) lR.symm ?_
        exact hs4.sub ((List.sublist_cons_self _ _).trans (List.sublist_cons_self _ _))
  · have e : triQ q = ([], false) := if_neg hq
    have hq : isQ q = false := by simpa using hq
    refine AC.enter Try.func19 Try.call19 rfl Try.ntmps19 (of_decide_eq_true (by rfl)) ?_
    repeat' (first
      | (refine (sIsQuiddity_ok q _ _ _ _ (St.arg hs' hb) rfl (by omega)).mono ?_; rw [hq]; rintro v h' ⟨rfl, hkq⟩; have hsk := St.keep hs' hkq; conv => whnf)
      | refine AW.seq ?_
      | (refine AW.region ?_; conv => whnf)
      | (refine AW.ret ?_; conv => whnf)
      | refine AW.cond (by rfl) ?_
      | (refine Br.tt ?_; conv => whnf)
      | (refine NewG.st (by assumption) (fun bt h' hs' => ?_); conv => whnf))
    exact RetR.mk' (R := []) e rfl (nilRows hsk)


theorem triQ_two (q : List Int) : ∀ x ∈ (triQ q).1, x.length = 2 := by
  unfold triQ
  split
  · exact sortL_two (qSt_two q _)
  · intro x hx; cases hx
theorem triQ_len (q : List Int) : (triQ q).1.length ≤ 10 := by
  unfold triQ
  split
  · rename_i h
    have s := (isQ_small h).1
    have := (qSt_len (isQ_alive h) (by omega)).2.2
    rw [sortL_len, this]
    omega
  · simp
theorem triQ_tot (q : List Int) : totL (triQ q).1 ≤ 2000000 := by
  have := totL_le (m := 2) fun l hl => by have := triQ_two q l hl; omega
  have := triQ_len q
  omega

end Go.Proofs.Ytbicfognbbeigaa
