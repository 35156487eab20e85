/-
  Contracts of the reference's flips of diagonals are proved.
  They hold for all rows of rows.
-/
import Derived.Test.YtbicfognbbeigaaGreatH22
import Derived.Test.YtbicfognbbeigaaGreatH4
set_option linter.unusedVariables false
set_option linter.unusedSimpArgs false
namespace Go.Proofs.YtbicfognbbeigaaGreat
open Go.Proofs.YtbicfognbbeigaaGreat.Ab Go.Proofs.YtbicfognbbeigaaGreat.Pl

theorem erase_take {f : List (List Int)} {i k : Nat} (h : i < f.length) : (f.take (i + 1)).eraseIdx k = if i = k then (f.take i).eraseIdx k else (f.take i).eraseIdx k ++ [f.getD i []] := by
  have e : f.getD i [] = f[i] := by simp [List.getD, h]
  have hl : (f.take i).length = i := by simp; omega
  rw [List.take_succ_eq_append_getElem h, e]
  split
  · rename_i c
    subst c
    rw [List.eraseIdx_append_of_length_le (by omega), hl, Nat.sub_self]
    simp [List.eraseIdx_of_length_le, hl]
  · rename_i c
    by_cases d : i < k
    · rw [List.eraseIdx_append_of_length_le (by omega), List.eraseIdx_of_length_le (l := f.take i) (by omega), List.eraseIdx_of_length_le (by simp; omega)]
    · rw [List.eraseIdx_append_of_lt_length (by omega)]

set_option maxHeartbeats 4000000 in
theorem l21Flip_ok (N : Nat) (R : RL) (f : List (List Int)) (b M C k : Nat) (h0 : H) (hb : Grid h0 b R) (hR : rws R = f) (hM : M = f.length) (ht : isTri N f = true) (hk : k < f.length) :
    AC env 54 [.int .i64 N, .slice b 0 M C, .int .i64 k] h0 fun v h' => ∃ b' R', v = .slice b' 0 M M ∧ rws R' = flipR N f k ∧ R'.length = M ∧ St h0 h' ((b', row (slcs R')) :: (blks R' ++ [])) := by
  have hs := St.refl h0
  have lR : R.length = M := by rw [hM, ← hR, rws_length]
  have sz := tri_sz ht
  have te := tri_ent ht hk
  have two := tri_two ht
  have l2 : (f.getD k []).length = 2 := two k hk
  have fl := flip_fine ht hk
  refine AC.enter Tryz.func54 Tryz.call54 rfl Tryz.ntmps54 (of_decide_eq_true (by rfl)) ?_
  repeat' (first
    | refine AW.seq ?_
    | (refine AW.region ?_; conv => whnf)
    | refine AW.block ?_
    | (refine NewG.st (by assumption) (fun bt h' hs' => ?_); conv => whnf))
  refine AW.loop4 (fun (i bo m : Nat) (S : RL) => [(0, .int .i64 N), (1, .slice b 0 M C), (2, .int .i64 k), (7, .slice bo 0 m m), (8, .int .i64 i)]) (fun i bo m S h' => i ≤ M ∧ S.length = m ∧ m ≤ i ∧ rws S = (f.take i).eraseIdx k ∧ St h0 h' ((bo, row (slcs S)) :: (blks S ++ []))) (fun i _ _ _ => M - i) 0 bt 0 []
    (Less.cons rfl (Less.cons rfl (Less.cons rfl (Less.cons rfl (Less.cons rfl (Less.nil _)))))) ⟨by omega, rfl, by omega, rfl, nilRows hs'⟩ ?_
  rintro i bo m S h1 ⟨hi, lS, hm, hS, hs1⟩
  clear hs' hs
  by_cases hlt : i < M
  · have et := erase_take (f := f) (i := i) (k := k) (by omega)
    by_cases q : i = k
    · rw [if_pos q] at et
      repeat' (first
        | refine AW.seq ?_
        | (refine AW.region ?_; conv => whnf)
        | refine AW.block ?_
        | (refine AW.skip ?_; conv => whnf)
        | refine AW.cond (by rfl) ?_
        | refine Br.not ?_
        | (refine Br.dt (by omega) ?_; conv => whnf)
        | (refine Wr.i64 (by omega) ?_; conv => whnf))
      exact ⟨i + 1, bo, m, S, (Less.cons rfl (Less.cons rfl (Less.cons rfl (Less.cons rfl (Less.cons rfl (Less.nil _)))))), ⟨by omega, lS, by omega, by rw [et]; exact hS, hs1⟩, by omega⟩
    · rw [if_neg q] at et
      have hg := hb.arg hs1
      have er : f.getD i [] = rl R i := rws_at hR i
      have l3 : (f.getD i []).length = 2 := two i (by omega)
      have l4 : (rl R i).length = 2 := by rw [← er]; exact l3
      repeat' (first
        | (refine NewG.st hs1 (fun bx h2 hs2 => ?_); have hg2 := hb.arg hs2; conv => whnf)
        | (refine Grid.rowAt hg2 hR i rfl rfl (by omega) l3 ?_; conv => whnf)
        | (refine LoadsG.has (hg2.at (by omega)) (by rw [ints_length, l4]) ?_; conv => whnf)
        | (refine AppG.stZs (l := []) hs2 (by intro b'; exact .here) rfl (by simp) (by decide) (fun bl h3 hs3 => ?_); rw [List.nil_append] at hs3; conv => whnf)
        | (refine NewG.st hs3 (fun by_ h4 hs4 => ?_); conv => whnf)
        | (refine AppG.stR (l := rl R i) hs4.tail lS.symm (by rw [l4]) (by omega) (by decide) (fun b2 h' hs5 => ?_); conv => whnf)
        | refine AW.seq ?_
        | (refine AW.region ?_; conv => whnf)
        | refine AW.block ?_
        | (refine AW.skip ?_; conv => whnf)
        | refine AW.cond (by rfl) ?_
        | refine Br.not ?_
        | (refine Br.dt (by omega) ?_; conv => whnf)
        | (refine Br.df (by omega) ?_; conv => whnf)
        | (refine Wr.i64 (by omega) ?_; conv => whnf)
        | (refine Ck.mk (by omega) ?_; conv => whnf)
        | (refine LoadsG.has (by first | assumption | exact St.has (by assumption) (by repeat first | exact .head _ | apply List.Mem.tail) | exact St.arg (by assumption) (by assumption)) (by simp) ?_; conv => whnf))
      exact ⟨i + 1, b2, m + 1, _, (Less.cons rfl (Less.cons rfl (Less.cons rfl (Less.cons rfl (Less.cons rfl (Less.nil _)))))), ⟨by omega, by simp [lS], by omega, by rw [et, rws_append, hS, er]; rfl, hs5⟩, by omega⟩
  · obtain rfl : i = M := by omega
    have hS : rws S = f.eraseIdx k := by rw [hS, hM, List.take_length]
    have em : m + 1 = i := by
      rw [← lS, ← rws_length S, hS, List.length_eraseIdx, if_pos hk]
      omega
    repeat' (first
      | (refine NewG.st hs1 (fun be h2 hs2 => ?_); conv => whnf)
      | refine AW.seq ?_
      | (refine AW.region ?_; conv => whnf)
      | refine AW.block ?_
      | (refine AW.exit ?_; conv => whnf)
      | refine AW.cond (by rfl) ?_
      | (refine Br.df (by omega) ?_; conv => whnf))
    refine AW.loop3 (fun (c be p : Nat) => [(0, .int .i64 N), (1, .slice b 0 i C), (2, .int .i64 k), (7, .slice bo 0 m m), (9, .slice be 0 p p), (10, .int .i64 c)]) (fun c be p h' => c ≤ N ∧ (thU N f k c).length = p ∧ St h0 h' ((be, row (ints (thU N f k c))) :: (bo, row (slcs S)) :: (blks S ++ []))) (fun c _ _ => N - c) 0 be 0
      (Less.cons rfl (Less.cons rfl (Less.cons rfl (Less.cons rfl (Less.cons rfl (Less.cons rfl (Less.nil _))))))) ⟨by omega, rfl, hs2⟩ ?_
    rintro c be p h3 ⟨hc, hp, hs3⟩
    clear hs2 hs1
    have hg := hb.arg hs3
    have tl := thU_le N f k c
    by_cases hlt2 : c < N
    · have sc := thU_succ N f k c
      have pe : thP N f k c = (decide ((c : Int) ≠ ent f k 0) && decide ((c : Int) ≠ ent f k 1) && jnR N f (min (c : Int) (ent f k 0)) (max (c : Int) (ent f k 0)) && jnR N f (min (c : Int) (ent f k 1)) (max (c : Int) (ent f k 1))) := rfl
      by_cases q : (c : Int) = ent f k 0 ∨ (c : Int) = ent f k 1
      · have pf : thP N f k c = false := by
          rw [pe]
          rcases q with q | q
          · rw [decide_eq_false (by omega)]; rfl
          · rw [decide_eq_false (p := (c : Int) ≠ ent f k 1) (by omega), Bool.and_false]; rfl
        rw [pf] at sc
        repeat' (first
          | (refine Grid.rowAt hg hR k rfl rfl (by omega) l2 ?_; conv => whnf)
          | (refine Grid.num2 hg hR k 0 rfl (by omega) l2 (by omega) ?_; conv => whnf)
          | (refine Grid.num2 hg hR k 1 rfl (by omega) l2 (by omega) ?_; conv => whnf)
          | refine AW.seq ?_
          | (refine AW.region ?_; conv => whnf)
          | refine AW.block ?_
          | (refine AW.skip ?_; conv => whnf)
          | refine AW.cond (by rfl) ?_
          | (refine Br.ff ?_; conv => whnf)
          | refine Br.not ?_
          | (refine Br.dt (by omega) ?_; conv => whnf)
          | (refine Br.df (by omega) ?_; conv => whnf)
          | (refine Br.dec (fun hc => ?_) (fun hc => ?_) <;> conv => whnf)
          | (refine Wr.i64 (by omega) ?_; conv => whnf)
          | (refine Ck.mk (by omega) ?_; conv => whnf))
        all_goals exact ⟨c + 1, be, p, (Less.cons rfl (Less.cons rfl (Less.cons rfl (Less.cons rfl (Less.cons rfl (Less.cons rfl (Less.nil _))))))), ⟨by omega, by rw [sc]; exact hp, by rw [sc]; exact hs3⟩, by omega⟩
      · rw [decide_eq_true (by omega), decide_eq_true (by omega), Bool.true_and, Bool.true_and] at pe
        cases j1 : jnR N f (min (c : Int) (ent f k 0)) (max (c : Int) (ent f k 0)) with
        | false =>
          rw [j1, Bool.false_and] at pe
          rw [pe] at sc
          repeat' (first
            | (refine Grid.rowAt hg hR k rfl rfl (by omega) l2 ?_; conv => whnf)
            | (refine Grid.num2 hg hR k 0 rfl (by omega) l2 (by omega) ?_; conv => whnf)
            | (refine Grid.num2 hg hR k 1 rfl (by omega) l2 (by omega) ?_; conv => whnf)
            | (refine (l7Side_ok (N : Int) R f _ _ _ (min (c : Int) (ent f k 0)) (max (c : Int) (ent f k 0)) _ hg hR hM (by omega) two (by omega) (by omega)).mono ?_; rw [j1]; rintro v h' ⟨rfl, e'⟩; subst h'; conv => whnf)
            | refine AW.seq ?_
            | (refine AW.region ?_; conv => whnf)
            | refine AW.block ?_
            | (refine AW.skip ?_; conv => whnf)
            | refine AW.cond (by rfl) ?_
            | (refine Br.ff ?_; conv => whnf)
            | refine Br.not ?_
            | (refine Br.dt (by omega) ?_; conv => whnf)
            | (refine Br.df (by omega) ?_; conv => whnf)
            | (refine Wr.i64 (by omega) ?_; conv => whnf)
            | (refine Ck.mk (by omega) ?_; conv => whnf))
          all_goals exact ⟨c + 1, be, p, (Less.cons rfl (Less.cons rfl (Less.cons rfl (Less.cons rfl (Less.cons rfl (Less.cons rfl (Less.nil _))))))), ⟨by omega, by rw [sc]; exact hp, by rw [sc]; exact hs3⟩, by omega⟩
        | true =>
          rw [j1, Bool.true_and] at pe
          cases j2 : jnR N f (min (c : Int) (ent f k 1)) (max (c : Int) (ent f k 1)) with
          | false =>
            rw [j2] at pe
            rw [pe] at sc
            repeat' (first
              | (refine Grid.rowAt hg hR k rfl rfl (by omega) l2 ?_; conv => whnf)
              | (refine Grid.num2 hg hR k 0 rfl (by omega) l2 (by omega) ?_; conv => whnf)
              | (refine Grid.num2 hg hR k 1 rfl (by omega) l2 (by omega) ?_; conv => whnf)
              | (refine (l7Side_ok (N : Int) R f _ _ _ (min (c : Int) (ent f k 0)) (max (c : Int) (ent f k 0)) _ hg hR hM (by omega) two (by omega) (by omega)).mono ?_; rw [j1]; rintro v h' ⟨rfl, e'⟩; subst h'; conv => whnf)
              | (refine (l7Side_ok (N : Int) R f _ _ _ (min (c : Int) (ent f k 1)) (max (c : Int) (ent f k 1)) _ hg hR hM (by omega) two (by omega) (by omega)).mono ?_; rw [j2]; rintro v h' ⟨rfl, e'⟩; subst h'; conv => whnf)
              | refine AW.seq ?_
              | (refine AW.region ?_; conv => whnf)
              | refine AW.block ?_
              | (refine AW.skip ?_; conv => whnf)
              | refine AW.cond (by rfl) ?_
              | (refine Br.tt ?_; conv => whnf)
              | (refine Br.ff ?_; conv => whnf)
              | refine Br.not ?_
              | (refine Br.dt (by omega) ?_; conv => whnf)
              | (refine Br.df (by omega) ?_; conv => whnf)
              | (refine Wr.i64 (by omega) ?_; conv => whnf)
              | (refine Ck.mk (by omega) ?_; conv => whnf))
            all_goals exact ⟨c + 1, be, p, (Less.cons rfl (Less.cons rfl (Less.cons rfl (Less.cons rfl (Less.cons rfl (Less.cons rfl (Less.nil _))))))), ⟨by omega, by rw [sc]; exact hp, by rw [sc]; exact hs3⟩, by omega⟩
          | true =>
            rw [j2] at pe
            rw [if_pos pe] at sc
            repeat' (first
              | (refine Grid.rowAt hg hR k rfl rfl (by omega) l2 ?_; conv => whnf)
              | (refine Grid.num2 hg hR k 0 rfl (by omega) l2 (by omega) ?_; conv => whnf)
              | (refine Grid.num2 hg hR k 1 rfl (by omega) l2 (by omega) ?_; conv => whnf)
              | (refine (l7Side_ok (N : Int) R f _ _ _ (min (c : Int) (ent f k 0)) (max (c : Int) (ent f k 0)) _ hg hR hM (by omega) two (by omega) (by omega)).mono ?_; rw [j1]; rintro v h' ⟨rfl, e'⟩; subst h'; conv => whnf)
              | (refine (l7Side_ok (N : Int) R f _ _ _ (min (c : Int) (ent f k 1)) (max (c : Int) (ent f k 1)) _ hg hR hM (by omega) two (by omega) (by omega)).mono ?_; rw [j2]; rintro v h' ⟨rfl, e'⟩; subst h'; conv => whnf)
              | refine AW.seq ?_
              | (refine AW.region ?_; conv => whnf)
              | refine AW.block ?_
              | (refine AW.skip ?_; conv => whnf)
              | refine AW.cond (by rfl) ?_
              | (refine Br.tt ?_; conv => whnf)
              | refine Br.not ?_
              | (refine Br.dt (by omega) ?_; conv => whnf)
              | (refine Br.df (by omega) ?_; conv => whnf)
              | (refine Wr.i64 (by omega) ?_; conv => whnf)
              | (refine Ck.mk (by omega) ?_; conv => whnf)
              | (refine NewG.st (by assumption) (fun bt h' hs' => ?_); conv => whnf)
              | (refine LoadsG.has (by first | assumption | exact St.has (by assumption) (by repeat first | exact .head _ | apply List.Mem.tail) | exact St.arg (by assumption) (by assumption)) (by simp) ?_; conv => whnf)
              | (refine AppG.stZ (by assumption) (by intro b'; repeat first | exact .here | apply Spot.there) (by first | (simp; done) | omega | (simp only [List.length_set, List.length_append, List.length_cons, List.length_nil, List.length_replicate, tab_length]; omega) | (simp; omega)) (by first | (simp; done) | omega | (simp only [List.length_set, List.length_append, List.length_cons, List.length_nil, List.length_replicate, tab_length]; omega) | (simp; omega)) (by decide) (fun b' h' hs' => ?_); conv => whnf))
            all_goals exact ⟨c + 1, _, p + 1, (Less.cons rfl (Less.cons rfl (Less.cons rfl (Less.cons rfl (Less.cons rfl (Less.cons rfl (Less.nil _))))))), ⟨by omega, by rw [sc, List.length_append, hp]; rfl, by rw [sc]; exact hs'.tail⟩, by omega⟩
    · obtain rfl : c = N := by omega
      have p2 : p = 2 := by
        rw [← hp, thU_all, List.length_map]
        exact fl.1
      have g0 : (thU c f k c).getD (Int.toNat 0) 0 = ((thR c f k).getD 0 0 : Nat) := thU_get c f k 0
      have g1 : (thU c f k c).getD (Int.toNat 1) 0 = ((thR c f k).getD 1 0 : Nat) := thU_get c f k 1
      have hbo := St.has hs3 (.head _)
      have r2 : ∀ r ∈ S, r.2.length = 2 := rws_two hS fun x hx => by
        obtain ⟨i, hi, rfl⟩ := List.getElem_of_mem ((List.eraseIdx_sublist f k).subset hx)
        have := two i hi
        have e2 : f.getD i [] = f[i] := by simp [List.getD, hi]
        rwa [e2] at this
      repeat' (first
        | (refine Has.loadZ hbo rfl (by omega) ?_; conv => whnf)
        | (refine NewG.st hs3 (fun bx h5 hs5 => ?_); rw [g0, g1] at hs5; have hs6 := St.sub hs5 (List.Sublist.cons_cons _ (List.sublist_cons_self _ _)); conv => whnf)
        | (refine (put_ok S [(((thR c f k).getD 0 0 : Nat) : Int), (((thR c f k).getD 1 0 : Nat) : Int)] _ bo bx _ _ h0 _ hs6 lS.symm (by omega) (by omega) rfl r2).mono ?_; rintro v h' ⟨b', rfl, hs7⟩; conv => whnf)
        | refine AW.seq ?_
        | (refine AW.region ?_; conv => whnf)
        | (refine AW.ret ?_; conv => whnf)
        | (refine AW.exit ?_; conv => whnf)
        | refine AW.cond (by rfl) ?_
        | (refine AW.draw (id := 15) (.p 0 (.p 1 (.p 2 (.p 4 (.p 5 (.r 3 [7, 8, 9] (.r 6 [7, 8, 9] (.all [7] fun _ => (.all [8] fun _ => (.p 9 .done)))))))))) (by kernel_rfl) (by kernel_rfl) ?_; conv => whnf)
        | (refine Br.df (by omega) ?_; conv => whnf)
        | (refine Ck.mk (by omega) ?_; conv => whnf))
      refine ⟨b', _, ?_, by rw [putP_rws, hS]; rfl, by rw [putP_len, lS]; exact em, hs7⟩
      rw [em]

set_option maxHeartbeats 4000000 in
theorem sFlip_ok (n : Int) (R : RL) (f : List (List Int)) (b M C : Nat) (k : Int) (h0 : H) (hb : Grid h0 b R) (hR : rws R = f) (hM : M = f.length) (hl : M ≤ 1000000000) (hn : (-9223372036854775808 ≤ n ∧ n ≤ 9223372036854775807) ∧ -9223372036854775808 ≤ k ∧ k ≤ 9223372036854775807) :
    AC env 8 [.int .i64 n, .slice b 0 M C, .int .i64 k] h0 (RetR (flipF n f k) h0) := by
  have hs := St.refl h0
  have lR : R.length = M := by rw [hM, ← hR, rws_length]
  by_cases ok : isTri n f = true ∧ 0 ≤ k ∧ k < f.length
  · have e : flipF n f k = (flipR n.toNat f k.toNat, true) := if_pos ok
    obtain ⟨ht, hk⟩ := ok
    obtain ⟨N, rfl⟩ := isTri_nat ht
    obtain ⟨k, rfl⟩ := Int.eq_ofNat_of_zero_le hk.1
    rw [Int.toNat_natCast, Int.toNat_natCast] at e
    have hkl : k < f.length := by omega
    refine AC.enter Tryz.func8 Tryz.call8 rfl Tryz.ntmps8 (of_decide_eq_true (by rfl)) ?_
    repeat' (first
      | (refine (sIsTri_ok (N : Int) R f _ _ _ _ hb hR hM (by omega) (by omega)).mono ?_; rw [ht]; rintro v h' ⟨rfl, e'⟩; subst h'; conv => whnf)
      | (refine (l21Flip_ok N R f _ _ _ k _ hb hR hM ht hkl).mono ?_; rintro v h' ⟨b', R', rfl, hR', lR', hs1⟩; conv => whnf)
      | refine AW.seq ?_
      | (refine AW.region ?_; conv => whnf)
      | (refine AW.skip ?_; conv => whnf)
      | (refine AW.ret ?_; conv => whnf)
      | refine AW.cond (by rfl) ?_
      | (refine (l1In_ok _ _ _ _).mono ?_; rintro v h' ⟨rfl, e'⟩; subst h'; conv => whnf)
      | (refine Br.ff ?_; conv => whnf)
      | refine Br.not ?_
      | (refine Br.dt (by omega) ?_; conv => whnf)
      | (refine Wr.i64 (by omega) ?_; conv => whnf))
    exact RetR.mk' (by rw [e, hR']) lR'.symm hs1
  · have e : flipF n f k = ([], false) := if_neg ok
    by_cases ht : isTri n f = true
    · have hk : ¬ (0 ≤ k ∧ k < f.length) := fun a => ok ⟨ht, a⟩
      refine AC.enter Tryz.func8 Tryz.call8 rfl Tryz.ntmps8 (of_decide_eq_true (by rfl)) ?_
      repeat' (first
        | (refine (sIsTri_ok n R f _ _ _ _ hb hR hM (by omega) (by omega)).mono ?_; rw [ht]; rintro v h' ⟨rfl, e'⟩; subst h'; conv => whnf)
        | refine AW.seq ?_
        | (refine AW.region ?_; conv => whnf)
        | (refine AW.ret ?_; conv => whnf)
        | refine AW.cond (by rfl) ?_
        | (refine (l1In_ok _ _ _ _).mono ?_; rintro v h' ⟨rfl, e'⟩; subst h'; conv => whnf)
        | (refine Br.ff ?_; conv => whnf)
        | refine Br.not ?_
        | (refine Br.df (by omega) ?_; conv => whnf)
        | (refine Wr.i64 (by omega) ?_; conv => whnf)
        | (refine NewG.st (by assumption) (fun bt h' hs' => ?_); conv => whnf))
      all_goals exact RetR.mk' (R := []) e rfl (nilRows hs')
    · have ht : isTri n f = false := by simpa using ht
      refine AC.enter Tryz.func8 Tryz.call8 rfl Tryz.ntmps8 (of_decide_eq_true (by rfl)) ?_
      repeat' (first
        | (refine (sIsTri_ok n R f _ _ _ _ hb hR hM (by omega) (by omega)).mono ?_; rw [ht]; rintro v h' ⟨rfl, e'⟩; subst h'; conv => whnf)
        | refine AW.seq ?_
        | (refine AW.region ?_; conv => whnf)
        | (refine AW.ret ?_; conv => whnf)
        | refine AW.cond (by rfl) ?_
        | (refine Br.tt ?_; conv => whnf)
        | (refine NewG.st (by assumption) (fun bt h' hs' => ?_); conv => whnf))
      all_goals exact RetR.mk' (R := []) e rfl (nilRows hs')

end Go.Proofs.YtbicfognbbeigaaGreat

/-
  Contracts of the sizes of rows of rows are proved.
  They hold for all rows of rows.
-/
set_option linter.unusedVariables false
set_option linter.unusedSimpArgs false
namespace Go.Proofs.YtbicfognbbeigaaGreat
open Go.Proofs.YtbicfognbbeigaaGreat.Ab Go.Proofs.YtbicfognbbeigaaGreat.Pl

/-- what is left after rows are taken off -/
def szL (ls : List (List Int)) (x : Int) : Int := if (totL ls + ls.length : Nat) ≤ x then x - (totL ls + ls.length : Nat) else -1
theorem totL_take {ls : List (List Int)} {i : Nat} (h : i < ls.length) : totL (ls.take (i + 1)) = totL (ls.take i) + (ls.getD i []).length := by
  rw [List.take_succ_eq_append_getElem h, totL_append]
  have e : ls.getD i [] = ls[i] := by simp [List.getD, h]
  rw [e]
  simp [totL]
theorem totL_part (ls : List (List Int)) (i : Nat) : totL (ls.take i) ≤ totL ls := by
  have := totL_append (ls.take i) (ls.drop i)
  rw [List.take_append_drop] at this
  omega
theorem totL_small {ls : List (List Int)} (h : totL ls + ls.length ≤ 1048576) : ∀ l ∈ ls, l.length ≤ 100000000 := fun l hl => by
  have := totL_mem hl
  omega



end Go.Proofs.YtbicfognbbeigaaGreat

/-
  The law of flips of diagonals is proved.
  It holds for all rows of rows.
-/
set_option linter.unusedVariables false
set_option linter.unusedSimpArgs false
namespace Go.Proofs.YtbicfognbbeigaaGreat
open Go.Proofs.YtbicfognbbeigaaGreat.Ab Go.Proofs.YtbicfognbbeigaaGreat.Pl

theorem flipF_fine (n : Int) (f : List (List Int)) (k : Int) : (∀ x ∈ (flipF n f k).1, x.length = 2) ∧ (flipF n f k).1.length ≤ 10 := by
  unfold flipF
  split
  · rename_i h
    obtain ⟨ht, hk⟩ := h
    obtain ⟨N, rfl⟩ := isTri_nat ht
    have := (flip_fine ht (k := k.toNat) (by omega)).2
    refine ⟨fun x hx => (tri_diag this x hx).1, ?_⟩
    have := (tri_sz this).2.2
    rw [Int.toNat_natCast]
    show (flipR N f k.toNat).length ≤ 10
    omega
  · exact ⟨fun x hx => (nomatch hx), by simp⟩
theorem flipF_tot (n : Int) (f : List (List Int)) (k : Int) : totL (flipF n f k).1 ≤ 2000000 := by
  have := totL_le (m := 2) fun l hl => by have := (flipF_fine n f k).1 l hl; omega
  have := (flipF_fine n f k).2
  omega


end Go.Proofs.YtbicfognbbeigaaGreat

/-
  Contracts of rows of rows of rows are proved.
  They hold for all such rows.
-/
set_option linter.unusedVariables false
set_option linter.unusedSimpArgs false
namespace Go.Proofs.YtbicfognbbeigaaGreat
open Go.Proofs.YtbicfognbbeigaaGreat.Ab Go.Proofs.YtbicfognbbeigaaGreat.Pl

/-! three levels of rows -/
abbrev RL3 := List (Nat × RL)
def slc3 (S : RL3) : List AV := S.map fun r => .slice r.1 0 r.2.length r.2.length
def blk3 (S : RL3) : List (Nat × Blk) := S.flatMap fun r => (r.1, row (slcs r.2)) :: blks r.2
def rw3 (S : RL3) : List (List (List Int)) := S.map fun r => rws r.2
def rb3 (S : RL3) (i : Nat) : Nat := (S.getD i (0, [])).1
def rl3 (S : RL3) (i : Nat) : RL := (S.getD i (0, [])).2
def tot3 (f : List (List (List Int))) : Nat := (f.map totL).sum
theorem slc3_append (A B : RL3) : slc3 (A ++ B) = slc3 A ++ slc3 B := List.map_append
theorem blk3_append (A B : RL3) : blk3 (A ++ B) = blk3 A ++ blk3 B := List.flatMap_append
theorem blk3_cons (r : Nat × RL) (A : RL3) : blk3 (r :: A) = (r.1, row (slcs r.2)) :: (blks r.2 ++ blk3 A) := by simp [blk3]
theorem rw3_append (A B : RL3) : rw3 (A ++ B) = rw3 A ++ rw3 B := List.map_append
theorem rw3_length (A : RL3) : (rw3 A).length = A.length := List.length_map _
theorem slc3_length (A : RL3) : (slc3 A).length = A.length := List.length_map _
theorem tot3_append (f g : List (List (List Int))) : tot3 (f ++ g) = tot3 f + tot3 g := by simp [tot3]
theorem tot3_cons (l : List (List Int)) (f : List (List (List Int))) : tot3 (l :: f) = totL l + tot3 f := by simp [tot3]
theorem tot3_mem {f : List (List (List Int))} {l : List (List Int)} (h : l ∈ f) : totL l ≤ tot3 f := by
  induction f with
  | nil => cases h
  | cons x f ih =>
    rw [tot3_cons]
    cases h with
    | head => omega
    | tail _ h => have := ih h; omega
theorem tot3_le {f : List (List (List Int))} {m : Nat} (h : ∀ l ∈ f, totL l ≤ m) : tot3 f ≤ f.length * m := by
  induction f with
  | nil => simp [tot3]
  | cons x f ih =>
    rw [tot3_cons, List.length_cons, Nat.add_mul]
    have := ih fun l hl => h l (.tail _ hl)
    have := h x (.head _)
    omega
theorem rl3_mem (S : RL3) (i : Nat) (h : i < S.length) : (rb3 S i, rl3 S i) ∈ S := by
  have e : S.getD i (0, []) = S[i] := by simp [List.getD, h]
  unfold rb3 rl3
  rw [e]
  exact List.getElem_mem h
theorem slc3_get (S : RL3) (i : Nat) (h : i < S.length) : (slc3 S)[i]? = some (.slice (rb3 S i) 0 (rl3 S i).length (rl3 S i).length) := by
  unfold slc3 rb3 rl3
  rw [List.getElem?_map, List.getElem?_eq_getElem h]
  simp [List.getD, h]
theorem rw3_at {S : RL3} {f : List (List (List Int))} (hf : rw3 S = f) (i : Nat) : f.getD i [] = rws (rl3 S i) := by
  subst hf
  unfold rw3 rl3
  simp only [List.getD, List.getElem?_map]
  cases S[i]? <;> rfl
structure Cube (h : H) (b : Nat) (S : RL3) : Prop where
  out : Has h b (slc3 S)
  inn : ∀ r ∈ S, Grid h r.1 r.2
theorem Cube.keep {h h' : H} {b : Nat} {S : RL3} (m : Cube h b S) (k : Keeps h h') : Cube h' b S := ⟨m.out.keep k, fun r hr => (m.inn r hr).keep k⟩
theorem Cube.at {h : H} {b : Nat} {S : RL3} (m : Cube h b S) {i : Nat} (hi : i < S.length) : Grid h (rb3 S i) (rl3 S i) := m.inn _ (rl3_mem S i hi)
theorem Cube.rowAt {h : H} {b : Nat} {S : RL3} {f : List (List (List Int))} (m : Cube h b S) (hf : rw3 S = f) (r : Nat) {n sz q : Nat} (hs : sz = 1) {K : AV → Prop} (e : n = r) (ho : r < S.length) (hl : (f.getD r []).length = q) (hk : K (.slice (rb3 S r) 0 q q)) : LoadG h b (0 + mulSz n sz) K := by
  subst e
  rw [rw3_at hf, rws_length] at hl
  subst hl
  exact m.out.loadAt hs (slc3_get S n ho) hk
theorem blk3_mem {S : RL3} {r : Nat × RL} (h : r ∈ S) : (r.1, row (slcs r.2)) ∈ blk3 S ∧ ∀ p ∈ blks r.2, p ∈ blk3 S :=
  ⟨List.mem_flatMap.2 ⟨r, h, .head _⟩, fun p hp => List.mem_flatMap.2 ⟨r, h, .tail _ hp⟩⟩
theorem St.cubeIn {h0 h : H} {L : List (Nat × Blk)} {b : Nat} {S : RL3} (s : St h0 h L) (m : (b, row (slc3 S)) ∈ L) (mm : ∀ p ∈ blk3 S, p ∈ L) : Cube h b S :=
  ⟨s.has m, fun r hr => s.rowsIn (mm _ (blk3_mem hr).1) fun p hp => mm _ ((blk3_mem hr).2 p hp)⟩

inductive CSpot : List (Nat × Blk) → Nat → RL3 → RL3 → List (Nat × Blk) → Prop where
  | here {b : Nat} {R R' : RL3} {L : List (Nat × Blk)} : CSpot ((b, row (slc3 R)) :: (blk3 R ++ L)) b R R' ((b, row (slc3 R')) :: (blk3 R' ++ L))
  | there {x : Nat × Blk} {b : Nat} {R R' : RL3} {L L' : List (Nat × Blk)} (s : CSpot L b R R' L') : CSpot (x :: L) b R R' (x :: L')
  | app {X : List (Nat × Blk)} {b : Nat} {R R' : RL3} {L L' : List (Nat × Blk)} (s : CSpot L b R R' L') : CSpot (X ++ L) b R R' (X ++ L')
theorem CSpot.split {L L' : List (Nat × Blk)} {b : Nat} {R R' : RL3} (s : CSpot L b R R' L') : ∃ A B, L = A ++ (b, row (slc3 R)) :: (blk3 R ++ B) ∧ L' = A ++ (b, row (slc3 R')) :: (blk3 R' ++ B) := by
  induction s with
  | here => exact ⟨[], _, rfl, rfl⟩
  | there s ih =>
    obtain ⟨A, B, e1, e2⟩ := ih
    exact ⟨_ :: A, B, by rw [e1]; rfl, by rw [e2]; rfl⟩
  | app s ih =>
    obtain ⟨A, B, e1, e2⟩ := ih
    exact ⟨_ ++ A, B, by rw [e1, List.append_assoc], by rw [e2, List.append_assoc]⟩
theorem St.cubeAt {h0 h : H} {L : List (Nat × Blk)} {b : Nat} {S : RL3} (s : St h0 h L) (sp : CSpot L b S S L) : Cube h b S := by
  obtain ⟨A, B, rfl, _⟩ := sp.split
  exact St.cubeIn s (List.mem_append_right _ (.head _)) fun p hp => List.mem_append_right _ (.tail _ (List.mem_append_left _ hp))

def mark3 (k : Int) : RL3 → RL3
  | [] => []
  | r :: S => (r.1, markR k r.2) :: mark3 (k + totL (rws r.2)) S
theorem mark3_slc : ∀ (S : RL3) (k : Int), slc3 (mark3 k S) = slc3 S
  | [], k => rfl
  | r :: S, k => by
    have := mark3_slc S (k + totL (rws r.2))
    simp only [slc3, mark3, List.map_cons, markR_len] at this ⊢
    rw [this]
theorem mark3_len : ∀ (S : RL3) (k : Int), (mark3 k S).length = S.length
  | [], k => rfl
  | r :: S, k => by rw [mark3, List.length_cons, mark3_len S, List.length_cons]
theorem mark3_append : ∀ (A B : RL3) (k : Int), mark3 k (A ++ B) = mark3 k A ++ mark3 (k + tot3 (rw3 A)) B
  | [], B, k => by simp [mark3, tot3, rw3]
  | r :: A, B, k => by
    rw [List.cons_append, mark3, mark3, mark3_append A B]
    have : tot3 (rw3 (r :: A)) = totL (rws r.2) + tot3 (rw3 A) := tot3_cons _ _
    rw [this, List.cons_append]
    congr 3
    omega
theorem rl3_mid (A B : RL3) (x : Nat × RL) : (A ++ x :: B).getD A.length (0, []) = x := by simp [List.getD]
theorem rspot_mid (X Y : List (Nat × Blk)) (b : Nat) (R R' : RL) : RSpot (X ++ (b, row (slcs R)) :: (blks R ++ Y)) b R R' (X ++ (b, row (slcs R')) :: (blks R' ++ Y)) := .app .here




/-- what a function gives that makes rows of rows of rows -/
def Ret3 (r : List (List (List Int)) × Bool) (h0 : H) (v : AV) (h' : H) : Prop :=
  ∃ b S, v = .tup [.slice b 0 r.1.length r.1.length, .bool r.2] ∧ rw3 S = r.1 ∧ S.length = r.1.length ∧ St h0 h' ((b, row (slc3 S)) :: (blk3 S ++ []))
theorem Ret3.mk' {r : List (List (List Int)) × Bool} {h0 h' : H} {b N : Nat} {q : Bool} {S : RL3} (e : r = (rw3 S, q)) (hN : N = S.length) (s : St h0 h' ((b, row (slc3 S)) :: (blk3 S ++ []))) : Ret3 r h0 (.tup [.slice b 0 N N, .bool q]) h' := by
  subst e hN
  exact ⟨b, S, by rw [rw3_length], rfl, (rw3_length S).symm, s⟩
theorem nil3 {h0 h : H} {L : List (Nat × Blk)} {b : Nat} (s : St h0 h ((b, .cells true 1 []) :: L)) : St h0 h ((b, row (slc3 [])) :: (blk3 [] ++ L)) := s
theorem St.call3 {h0 h h' : H} {L : List (Nat × Blk)} {b : Nat} {S : RL3} (s : St h0 h L) (t : St h h' ((b, row (slc3 S)) :: (blk3 S ++ []))) : St h0 h' ((b, row (slc3 S)) :: (blk3 S ++ L)) := by
  have := s.call t
  simpa using this
/-- rows of rows are put behind -/
theorem AppG.st3 {h0 h : H} {K : AV → H → Prop} {L : List (Nat × Blk)} {b bytes N C c n' : Nat} {S : RL3} {R : RL} (s : St h0 h ((c, row (slcs R)) :: (blks R ++ (b, row (slc3 S)) :: (blk3 S ++ L)))) (hN : N = S.length) (hl : n' = R.length) (hb : S.length + 1 ≤ 1000000000) (hy : bytes ≤ 1000)
    (hk : ∀ b' h', St h0 h' ((b', row (slc3 (S ++ [(c, R)]))) :: (blk3 (S ++ [(c, R)]) ++ L)) → K (.slice b' 0 (N + 1) (N + 1)) h') : AppG h (.slice b 0 N C) bytes [.slice c 0 n' n'] 1 K := by
  subst hl
  refine AppG.stV (L' := fun b' => (c, row (slcs R)) :: (blks R ++ (b', row (slc3 S ++ [.slice c 0 R.length R.length])) :: (blk3 S ++ L))) s (fun b' => .there (Spot.app .here)) (by rw [slc3_length]; exact hN) (by rw [slc3_length]; exact hb) hy rfl fun b' h' hs' => hk b' h' (hs'.perm ?_)
  have e1 : slc3 S ++ [.slice c 0 R.length R.length] = slc3 (S ++ [(c, R)]) := by rw [slc3_append]; rfl
  rw [e1, blk3_append]
  have e2 : blk3 [(c, R)] = (c, row (slcs R)) :: blks R := by rw [blk3_cons]; simp [blk3]
  rw [e2]
  generalize (b', row (slc3 (S ++ [(c, R)]))) = x
  generalize (c, row (slcs R)) = y
  generalize blks R = P
  generalize blk3 S = Q
  have p1 : (y :: (P ++ x :: (Q ++ L))).Perm (x :: (y :: P ++ (Q ++ L))) := (List.perm_middle (l₁ := y :: P) (l₂ := Q ++ L) (a := x))
  refine p1.trans (.cons _ ?_)
  rw [← List.append_assoc]
  exact List.perm_append_comm.append_right L

end Go.Proofs.YtbicfognbbeigaaGreat
