/-
  Contracts of tables of loops are proved.
  They hold for all sizes.
-/
import Derived.Test.YtdfdlnjijccpeaaC31
set_option linter.unusedVariables false
set_option linter.unusedSimpArgs false
namespace Go.Proofs.Ytdfdlnjijccpeaa
open Go.Proofs.Ytdfdlnjijccpeaa.Ab Go.Proofs.Ytdfdlnjijccpeaa.Pl

/-- one more at a place -/
def bump (l : List Int) (i : Nat) : List Int := l.set i (l.getD i 0 + 1)
theorem bump_len (l : List Int) (i : Nat) : (bump l i).length = l.length := by simp [bump]
/-- loops of two matchings, by their paths -/
def lpW (v w : List UInt8) : Nat := loopsN (ga (ptL v)) (ga (ptL w)) (ptL v).length
def tabRow (v : List UInt8) (X : List (List UInt8)) (t : List Int) : Nat → List Int
  | 0 => t
  | k + 1 => bump (tabRow v X t k) (lpW v (X.getD k []))
def tabAll (X : List (List UInt8)) (t : List Int) : Nat → List Int
  | 0 => t
  | k + 1 => tabRow (X.getD k []) X (tabAll X t k) X.length
theorem tabRow_len (v : List UInt8) (X : List (List UInt8)) (t : List Int) : ∀ k, (tabRow v X t k).length = t.length
  | 0 => rfl
  | k + 1 => by rw [tabRow, bump_len, tabRow_len v X t k]
theorem tabAll_len (X : List (List UInt8)) (t : List Int) : ∀ k, (tabAll X t k).length = t.length
  | 0 => rfl
  | k + 1 => by rw [tabAll, tabRow_len, tabAll_len X t k]
/-- all numbers of a table are small -/
def smallT (l : List Int) (m : Int) : Prop := ∀ i, 0 ≤ l.getD i 0 ∧ l.getD i 0 ≤ m
theorem bump_small {l : List Int} {m : Int} (h : smallT l m) (i : Nat) : smallT (bump l i) (m + 1) := fun j => by
  unfold bump
  have a := h j
  have b := h i
  by_cases e : i = j
  · subst e
    by_cases c : i < l.length
    · simp only [List.getD, List.getElem?_set_self c, Option.getD_some]
      simp only [List.getD] at a
      omega
    · rw [List.set_eq_of_length_le (by omega)]
      omega
  · simp only [List.getD, List.getElem?_set_ne e]
    simp only [List.getD] at a
    omega
theorem tabRow_small (v : List UInt8) (X : List (List UInt8)) {t : List Int} {m : Int} (h : smallT t m) : ∀ k : Nat, smallT (tabRow v X t k) (m + k)
  | 0 => by simpa [tabRow] using h
  | k + 1 => by
    rw [tabRow, show m + ((k + 1 : Nat) : Int) = m + k + 1 by omega]
    exact bump_small (tabRow_small v X h k) _
theorem tabAll_small (X : List (List UInt8)) {t : List Int} (h : smallT t 0) (N : Nat) (hX : X.length ≤ N) : ∀ k : Nat, smallT (tabAll X t k) (k * N : Nat)
  | 0 => by simpa [tabAll] using h
  | k + 1 => fun j => by
    have a := tabRow_small (X.getD k []) X (tabAll_small X h N hX k) X.length j
    have e : ((k + 1) * N : Nat) = k * N + N := by rw [Nat.add_mul, Nat.one_mul]
    rw [tabAll, e]
    omega
def ltD (n : Int) : List Int × Bool := if 0 ≤ n ∧ n ≤ 5 then (tabAll (dyP n.toNat) (List.replicate (n.toNat + 1) 0) (dyP n.toNat).length, true) else ([], false)
theorem loops_fine : ∀ n, n < 6 → ((dyP n).all fun v => (dyP n).all fun w => decide (lpW v w ≤ n)) = true := by decide +kernel

theorem Spot.app {α : Type} {l l' : List α} {a q : α} (s : Spot l a q l') : ∀ X : List α, Spot (X ++ l) a q (X ++ l')
  | [] => s
  | x :: X => .there (Spot.app s X)
theorem lpW_le {n i k : Nat} (hn : n ≤ 5) (hi : i < (dyP n).length) (hk : k < (dyP n).length) : lpW ((dyP n).getD i []) ((dyP n).getD k []) ≤ n := by
  have e1 : (dyP n).getD i [] = (dyP n)[i] := by simp [List.getD, hi]
  have e2 : (dyP n).getD k [] = (dyP n)[k] := by simp [List.getD, hk]
  rw [e1, e2]
  have := List.all_eq_true.1 (loops_fine n (by omega)) _ (List.getElem_mem hi)
  exact of_decide_eq_true (List.all_eq_true.1 this _ (List.getElem_mem hk))
theorem small0 (n : Nat) : smallT (List.replicate n 0) 0 := fun i => by
  simp only [List.getD, List.getElem?_replicate]
  split <;> simp
theorem small_in (X : List (List UInt8)) (n i k : Nat) (v : List UInt8) (hX : X.length ≤ 8192) (hi : i ≤ 8192) (hk : k ≤ 8192) (j : Nat) : 0 ≤ (tabRow v X (tabAll X (List.replicate n 0) i) k).getD j 0 ∧ (tabRow v X (tabAll X (List.replicate n 0) i) k).getD j 0 ≤ 100000000 := by
  have a := tabRow_small v X (tabAll_small X (small0 n) 8192 hX i) k j
  omega

set_option maxHeartbeats 1000000 in
theorem iLoopTable_ok (m : Int) (h0 : H) : AC env 64 [.int .i64 m] h0 (RetI (ltD m) h0) := by
  have hs := St.refl h0
  by_cases h : 0 ≤ m ∧ m ≤ 5
  · obtain ⟨n, rfl⟩ := Int.eq_ofNat_of_zero_le h.1
    have hn5 : n ≤ 5 := by omega
    have e0 : ltD n = (tabAll (dyP n) (List.replicate (n + 1) 0) (dyP n).length, true) := if_pos h
    have hlen := dyP_len (show n ≤ 6 by omega)
    have hat := fun k (hk : k < (dyP n).length) => okW_spec (dyP_at (show n ≤ 6 by omega) hk)
    have hlp := fun i k (hi : i < (dyP n).length) (hk : k < (dyP n).length) => lpW_le hn5 hi hk
    have e1 : dyP ((n : Int).toNat) = dyP n := rfl
    have en : ((n : Int) + 1).toNat = n + 1 := by omega
    generalize dyP n = X at hlen hat hlp e0 e1
    refine AC.enter Try.func64 Try.call64 rfl Try.ntmps64 (of_decide_eq_true (by rfl)) ?_
    repeat' (first
      | (refine NewG.stZ hs rfl (fun bo h' hsA => ?_); rw [en] at hsA; conv => whnf)
      | (refine (matchings_ok _ _ (by omega)).mono ?_; rw [e1]; rintro v h' ⟨bR, R, rfl, hR, hN, hsR⟩; have hsB := St.callR hsA hsR; clear hsR; conv => whnf)
      | refine AW.seq ?_
      | (refine AW.region ?_; conv => whnf)
      | refine AW.block ?_
      | (refine AW.skip ?_; conv => whnf)
      | refine AW.cond (by rfl) ?_
      | (refine (within_ok _ _ _ _).mono ?_; rintro v h' ⟨rfl, e'⟩; subst h'; conv => whnf)
      | refine Br.not ?_
      | (refine Br.dt (by omega) ?_; conv => whnf)
      | (refine Wr.i64 (by omega) ?_; conv => whnf)
      | (refine Ck.slice (by omega) (by omega) (by omega) (by decide) ?_; conv => whnf))
    refine AW.loop1 (fun (i : Nat) => [(4, .slice bo 0 ((n : Int) + 1).toNat ((n : Int) + 1).toNat), (5, .slice bR 0 X.length X.length), (19, .slice bR 0 X.length X.length), (20, .int .i64 X.length), (21, .int .i64 i)])
      (fun i h' => i ≤ X.length ∧ St h0 h' ((bR, row (slcs R)) :: (blks R ++ [(bo, row (ints (tabAll X (List.replicate (n + 1) 0) i)))]))) (fun i => X.length - i) 0 (Less.cons rfl (Less.cons rfl (Less.cons rfl (Less.cons rfl (Less.cons rfl (Less.nil _)))))) ⟨by omega, hsB⟩ ?_
    rintro i h1 ⟨hi, hs1⟩
    clear hs hsA hsB
    by_cases hlt : i < X.length
    · obtain ⟨c1, c2, c3, c4, c5⟩ := hat i hlt
      have lv := ptL_len (X.getD i [])
      have ev := map_at X hlt
      have iv := into_of (isNC_spec c5)
      have hg1 := hs1.rows
      repeat' (first
        | (refine Grid.rowAt hg1 hR i rfl rfl (by omega) (q := (ptL (X.getD i [])).length) (by rw [ev]) ?_; conv => whnf)
        | refine AW.seq ?_
        | (refine AW.region ?_; conv => whnf)
        | refine AW.block ?_
        | (refine AW.skip ?_; conv => whnf)
        | refine AW.cond (by rfl) ?_
        | (refine Br.dt (by omega) ?_; conv => whnf)
        | (refine Ck.mk (by omega) ?_; conv => whnf))
      refine AW.loop1 (fun (k : Nat) => [(4, .slice bo 0 ((n : Int) + 1).toNat ((n : Int) + 1).toNat), (5, .slice bR 0 X.length X.length), (7, .slice (rb R i) 0 (ptL (X.getD i [])).length (ptL (X.getD i [])).length), (19, .slice bR 0 X.length X.length), (20, .int .i64 X.length), (21, .int .i64 i), (25, .slice bR 0 X.length X.length), (26, .int .i64 X.length), (27, .int .i64 k)])
        (fun k h' => k ≤ X.length ∧ St h0 h' ((bR, row (slcs R)) :: (blks R ++ [(bo, row (ints (tabRow (X.getD i []) X (tabAll X (List.replicate (n + 1) 0) i) k)))]))) (fun k => X.length - k) 0 (Less.cons rfl (Less.cons rfl (Less.cons rfl (Less.cons rfl (Less.cons rfl (Less.cons rfl (Less.cons rfl (Less.cons rfl (Less.cons rfl (Less.nil _)))))))))) ⟨by omega, hs1⟩ ?_
      rintro k h2 ⟨hk, hs2⟩
      clear hs1 hg1
      by_cases hlt2 : k < X.length
      · obtain ⟨d1, d2, d3, d4, d5⟩ := hat k hlt2
        have lw := ptL_len (X.getD k [])
        have ew := map_at X hlt2
        have la : (ptL (X.getD k [])).length = (ptL (X.getD i [])).length := by omega
        have iw := into_of (isNC_spec d5)
        rw [la] at iw
        have hg2 := hs2.rows
        have hm1 : Has h2 (rb R i) (ints (ptL (X.getD i []))) := by rw [← ev, rws_at hR]; exact hg2.at (by omega)
        have hm2 : Has h2 (rb R k) (ints (ptL (X.getD k []))) := by rw [← ew, rws_at hR]; exact hg2.at (by omega)
        have hx := hlp i k hlt hlt2
        have hsm := small_in X (n + 1) i k (X.getD i []) hlen (by omega) (by omega) (lpW (X.getD i []) (X.getD k []))
        have hst : tabRow (X.getD i []) X (tabAll X (List.replicate (n + 1) 0) i) (k + 1) = (tabRow (X.getD i []) X (tabAll X (List.replicate (n + 1) 0) i) k).set (lpW (X.getD i []) (X.getD k [])) ((tabRow (X.getD i []) X (tabAll X (List.replicate (n + 1) 0) i) k).getD (lpW (X.getD i []) (X.getD k [])) 0 + 1) := rfl
        have hTl : (tabRow (X.getD i []) X (tabAll X (List.replicate (n + 1) 0) i) k).length = n + 1 := by rw [tabRow_len, tabAll_len, List.length_replicate]
        generalize tabRow (X.getD i []) X (tabAll X (List.replicate (n + 1) 0) i) k = T at hs2 hsm hst hTl
        repeat' (first
          | (refine Grid.rowAt hg2 hR k rfl rfl (by omega) (q := (ptL (X.getD i [])).length) (by rw [ew]; exact la) ?_; conv => whnf)
          | (refine (cycles_ok (ptL (X.getD i [])) (ptL (X.getD k [])) _ _ _ _ _ hm1 hm2 iv iw la (by omega)).mono ?_; rw [show loopsN (ga (ptL (X.getD i []))) (ga (ptL (X.getD k []))) (ptL (X.getD i [])).length = lpW (X.getD i []) (X.getD k []) from rfl]; rintro v h' ⟨rfl, hk'⟩; have hs3 := St.keep hs2 hk'; conv => whnf)
          | (refine Has.loadAt (hs3.has (.tail _ (List.mem_append_right _ (.head _)))) rfl (ints_get T (lpW (X.getD i []) (X.getD k [])) (by omega)) ?_; conv => whnf)
          | (refine StoreG.stZ hs3 (.there (Spot.app .here (blks R))) rfl (by omega) (fun h' hs4 => ?_); conv => whnf)
          | refine AW.seq ?_
          | (refine AW.region ?_; conv => whnf)
          | refine AW.block ?_
          | (refine AW.skip ?_; conv => whnf)
          | refine AW.cond (by rfl) ?_
          | (refine Br.dt (by omega) ?_; conv => whnf)
          | (refine Wr.i64 (by omega) ?_; conv => whnf)
          | (refine Ck.mk (by omega) ?_; conv => whnf))
        exact ⟨k + 1, (Less.cons rfl (Less.cons rfl (Less.cons rfl (Less.cons rfl (Less.cons rfl (Less.cons rfl (Less.cons rfl (Less.cons rfl (Less.cons rfl (Less.nil _)))))))))), ⟨by omega, by rw [hst]; exact hs4⟩, by omega⟩
      · repeat' (first
          | refine AW.seq ?_
          | (refine AW.region ?_; conv => whnf)
          | (refine AW.exit ?_; conv => whnf)
          | refine AW.cond (by rfl) ?_
          | (refine Br.df (by omega) ?_; conv => whnf)
          | (refine Wr.i64 (by omega) ?_; conv => whnf))
        have e : k = X.length := by omega
        subst e
        exact ⟨i + 1, (Less.cons rfl (Less.cons rfl (Less.cons rfl (Less.cons rfl (Less.cons rfl (Less.nil _)))))), ⟨by omega, hs2⟩, by omega⟩
    · repeat' (first
        | refine AW.seq ?_
        | (refine AW.region ?_; conv => whnf)
        | (refine AW.ret ?_; conv => whnf)
        | (refine AW.exit ?_; conv => whnf)
        | refine AW.cond (by rfl) ?_
        | (refine Br.df (by omega) ?_; conv => whnf))
      have e : i = X.length := by omega
      subst e
      exact RetI.mk' e0 (by rw [tabAll_len, List.length_replicate, en]) (newAtD hs1 (.tail _ (List.mem_append_right _ (.head _))))
  · have e0 : ltD m = ([], false) := if_neg h
    refine AC.enter Try.func64 Try.call64 rfl Try.ntmps64 (of_decide_eq_true (by rfl)) ?_
    repeat' (first
      | refine AW.seq ?_
      | (refine AW.region ?_; conv => whnf)
      | (refine AW.ret ?_; conv => whnf)
      | refine AW.cond (by rfl) ?_
      | (refine (within_ok _ _ _ _).mono ?_; rintro v h' ⟨rfl, e'⟩; subst h'; conv => whnf)
      | refine Br.not ?_
      | (refine Br.df (by omega) ?_; conv => whnf)
      | (refine NewG.st (by assumption) (fun bt h' hs' => ?_); conv => whnf))
    all_goals exact RetI.mk' (l := []) e0 rfl hs'.toNew

set_option maxHeartbeats 2000000 in
theorem sLoopTable_ok (m : Int) (h0 : H) : AC env 65 [.int .i64 m] h0 (RetI (ltD m) h0) := by
  have hs := St.refl h0
  by_cases h : 0 ≤ m ∧ m ≤ 5
  · obtain ⟨n, rfl⟩ := Int.eq_ofNat_of_zero_le h.1
    have hn5 : n ≤ 5 := by omega
    have e0 : ltD n = (tabAll (dyP n) (List.replicate (n + 1) 0) (dyP n).length, true) := if_pos h
    have hlen := dyP_len (show n ≤ 6 by omega)
    have hok := fun k (hk : k < (dyP n).length) => dyP_at (show n ≤ 6 by omega) hk
    have hlp := fun i k (hi : i < (dyP n).length) (hk : k < (dyP n).length) => lpW_le hn5 hi hk
    have e1 : dyAll (2 * ((n : Int).toNat) + 1) [] (n : Int) (n : Int) = dyP n := rfl
    have en : ((n : Int) + 1).toNat = n + 1 := by omega
    generalize dyP n = X at hlen hok hlp e0 e1
    have hat := fun k (hk : k < X.length) => okW_spec (hok k hk)
    refine AC.enter Try.func65 Try.call65 rfl Try.ntmps65 (of_decide_eq_true (by rfl)) ?_
    repeat' (first
      | (refine (sPathsOf_ok _ _ (by omega)).mono ?_; rw [e1]; rintro v h' ⟨bs, rfl, hn⟩; have hsA := St.newCall hs hn; clear hn; conv => whnf)
      | (refine NewG.st hsA (fun bo h' hsB => ?_); conv => whnf)
      | refine AW.seq ?_
      | (refine AW.region ?_; conv => whnf)
      | refine AW.block ?_
      | (refine AW.skip ?_; conv => whnf)
      | refine AW.cond (by rfl) ?_
      | (refine (l1In_ok _ _ _ _).mono ?_; rintro v h' ⟨rfl, e'⟩; subst h'; conv => whnf)
      | refine Br.not ?_
      | (refine Br.dt (by omega) ?_; conv => whnf))
    refine AW.loop3 (fun (R : RL) (b k : Nat) => [(0, .int .i64 n), (4, .slice bs 0 X.length X.length), (5, .slice b 0 k k), (6, .int .i64 k)])
      (fun R b k h' => k ≤ X.length ∧ R.length = k ∧ rws R = (X.take k).map ptL ∧ St h0 h' ((b, row (slcs R)) :: (blks R ++ [(bs, row (strs X))]))) (fun _ _ k => X.length - k) [] bo 0
      (Less.cons rfl (Less.cons rfl (Less.cons rfl (Less.cons rfl (Less.nil _))))) ⟨by omega, rfl, by simp [rws], by simpa [slcs, blks] using hsB⟩ ?_
    rintro R b k h1 ⟨hk, hRl, hrw, hs1⟩
    clear hs hsA hsB
    by_cases hlt : k < X.length
    · have c0 := hok k hlt
      have c1 := (hat k hlt).1
      have lp := ptL_len (X.getD k [])
      repeat' (first
        | (refine Has.loadAt (hs1.has (.tail _ (List.mem_append_right _ (.head _)))) rfl (strs_get X k hlt) ?_; conv => whnf)
        | (refine (sMatchingP_ok c0 (by omega) _).mono ?_; rintro v h' ⟨bp, rfl, hn⟩; have hs2 := St.newCall hs1 hn; clear hn; conv => whnf)
        | (refine NewG.st hs2 (fun bt h' hs3 => ?_); conv => whnf)
        | (refine AppG.stR hs3.tail hRl.symm rfl (by omega) (by decide) (fun b2 h' hs4 => ?_); conv => whnf)
        | refine AW.seq ?_
        | (refine AW.region ?_; conv => whnf)
        | refine AW.block ?_
        | (refine AW.skip ?_; conv => whnf)
        | refine AW.cond (by rfl) ?_
        | (refine Br.dt (by omega) ?_; conv => whnf)
        | (refine Wr.i64 (by omega) ?_; conv => whnf)
        | (refine Ck.mk (by omega) ?_; conv => whnf)
        | (refine LoadsG.has (by first | assumption | exact St.has (by assumption) (by repeat first | exact .head _ | apply List.Mem.tail) | exact St.arg (by assumption) (by assumption)) (by simp) ?_; conv => whnf))
      refine ⟨_, b2, k + 1, (Less.cons rfl (Less.cons rfl (Less.cons rfl (Less.cons rfl (Less.nil _))))), ⟨by omega, by simp; omega, ?_, hs4⟩, by omega⟩
      rw [rws_append, hrw, List.take_succ_eq_append_getElem hlt, List.map_append]
      simp [rws, List.getD, hlt]
    · have e : k = X.length := by omega
      subst e
      rw [List.take_length] at hrw
      repeat' (first
        | (refine NewG.stZ hs1 rfl (fun bo h' hsC => ?_); rw [en] at hsC; conv => whnf)
        | refine AW.seq ?_
        | (refine AW.region ?_; conv => whnf)
        | refine AW.block ?_
        | (refine AW.exit ?_; conv => whnf)
        | refine AW.cond (by rfl) ?_
        | (refine Br.df (by omega) ?_; conv => whnf)
        | (refine Wr.i64 (by omega) ?_; conv => whnf)
        | (refine Ck.slice (by omega) (by omega) (by omega) (by decide) ?_; conv => whnf))
      refine AW.loop1 (fun (i : Nat) => [(5, .slice b 0 X.length X.length), (9, .slice bo 0 ((n : Int) + 1).toNat ((n : Int) + 1).toNat), (10, .int .i64 i)])
        (fun i h' => i ≤ X.length ∧ St h0 h' ((bo, row (ints (tabAll X (List.replicate (n + 1) 0) i))) :: (b, row (slcs R)) :: (blks R ++ [(bs, row (strs X))]))) (fun i => X.length - i) 0 (Less.cons rfl (Less.cons rfl (Less.cons rfl (Less.nil _)))) ⟨by omega, hsC⟩ ?_
      rintro i h2 ⟨hi, hs2⟩
      clear hs1 hsC
      by_cases hlt1 : i < X.length
      · repeat' (first
          | refine AW.seq ?_
          | (refine AW.region ?_; conv => whnf)
          | refine AW.block ?_
          | (refine AW.skip ?_; conv => whnf)
          | refine AW.cond (by rfl) ?_
          | (refine Br.dt (by omega) ?_; conv => whnf))
        refine AW.loop1 (fun (k : Nat) => [(5, .slice b 0 X.length X.length), (9, .slice bo 0 ((n : Int) + 1).toNat ((n : Int) + 1).toNat), (10, .int .i64 i), (11, .int .i64 k)])
          (fun k h' => k ≤ X.length ∧ St h0 h' ((bo, row (ints (tabRow (X.getD i []) X (tabAll X (List.replicate (n + 1) 0) i) k))) :: (b, row (slcs R)) :: (blks R ++ [(bs, row (strs X))]))) (fun k => X.length - k) 0 (Less.cons rfl (Less.cons rfl (Less.cons rfl (Less.cons rfl (Less.nil _))))) ⟨by omega, hs2⟩ ?_
        rintro k h3 ⟨hk2, hs3⟩
        clear hs2
        by_cases hlt2 : k < X.length
        · obtain ⟨c1, c2, c3, c4, c5⟩ := hat i hlt1
          obtain ⟨d1, d2, d3, d4, d5⟩ := hat k hlt2
          have lv := ptL_len (X.getD i [])
          have lw := ptL_len (X.getD k [])
          have ev := map_at X hlt1
          have ew := map_at X hlt2
          have la : (ptL (X.getD k [])).length = (ptL (X.getD i [])).length := by omega
          have hg2 : Grid h3 b R := hs3.rowsIn (.tail _ (.head _)) fun p hp => .tail _ (.tail _ (List.mem_append_left _ hp))
          have hm1 : Has h3 (rb R i) (ints (ptL (X.getD i []))) := by rw [← ev, rws_at hrw]; exact hg2.at (by omega)
          have hm2 : Has h3 (rb R k) (ints (ptL (X.getD k []))) := by rw [← ew, rws_at hrw]; exact hg2.at (by omega)
          have hx := hlp i k hlt1 hlt2
          have ey : loopsOf (ptL (X.getD i [])) (ptL (X.getD k [])) = (lpW (X.getD i []) (X.getD k []) : Nat) := loopsOf_yes c5 d5 la.symm
          have hsm := small_in X (n + 1) i k (X.getD i []) hlen (by omega) (by omega) (lpW (X.getD i []) (X.getD k []))
          have hst : tabRow (X.getD i []) X (tabAll X (List.replicate (n + 1) 0) i) (k + 1) = (tabRow (X.getD i []) X (tabAll X (List.replicate (n + 1) 0) i) k).set (lpW (X.getD i []) (X.getD k [])) ((tabRow (X.getD i []) X (tabAll X (List.replicate (n + 1) 0) i) k).getD (lpW (X.getD i []) (X.getD k [])) 0 + 1) := rfl
          have hTl : (tabRow (X.getD i []) X (tabAll X (List.replicate (n + 1) 0) i) k).length = n + 1 := by rw [tabRow_len, tabAll_len, List.length_replicate]
          generalize tabRow (X.getD i []) X (tabAll X (List.replicate (n + 1) 0) i) k = T at hs3 hsm hst hTl
          repeat' (first
            | (refine Grid.rowAt hg2 hrw i rfl rfl (by omega) (q := (ptL (X.getD i [])).length) (by rw [ev]) ?_; conv => whnf)
            | (refine Grid.rowAt hg2 hrw k rfl rfl (by omega) (q := (ptL (X.getD k [])).length) (by rw [ew]) ?_; conv => whnf)
            | (refine (sLoopsOf_ok (ptL (X.getD i [])) (ptL (X.getD k [])) _ _ _ _ _ hm1 hm2 (by omega) (by omega)).mono ?_; rw [ey]; rintro v h' ⟨rfl, hk'⟩; have hs4 := St.keep hs3 hk'; conv => whnf)
            | (refine Has.loadAt (hs4.has (.head _)) rfl (ints_get T (lpW (X.getD i []) (X.getD k [])) (by omega)) ?_; conv => whnf)
            | (refine StoreG.stZ hs4 .here rfl (by omega) (fun h' hs5 => ?_); conv => whnf)
            | refine AW.seq ?_
            | (refine AW.region ?_; conv => whnf)
            | refine AW.block ?_
            | (refine AW.skip ?_; conv => whnf)
            | refine AW.cond (by rfl) ?_
            | (refine AW.draw (id := 17) (.p 0 (.p 1 (.p 2 (.p 4 (.p 5 (.p 6 (.r 3 [8, 9] (.r 7 [8, 9] (.all [8] fun _ => (.p 9 .done)))))))))) (by kernel_rfl) (by kernel_rfl) ?_; conv => whnf)
            | (refine Br.dt (by omega) ?_; conv => whnf)
            | (refine Wr.i64 (by omega) ?_; conv => whnf)
            | (refine Ck.mk (by omega) ?_; conv => whnf))
          exact ⟨k + 1, (Less.cons rfl (Less.cons rfl (Less.cons rfl (Less.cons rfl (Less.nil _))))), ⟨by omega, by rw [hst]; exact hs5⟩, by omega⟩
        · repeat' (first
            | refine AW.seq ?_
            | (refine AW.region ?_; conv => whnf)
            | (refine AW.exit ?_; conv => whnf)
            | refine AW.cond (by rfl) ?_
            | (refine Br.df (by omega) ?_; conv => whnf)
            | (refine Wr.i64 (by omega) ?_; conv => whnf))
          have e : k = X.length := by omega
          subst e
          exact ⟨i + 1, (Less.cons rfl (Less.cons rfl (Less.cons rfl (Less.nil _)))), ⟨by omega, hs3⟩, by omega⟩
      · repeat' (first
          | refine AW.seq ?_
          | (refine AW.region ?_; conv => whnf)
          | (refine AW.ret ?_; conv => whnf)
          | (refine AW.exit ?_; conv => whnf)
          | refine AW.cond (by rfl) ?_
          | (refine Br.df (by omega) ?_; conv => whnf))
        have e : i = X.length := by omega
        subst e
        exact RetI.mk' e0 (by rw [tabAll_len, List.length_replicate, en]) (newAtD hs2 (.head _))
  · have e0 : ltD m = ([], false) := if_neg h
    refine AC.enter Try.func65 Try.call65 rfl Try.ntmps65 (of_decide_eq_true (by rfl)) ?_
    repeat' (first
      | refine AW.seq ?_
      | (refine AW.region ?_; conv => whnf)
      | (refine AW.ret ?_; conv => whnf)
      | refine AW.cond (by rfl) ?_
      | (refine (l1In_ok _ _ _ _).mono ?_; rintro v h' ⟨rfl, e'⟩; subst h'; conv => whnf)
      | refine Br.not ?_
      | (refine Br.df (by omega) ?_; conv => whnf)
      | (refine NewG.st (by assumption) (fun bt h' hs' => ?_); conv => whnf))
    all_goals exact RetI.mk' (l := []) e0 rfl hs'.toNew

theorem ltD_len (m : Int) : (ltD m).1.length ≤ 6 := by
  unfold ltD
  split
  · simp only [tabAll_len, List.length_replicate]
    omega
  · simp
theorem ltD_yes {m : Int} (h : 0 ≤ m ∧ m ≤ 5) : (ltD m).2 = true ∧ (ltD m).1.length = m.toNat + 1 := by
  unfold ltD
  rw [if_pos h]
  exact ⟨rfl, by simp only [tabAll_len, List.length_replicate]⟩
theorem ltD_no {m : Int} (h : ¬ (0 ≤ m ∧ m ≤ 5)) : (ltD m).2 = false := by
  unfold ltD
  rw [if_neg h]
def cmD (m : Int) : Int := if 1 ≤ m ∧ m ≤ 5 then (ltD m).1.getD 1 0 else -1

theorem iCountMeanders_ok (m : Int) (h0 : H) : AC env 67 [.int .i64 m] h0 fun v h' => v = .int .i64 (cmD m) ∧ Keeps h0 h' := by
  have hs := St.refl h0
  by_cases h : 1 ≤ m ∧ m ≤ 5
  · have e := ltD_yes (show 0 ≤ m ∧ m ≤ 5 by omega)
    have e2 := e.2
    refine AC.enter Try.func67 Try.call67 rfl Try.ntmps67 (of_decide_eq_true (by rfl)) ?_
    repeat' (first
      | refine AW.seq ?_
      | (refine AW.region ?_; conv => whnf)
      | (refine AW.skip ?_; conv => whnf)
      | (refine AW.ret ?_; conv => whnf)
      | refine AW.cond (by rfl) ?_
      | (refine (within_ok _ _ _ _).mono ?_; rintro v h' ⟨rfl, e'⟩; subst h'; conv => whnf)
      | (refine (iLoopTable_ok _ _).mono ?_; rintro v h' ⟨b, rfl, hn⟩; have hs' := St.newCall (by assumption) hn; clear hn; conv => whnf)
      | refine Br.not ?_
      | (refine Br.dt (by omega) ?_; conv => whnf)
      | (refine Ck.mk (by omega) ?_; conv => whnf)
      | (refine Has.loadZ (by first | assumption | exact St.has (by assumption) (by repeat first | exact .head _ | apply List.Mem.tail) | exact St.arg (by assumption) (by assumption)) rfl (by first | (simp; done) | omega | (simp only [List.length_set, List.length_append, List.length_cons, List.length_nil, List.length_replicate, tab_length]; omega) | (simp; omega)) ?_; conv => whnf))
    exact ⟨by rw [cmD, if_pos h]; rfl, hs'.keeps⟩
  · refine AC.enter Try.func67 Try.call67 rfl Try.ntmps67 (of_decide_eq_true (by rfl)) ?_
    repeat' (first
      | refine AW.seq ?_
      | (refine AW.region ?_; conv => whnf)
      | (refine AW.ret ?_; conv => whnf)
      | refine AW.cond (by rfl) ?_
      | (refine (within_ok _ _ _ _).mono ?_; rintro v h' ⟨rfl, e'⟩; subst h'; conv => whnf)
      | refine Br.not ?_
      | (refine Br.df (by omega) ?_; conv => whnf))
    all_goals exact ⟨by rw [cmD, if_neg h], Keeps.refl _⟩

theorem sCountMeanders_ok (m : Int) (h0 : H) : AC env 74 [.int .i64 m] h0 fun v h' => v = .int .i64 (cmD m) ∧ Keeps h0 h' := by
  have hs := St.refl h0
  by_cases h : 1 ≤ m ∧ m ≤ 5
  · have e := ltD_yes (show 0 ≤ m ∧ m ≤ 5 by omega)
    have e1 := e.1
    have e2 := e.2
    refine AC.enter Try.func74 Try.call74 rfl Try.ntmps74 (of_decide_eq_true (by rfl)) ?_
    repeat' (first
      | refine AW.seq ?_
      | (refine AW.region ?_; conv => whnf)
      | (refine AW.skip ?_; conv => whnf)
      | (refine AW.ret ?_; conv => whnf)
      | refine AW.cond (by rfl) ?_
      | (refine (sLoopTable_ok _ _).mono ?_; rintro v h' ⟨b, rfl, hn⟩; have hs' := St.newCall (by assumption) hn; clear hn; conv => whnf)
      | refine Br.not ?_
      | (refine Br.t (by assumption) ?_; conv => whnf)
      | (refine Br.df (by omega) ?_; conv => whnf)
      | (refine Ck.mk (by omega) ?_; conv => whnf)
      | (refine Has.loadZ (by first | assumption | exact St.has (by assumption) (by repeat first | exact .head _ | apply List.Mem.tail) | exact St.arg (by assumption) (by assumption)) rfl (by first | (simp; done) | omega | (simp only [List.length_set, List.length_append, List.length_cons, List.length_nil, List.length_replicate, tab_length]; omega) | (simp; omega)) ?_; conv => whnf))
    all_goals first
      | exact ⟨by rw [cmD, if_pos h]; rfl, hs'.keeps⟩
      | (exfalso; rw [e1] at *; simp_all; done)
  · by_cases h2 : m = 0
    · have e1 := (ltD_yes (show 0 ≤ m ∧ m ≤ 5 by omega)).1
      refine AC.enter Try.func74 Try.call74 rfl Try.ntmps74 (of_decide_eq_true (by rfl)) ?_
      repeat' (first
        | refine AW.seq ?_
        | (refine AW.region ?_; conv => whnf)
        | (refine AW.ret ?_; conv => whnf)
        | refine AW.cond (by rfl) ?_
        | (refine (sLoopTable_ok _ _).mono ?_; rintro v h' ⟨b, rfl, hn⟩; have hs' := St.newCall (by assumption) hn; clear hn; conv => whnf)
        | refine Br.not ?_
        | (refine Br.t (by assumption) ?_; conv => whnf)
        | (refine Br.dt (by omega) ?_; conv => whnf))
      all_goals exact ⟨by rw [cmD, if_neg h], hs'.keeps⟩
    · have e1 := ltD_no (show ¬ (0 ≤ m ∧ m ≤ 5) by omega)
      refine AC.enter Try.func74 Try.call74 rfl Try.ntmps74 (of_decide_eq_true (by rfl)) ?_
      repeat' (first
        | refine AW.seq ?_
        | (refine AW.region ?_; conv => whnf)
        | (refine AW.ret ?_; conv => whnf)
        | refine AW.cond (by rfl) ?_
        | (refine (sLoopTable_ok _ _).mono ?_; rintro v h' ⟨b, rfl, hn⟩; have hs' := St.newCall (by assumption) hn; clear hn; conv => whnf)
        | (refine Br.tt ?_; conv => whnf)
        | refine Br.not ?_
        | (refine Br.f (by assumption) ?_; conv => whnf))
      all_goals exact ⟨by rw [cmD, if_neg h], hs'.keeps⟩



end Go.Proofs.Ytdfdlnjijccpeaa
