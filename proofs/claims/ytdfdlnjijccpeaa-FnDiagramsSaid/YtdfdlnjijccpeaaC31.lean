/-
  Contracts of partners of meanders are proved.
  They hold for all matchings.
-/
import Derived.Test.YtdfdlnjijccpeaaC30
set_option linter.unusedVariables false
set_option linter.unusedSimpArgs false
namespace Go.Proofs.Ytdfdlnjijccpeaa
open Go.Proofs.Ytdfdlnjijccpeaa.Ab Go.Proofs.Ytdfdlnjijccpeaa.Pl

theorem find_hit {X : List (List UInt8)} {p : List UInt8 → Bool} {k : Nat} (hk : k < X.length) (h : ∀ j, j < k → p (X.getD j []) = false) (e : p (X.getD k []) = true) : X.find? p = some (X.getD k []) := by
  have eg : X.getD k [] = X[k] := by simp [List.getD, hk]
  rw [eg] at e ⊢
  refine List.find?_eq_some_iff_append.2 ⟨e, X.take k, X.drop (k + 1), ?_, fun a ha => ?_⟩
  · rw [← List.drop_eq_getElem_cons hk, List.take_append_drop]
  · obtain ⟨j, hj⟩ := List.getElem?_of_mem ha
    rw [List.getElem?_take] at hj
    split at hj
    · rename_i c
      have := h j c
      rw [List.getD, hj] at this
      simpa using this
    · cases hj
theorem find_miss {X : List (List UInt8)} {p : List UInt8 → Bool} (h : ∀ j, j < X.length → p (X.getD j []) = false) : X.find? p = none := by
  refine List.find?_eq_none.2 fun a ha => ?_
  obtain ⟨j, hj⟩ := List.getElem?_of_mem ha
  have := h j (List.getElem?_eq_some_iff.1 hj).1
  rw [List.getD, hj] at this
  simpa using this
def mpFind (a : List Int) (X : List (List UInt8)) : List Int × Bool := match X.find? fun w => loopsOf a (ptL w) == 1 with
  | some w => (ptL w, true)
  | none => ([], false)
def mpD (a : List Int) : List Int × Bool := if isNC a = true ∧ 2 ≤ a.length ∧ a.length ≤ 12 then mpFind a (dyP (a.length / 2)) else ([], false)
theorem mpFind_hit {a : List Int} {X : List (List UInt8)} {k : Nat} (hk : k < X.length) (h : ∀ j, j < k → (loopsOf a (ptL (X.getD j [])) == 1) = false) (e : (loopsOf a (ptL (X.getD k [])) == 1) = true) : mpFind a X = (ptL (X.getD k []), true) := by
  unfold mpFind
  rw [find_hit (p := fun w => loopsOf a (ptL w) == 1) hk h e]
theorem mpFind_miss {a : List Int} {X : List (List UInt8)} (h : ∀ j, j < X.length → (loopsOf a (ptL (X.getD j [])) == 1) = false) : mpFind a X = ([], false) := by
  unfold mpFind
  rw [find_miss (p := fun w => loopsOf a (ptL w) == 1) h]

theorem map_at (X : List (List UInt8)) {k : Nat} (hk : k < X.length) : (X.map ptL).getD k [] = ptL (X.getD k []) := by
  simp [List.getD, hk]

set_option maxHeartbeats 1000000 in
theorem iMeanderPartner_ok (a : List Int) (ba C : Nat) (h0 : H) (hb : Has h0 ba (ints a)) : AC env 69 [.slice ba 0 a.length C] h0 (RetI (mpD a) h0) := by
  have hs := St.refl h0
  by_cases h : isNC a = true ∧ 2 ≤ a.length ∧ a.length ≤ 12
  · obtain ⟨hnc, hl1, hl2⟩ := h
    have e0 : mpD a = mpFind a (dyP (a.length / 2)) := if_pos ⟨hnc, hl1, hl2⟩
    have ev := isM_even (isNC_spec hnc)
    have hq := half_len a.length
    have ia := into_of (isNC_spec hnc)
    have hn6 : a.length / 2 ≤ 6 := by omega
    have hat := fun k (hk : k < (dyP (a.length / 2)).length) => okW_spec (dyP_at hn6 hk)
    have hlen := dyP_len hn6
    have e1 : dyP (((a.length / 2 : Nat) : Int).toNat) = dyP (a.length / 2) := rfl
    generalize dyP (a.length / 2) = X at hat e0 e1 hlen
    refine AC.enter Try.func69 Try.call69 rfl Try.ntmps69 (of_decide_eq_true (by rfl)) ?_
    repeat' (first
      | (refine (matchings_ok _ _ (by omega)).mono ?_; rw [hq, e1]; rintro v h' ⟨bR, R, rfl, hR, hN, hs1⟩; conv => whnf)
      | refine AW.seq ?_
      | (refine AW.region ?_; conv => whnf)
      | refine AW.block ?_
      | (refine AW.skip ?_; conv => whnf)
      | refine AW.cond (by rfl) ?_
      | (refine (iIsNC_ok _ _ _ _ _ (by first | assumption | exact St.has (by assumption) (by repeat first | exact .head _ | apply List.Mem.tail) | exact St.arg (by assumption) (by assumption)) (by first | rfl | omega)).mono ?_; rintro v h' ⟨rfl, e'⟩; subst h'; conv => whnf)
      | (refine (within_ok _ _ _ _).mono ?_; rintro v h' ⟨rfl, e'⟩; subst h'; conv => whnf)
      | refine Br.not ?_
      | (refine Br.t (by assumption) ?_; conv => whnf)
      | (refine Br.dt (by omega) ?_; conv => whnf)
      | (refine Wr.i64 (by omega) ?_; conv => whnf)
      | (refine Ck.mk (by omega) ?_; conv => whnf))
    refine AW.loop1 (fun (k : Nat) => [(0, .slice ba 0 a.length C), (19, .slice bR 0 X.length X.length), (20, .int .i64 X.length), (21, .int .i64 k)])
      (fun k h' => k ≤ X.length ∧ (∀ j, j < k → (loopsOf a (ptL (X.getD j [])) == 1) = false) ∧ St h0 h' ((bR, row (slcs R)) :: (blks R ++ []))) (fun k => X.length - k) 0
      (Less.cons rfl (Less.cons rfl (Less.cons rfl (Less.cons rfl (Less.nil _))))) ⟨by omega, fun j hj => by omega, hs1⟩ ?_
    rintro k h1 ⟨hk, hno, hs2⟩
    clear hs hs1
    by_cases hlt : k < X.length
    · obtain ⟨c1, c2, c3, c4, c5⟩ := hat k hlt
      have lp := ptL_len (X.getD k [])
      have la : (ptL (X.getD k [])).length = a.length := by omega
      have im := into_of (isNC_spec c5)
      rw [la] at im
      have hg := hs2.rows
      have ef := map_at X hlt
      have er : rl R k = ptL (X.getD k []) := by rw [← rws_at hR, ef]
      have hm : Has h1 (rb R k) (ints (ptL (X.getD k []))) := by rw [← er]; exact hg.at (by omega)
      have ey := loopsOf_yes hnc c5 la.symm
      by_cases hc1 : (loopsOf a (ptL (X.getD k [])) == 1) = true
      · have hc2 : (loopsN (ga a) (ga (ptL (X.getD k []))) a.length : Int) = 1 := by rw [← ey]; simpa using hc1
        repeat' (first
          | (refine Grid.rowAt hg hR k rfl rfl (by omega) (q := a.length) (by rw [ef]; exact la) ?_; conv => whnf)
          | (refine (cycles_ok a (ptL (X.getD k [])) _ _ _ _ _ (hb.keep hs2.keeps) hm ia im la (by omega)).mono ?_; rintro v h' ⟨rfl, hk'⟩; have hs3 := St.keep hs2 hk'; conv => whnf)
          | refine AW.seq ?_
          | (refine AW.region ?_; conv => whnf)
          | refine AW.block ?_
          | (refine AW.skip ?_; conv => whnf)
          | (refine AW.ret ?_; conv => whnf)
          | refine AW.cond (by rfl) ?_
          | (refine Br.dt (by omega) ?_; conv => whnf)
          | (refine Ck.mk (by omega) ?_; conv => whnf))
        refine RetI.mk' (by rw [e0, mpFind_hit hlt hno hc1]) la.symm (newAtD hs3 (.tail _ (List.mem_append_left _ ?_)))
        rw [← er]
        exact List.mem_map.2 ⟨(rb R k, rl R k), rl_mem R k (by omega), rfl⟩
      · have hc1 : (loopsOf a (ptL (X.getD k [])) == 1) = false := by simpa using hc1
        have hc2 : ¬ (loopsN (ga a) (ga (ptL (X.getD k []))) a.length : Int) = 1 := by rw [← ey]; simpa using hc1
        repeat' (first
          | (refine Grid.rowAt hg hR k rfl rfl (by omega) (q := a.length) (by rw [ef]; exact la) ?_; conv => whnf)
          | (refine (cycles_ok a (ptL (X.getD k [])) _ _ _ _ _ (hb.keep hs2.keeps) hm ia im la (by omega)).mono ?_; rintro v h' ⟨rfl, hk'⟩; have hs3 := St.keep hs2 hk'; conv => whnf)
          | refine AW.seq ?_
          | (refine AW.region ?_; conv => whnf)
          | refine AW.block ?_
          | (refine AW.skip ?_; conv => whnf)
          | refine AW.cond (by rfl) ?_
          | (refine Br.dt (by omega) ?_; conv => whnf)
          | (refine Br.df (by omega) ?_; conv => whnf)
          | (refine Wr.i64 (by omega) ?_; conv => whnf)
          | (refine Ck.mk (by omega) ?_; conv => whnf))
        refine ⟨k + 1, (Less.cons rfl (Less.cons rfl (Less.cons rfl (Less.cons rfl (Less.nil _))))), ⟨by omega, fun j hj => ?_, hs3⟩, by omega⟩
        by_cases e : j = k
        · rw [e]; exact hc1
        · exact hno j (by omega)
    · repeat' (first
        | refine AW.seq ?_
        | (refine AW.region ?_; conv => whnf)
        | (refine AW.ret ?_; conv => whnf)
        | (refine AW.exit ?_; conv => whnf)
        | refine AW.cond (by rfl) ?_
        | (refine Br.df (by omega) ?_; conv => whnf)
        | (refine NewG.st (by assumption) (fun bt h' hs' => ?_); conv => whnf))
      exact RetI.mk' (l := []) (by rw [e0, mpFind_miss fun j hj => hno j (by omega)]) rfl hs'.toNew
  · have e0 : mpD a = ([], false) := if_neg h
    refine AC.enter Try.func69 Try.call69 rfl Try.ntmps69 (of_decide_eq_true (by rfl)) ?_
    repeat' (first
      | refine AW.seq ?_
      | (refine AW.region ?_; conv => whnf)
      | (refine AW.skip ?_; conv => whnf)
      | (refine AW.ret ?_; conv => whnf)
      | refine AW.cond (by rfl) ?_
      | (refine (iIsNC_ok _ _ _ _ _ (by first | assumption | exact St.has (by assumption) (by repeat first | exact .head _ | apply List.Mem.tail) | exact St.arg (by assumption) (by assumption)) (by first | rfl | omega)).mono ?_; rintro v h' ⟨rfl, e'⟩; subst h'; conv => whnf)
      | (refine (within_ok _ _ _ _).mono ?_; rintro v h' ⟨rfl, e'⟩; subst h'; conv => whnf)
      | (refine Br.tt ?_; conv => whnf)
      | refine Br.not ?_
      | (refine Br.t (by assumption) ?_; conv => whnf)
      | (refine Br.f (by assumption) ?_; conv => whnf)
      | (refine Br.dec (fun hc => ?_) (fun hc => ?_) <;> conv => whnf)
      | (refine Br.mk (fun hc => ?_) (fun hc => ?_) <;> conv => whnf)
      | (refine Ck.mk (by omega) ?_; conv => whnf)
      | (refine NewG.st (by assumption) (fun bt h' hs' => ?_); conv => whnf))
    all_goals first
      | exact RetI.mk' (l := []) e0 rfl hs'.toNew
      | (exfalso; exact h ⟨by assumption, by omega, by omega⟩)

theorem sMatchingP_ok {n : Nat} {w : List UInt8} (h : okW n w = true) (hn : n ≤ 6) (h0 : H) : AC env 16 [.str w] h0 fun v h' => ∃ b, v = .tup [.slice b 0 (ptL w).length (ptL w).length, .bool true] ∧ New h0 h' b (ints (ptL w)) := by
  obtain ⟨c1, c2, c3, c4, c5⟩ := okW_spec h
  rw [ptL_len]
  exact sMatchingOf_ok w (ptL w) h0 c2 (ptL_len w) c3 (by omega)

set_option maxHeartbeats 1000000 in
theorem sMeanderPartner_ok (a : List Int) (ba C : Nat) (h0 : H) (hb : Has h0 ba (ints a)) (hL : a.length ≤ 10000000) : AC env 70 [.slice ba 0 a.length C] h0 (RetI (mpD a) h0) := by
  have hs := St.refl h0
  have hq := half_len a.length
  by_cases h : isNC a = true ∧ 2 ≤ a.length ∧ a.length ≤ 12
  · obtain ⟨hnc, hl1, hl2⟩ := h
    have e0 : mpD a = mpFind a (dyP (a.length / 2)) := if_pos ⟨hnc, hl1, hl2⟩
    have hn6 : a.length / 2 ≤ 6 := by omega
    have hat := fun k (hk : k < (dyP (a.length / 2)).length) => dyP_at hn6 hk
    have hlen := dyP_len hn6
    have e1 : dyAll (2 * ((a.length / 2 : Nat) : Int).toNat + 1) [] ((a.length / 2 : Nat) : Int) ((a.length / 2 : Nat) : Int) = dyP (a.length / 2) := rfl
    generalize dyP (a.length / 2) = X at hat e0 e1 hlen
    refine AC.enter Try.func70 Try.call70 rfl Try.ntmps70 (of_decide_eq_true (by rfl)) ?_
    repeat' (first
      | (refine (sPathsOf_ok _ _ (by omega)).mono ?_; rw [hq, e1]; rintro v h' ⟨bs, rfl, hn⟩; have hs1 := St.newCall hs hn; clear hn; conv => whnf)
      | refine AW.seq ?_
      | (refine AW.region ?_; conv => whnf)
      | refine AW.block ?_
      | (refine AW.skip ?_; conv => whnf)
      | refine AW.cond (by rfl) ?_
      | (refine (sIsNC_ok _ _ _ _ _ (by first | assumption | exact St.has (by assumption) (by repeat first | exact .head _ | apply List.Mem.tail) | exact St.arg (by assumption) (by assumption)) (by first | rfl | omega) (by first | (simp; done) | omega | (simp only [List.length_set, List.length_append, List.length_cons, List.length_nil, List.length_replicate, tab_length]; omega) | (simp; omega))).mono ?_; rintro v h' ⟨rfl, e'⟩; subst h'; conv => whnf)
      | (refine (l1In_ok _ _ _ _).mono ?_; rintro v h' ⟨rfl, e'⟩; subst h'; conv => whnf)
      | refine Br.not ?_
      | (refine Br.t (by assumption) ?_; conv => whnf)
      | (refine Br.dt (by omega) ?_; conv => whnf)
      | (refine Wr.i64 (by omega) ?_; conv => whnf)
      | (refine Ck.mk (by omega) ?_; conv => whnf))
    refine AW.loop1 (fun (k : Nat) => [(0, .slice ba 0 a.length C), (5, .slice bs 0 X.length X.length), (6, .int .i64 k)])
      (fun k h' => k ≤ X.length ∧ (∀ j, j < k → (loopsOf a (ptL (X.getD j [])) == 1) = false) ∧ St h0 h' [(bs, row (strs X))]) (fun k => X.length - k) 0
      (Less.cons rfl (Less.cons rfl (Less.cons rfl (Less.nil _)))) ⟨by omega, fun j hj => by omega, hs1⟩ ?_
    rintro k h1 ⟨hk, hno, hs2⟩
    clear hs hs1
    by_cases hlt : k < X.length
    · have c0 := hat k hlt
      have c1 := (okW_spec c0).1
      have lp := ptL_len (X.getD k [])
      by_cases hc1 : (loopsOf a (ptL (X.getD k [])) == 1) = true
      · repeat' (first
          | (refine Has.loadAt (hs2.has (.head _)) rfl (strs_get X k hlt) ?_; conv => whnf)
          | (refine (sMatchingP_ok c0 hn6 _).mono ?_; rintro v h' ⟨bx, rfl, hn⟩; have hs3 := St.newCall hs2 hn; clear hn; conv => whnf)
          | (refine (sIsMeander_ok a (ptL (X.getD k [])) _ _ _ _ _ (hb.keep hs3.keeps) (hs3.has (.head _)) (by omega) (by omega)).mono ?_; rintro v h' ⟨rfl, hk'⟩; have hs4 := St.keep hs3 hk'; conv => whnf)
          | refine AW.seq ?_
          | (refine AW.region ?_; conv => whnf)
          | refine AW.block ?_
          | (refine AW.skip ?_; conv => whnf)
          | (refine AW.ret ?_; conv => whnf)
          | refine AW.cond (by rfl) ?_
          | (refine Br.t (by assumption) ?_; conv => whnf)
          | (refine Br.dt (by omega) ?_; conv => whnf)
          | (refine Ck.mk (by omega) ?_; conv => whnf))
        exact RetI.mk' (by rw [e0, mpFind_hit hlt hno hc1]) rfl hs4.toNew
      · have hc1 : (loopsOf a (ptL (X.getD k [])) == 1) = false := by simpa using hc1
        repeat' (first
          | (refine Has.loadAt (hs2.has (.head _)) rfl (strs_get X k hlt) ?_; conv => whnf)
          | (refine (sMatchingP_ok c0 hn6 _).mono ?_; rintro v h' ⟨bx, rfl, hn⟩; have hs3 := St.newCall hs2 hn; clear hn; conv => whnf)
          | (refine (sIsMeander_ok a (ptL (X.getD k [])) _ _ _ _ _ (hb.keep hs3.keeps) (hs3.has (.head _)) (by omega) (by omega)).mono ?_; rintro v h' ⟨rfl, hk'⟩; have hs4 := St.keep hs3 hk'; conv => whnf)
          | refine AW.seq ?_
          | (refine AW.region ?_; conv => whnf)
          | refine AW.block ?_
          | (refine AW.skip ?_; conv => whnf)
          | refine AW.cond (by rfl) ?_
          | (refine Br.f (by assumption) ?_; conv => whnf)
          | (refine Br.dt (by omega) ?_; conv => whnf)
          | (refine Wr.i64 (by omega) ?_; conv => whnf)
          | (refine Ck.mk (by omega) ?_; conv => whnf))
        refine ⟨k + 1, (Less.cons rfl (Less.cons rfl (Less.cons rfl (Less.nil _)))), ⟨by omega, fun j hj => ?_, hs4.tail⟩, by omega⟩
        by_cases e : j = k
        · rw [e]; exact hc1
        · exact hno j (by omega)
    · repeat' (first
        | refine AW.seq ?_
        | (refine AW.region ?_; conv => whnf)
        | (refine AW.ret ?_; conv => whnf)
        | (refine AW.exit ?_; conv => whnf)
        | refine AW.cond (by rfl) ?_
        | (refine Br.df (by omega) ?_; conv => whnf)
        | (refine NewG.st (by assumption) (fun bt h' hs' => ?_); conv => whnf))
      exact RetI.mk' (l := []) (by rw [e0, mpFind_miss fun j hj => hno j (by omega)]) rfl hs'.toNew
  · have e0 : mpD a = ([], false) := if_neg h
    refine AC.enter Try.func70 Try.call70 rfl Try.ntmps70 (of_decide_eq_true (by rfl)) ?_
    repeat' (first
      | refine AW.seq ?_
      | (refine AW.region ?_; conv => whnf)
      | refine AW.block ?_
      | (refine AW.skip ?_; conv => whnf)
      | (refine AW.ret ?_; conv => whnf)
      | refine AW.cond (by rfl) ?_
      | (refine (sIsNC_ok _ _ _ _ _ (by first | assumption | exact St.has (by assumption) (by repeat first | exact .head _ | apply List.Mem.tail) | exact St.arg (by assumption) (by assumption)) (by first | rfl | omega) (by first | (simp; done) | omega | (simp only [List.length_set, List.length_append, List.length_cons, List.length_nil, List.length_replicate, tab_length]; omega) | (simp; omega))).mono ?_; rintro v h' ⟨rfl, e'⟩; subst h'; conv => whnf)
      | (refine (l1In_ok _ _ _ _).mono ?_; rintro v h' ⟨rfl, e'⟩; subst h'; conv => whnf)
      | (refine (sPathsOf_ok _ _ (by omega)).mono ?_; rintro v h' ⟨b, rfl, hn⟩; have hs' := St.newCall (by assumption) hn; clear hn; conv => whnf)
      | (refine Br.tt ?_; conv => whnf)
      | refine Br.not ?_
      | (refine Br.t (by assumption) ?_; conv => whnf)
      | (refine Br.f (by assumption) ?_; conv => whnf)
      | (refine Br.dec (fun hc => ?_) (fun hc => ?_) <;> conv => whnf)
      | (refine Br.mk (fun hc => ?_) (fun hc => ?_) <;> conv => whnf)
      | (refine Wr.i64 (by omega) ?_; conv => whnf)
      | (refine Ck.mk (by omega) ?_; conv => whnf)
      | (refine NewG.st (by assumption) (fun bt h' hs' => ?_); conv => whnf))
    all_goals first
      | exact RetI.mk' (l := []) e0 rfl hs'.toNew
      | (exfalso; have ev := isM_even (isNC_spec (l := a) (by assumption)); exact h ⟨by assumption, by omega, by omega⟩)

theorem mpD_len (a : List Int) : (mpD a).1.length ≤ 1000 := by
  unfold mpD
  split
  · rename_i h
    unfold mpFind
    split
    · rename_i w e
      obtain ⟨j, hj⟩ := List.getElem?_of_mem (List.mem_of_find?_eq_some e)
      have hj2 := (List.getElem?_eq_some_iff.1 hj).1
      have c := (okW_spec (dyP_at (show a.length / 2 ≤ 6 by omega) hj2)).1
      rw [List.getD, hj] at c
      dsimp only [Option.getD] at c
      rw [ptL_len]
      omega
    · simp
  · simp


end Go.Proofs.Ytdfdlnjijccpeaa
