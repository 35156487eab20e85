/-
  The program's trees of paths and its greatest distance have their contracts proved.
  They hold for trees of at most four nodes, and numbers from minus one to five.
-/
import Derived.Test.YtbicfognbbeigaaGreatC113
import Derived.Test.YtbicfognbbeigaaGreatC92
import Derived.Test.YtbicfognbbeigaaGreatH37
import Derived.WideKeyPair
set_option linter.unusedVariables false
set_option linter.unusedSimpArgs false
namespace Go.Proofs.YtbicfognbbeigaaGreat
open Go.Proofs.YtbicfognbbeigaaGreat.Ab Go.Proofs.YtbicfognbbeigaaGreat.Pl

def retOk (w : List UInt8) (i : Nat) : Bool := (List.range i).all (fun j => !decide ((hts w).getD (j + 1) 0 = 0)) && decide ((hts w).getD (i + 1) 0 = 0)
/-- a path all of whose parts are paths, cut where it comes back -/
def pthOk : Nat → List UInt8 → Bool
  | 0, _ => false
  | k + 1, w => (isDyck w && decide (w.length ≤ 20)) && (decide (w = []) || (match cutF w 0 with
    | none => false
    | some i => retOk w i && (pthOk k ((w.take i).drop 1) && pthOk k (w.drop (i + 1)))))
set_option maxRecDepth 100000 in
theorem pth_fine : (List.range 5).all (fun n => (List.range (caT n)).all fun k => pthOk 20 ((dyP n).getD k [])) = true := by decide +kernel
theorem pth_at {n k : Nat} (hn : n ≤ 4) (hk : k < (trs n).length) : pthOk 20 ((dyP n).getD k []) = true := by
  rw [trs_ca (by omega)] at hk
  exact List.all_eq_true.1 (List.all_eq_true.1 pth_fine n (List.mem_range.2 (by omega))) k (List.mem_range.2 hk)
theorem pth_dyck {k : Nat} {w : List UInt8} (h : pthOk k w = true) : isDyck w = true ∧ w.length ≤ 20 := by
  cases k with
  | zero => cases h
  | succ k =>
    unfold pthOk at h
    rw [Bool.and_eq_true, Bool.and_eq_true, decide_eq_true_iff] at h
    exact h.1
theorem pth_cut {k i : Nat} {w : List UInt8} (h : pthOk (k + 1) w = true) (hw : w ≠ []) (hc : cutF w 0 = some i) : (∀ j, 1 ≤ j → j ≤ i → (hts w).getD j 0 ≠ 0) ∧ (hts w).getD (i + 1) 0 = 0 ∧ pthOk k ((w.take i).drop 1) = true ∧ pthOk k (w.drop (i + 1)) = true := by
  unfold pthOk at h
  rw [Bool.and_eq_true, decide_eq_false hw, hc] at h
  have h := h.2
  dsimp only at h
  rw [Bool.false_or, Bool.and_eq_true, Bool.and_eq_true] at h
  obtain ⟨h1, h2, h3⟩ := h
  unfold retOk at h1
  rw [Bool.and_eq_true, decide_eq_true_iff] at h1
  refine ⟨fun j j1 j2 => ?_, h1.2, h2, h3⟩
  have := List.all_eq_true.1 h1.1 (j - 1) (List.mem_range.2 (by omega))
  rw [show j - 1 + 1 = j by omega] at this
  simpa using this
theorem hts_length (w : List UInt8) : (hts w).length = w.length + 1 := by simp [hts, htsTo]
theorem ints_getI {l : List Int} {k : Nat} {i : Int} (e : i = k) (h : k < l.length) : (ints l)[i.toNat]? = some (.int .i64 (l.getD k 0)) := by
  subst e
  rw [Int.toNat_natCast]
  unfold ints
  rw [List.getElem?_map, List.getElem?_eq_getElem h]
  simp only [Option.map_some, List.getD, List.getElem?_eq_getElem h, Option.getD_some]

theorem heightsOf_ok (w : List UInt8) (h0 : H) (hw : isDyck w = true) (hl : w.length ≤ 20) : AC env 144 [.str w] h0 fun v h' => ∃ b, v = .slice b 0 (w.length + 1) (w.length + 1) ∧ New h0 h' b (ints (hts w)) := by
  have hs := St.refl h0
  have hw2 := hw
  unfold isDyck at hw2
  rw [Bool.and_eq_true, beq_iff_eq] at hw2
  have hg := hw2.2
  refine AC.enter Tryz.func144 Tryz.call144 rfl Tryz.ntmps144 (of_decide_eq_true (by rfl)) ?_
  repeat' (first
    | (refine (iIsDyck_ok w (by omega) _).mono ?_; rw [hw]; rintro v h1 ⟨rfl, k1⟩; conv => whnf)
    | (refine (heights_ok w (by omega) _).mono ?_; rw [hg]; rintro v h2 ⟨k2, b, rfl, hn⟩; conv => whnf)
    | refine AW.seq ?_
    | (refine AW.region ?_; conv => whnf)
    | (refine AW.skip ?_; conv => whnf)
    | (refine AW.ret ?_; conv => whnf)
    | refine AW.cond (by rfl) ?_
    | (refine Br.ff ?_; conv => whnf))
  exact ⟨b, rfl, (hn.st.older k1).toNew⟩
set_option maxHeartbeats 1000000 in
theorem firstRet_ok (w : List UInt8) (i : Nat) (h0 : H) (hw : isDyck w = true) (hl : w.length ≤ 20) (hne : w ≠ []) (h1 : 1 ≤ i) (hi : i < w.length) (hz : (hts w).getD (i + 1) 0 = 0) (hnz : ∀ j, 1 ≤ j → j ≤ i → (hts w).getD j 0 ≠ 0) : AC env 135 [.str w] h0 fun v h' => v = .tup [.str ((w.take i).drop 1), .str (w.drop (i + 1)), .bool true] ∧ Keeps h0 h' := by
  have hs := St.refl h0
  have hnb : (w == []) = false := beq_eq_false_iff_ne.2 hne
  have hln := hts_length w
  have i2 : ((i + 1 : Nat) : Int).toNat = i + 1 := Int.toNat_natCast _
  have i3 : (((i + 1 : Nat) : Int) - 1).toNat = i := by omega
  refine AC.enter Tryz.func135 Tryz.call135 rfl Tryz.ntmps135 (of_decide_eq_true (by rfl)) ?_
  repeat' (first
    | (refine Br.f hnb ?_; conv => whnf)
    | (refine (iIsDyck_ok w (by omega) _).mono ?_; rw [hw]; rintro v h1 ⟨rfl, k1⟩; conv => whnf)
    | (refine (heightsOf_ok w _ hw hl).mono ?_; rintro v h2 ⟨b, rfl, hn⟩; conv => whnf)
    | refine AW.seq ?_
    | (refine AW.region ?_; conv => whnf)
    | refine AW.block ?_
    | (refine AW.skip ?_; conv => whnf)
    | refine AW.cond (by rfl) ?_
    | (refine Br.ff ?_; conv => whnf))
  refine AW.loop1 (fun (j : Nat) => [(0, .str w), (5, .slice b 0 (w.length + 1) (w.length + 1)), (6, .int .i64 (j : Int))]) (fun j h' => (1 ≤ j ∧ j ≤ i + 1) ∧ h' = h2) (fun j => i + 1 - j) 1 (Less.cons rfl (Less.cons rfl (Less.cons rfl (Less.nil _)))) ⟨⟨by omega, by omega⟩, rfl⟩ ?_
  rintro j h3 ⟨⟨j1, j2⟩, rfl⟩
  by_cases hlt : j ≤ i
  · have nz := hnz j j1 hlt
    repeat' (first
      | (refine Has.loadAt (v := .int .i64 ((hts w).getD j 0)) hn.has rfl (ints_getI rfl (by omega)) ?_; conv => whnf)
      | (refine Br.nt nz ?_; conv => whnf)
      | refine AW.seq ?_
      | (refine AW.region ?_; conv => whnf)
      | refine AW.block ?_
      | (refine AW.skip ?_; conv => whnf)
      | refine AW.cond (by rfl) ?_
      | (refine Wr.i64 (by omega) ?_; conv => whnf)
      | (refine Ck.mk (by omega) ?_; conv => whnf))
    exact ⟨j + 1, (Less.cons rfl (Less.cons rfl (Less.cons rfl (Less.nil _)))), ⟨⟨by omega, by omega⟩, rfl⟩, by omega⟩
  · obtain rfl : j = i + 1 := by omega
    repeat' (first
      | (refine Has.loadAt (v := .int .i64 ((hts w).getD (i + 1) 0)) hn.has rfl (ints_getI rfl (by omega)) ?_; conv => whnf)
      | (refine Br.nf hz ?_; conv => whnf)
      | refine AW.seq ?_
      | (refine AW.region ?_; conv => whnf)
      | (refine AW.ret ?_; conv => whnf)
      | (refine AW.exit ?_; conv => whnf)
      | refine AW.cond (by rfl) ?_
      | (refine AW.draw (id := 7) (.p 0 (.p 1 (.p 2 (.p 3 (.p 4 (.p 5 (.p 6 (.p 7 (.p 8 (.p 9 .done)))))))))) (by kernel_rfl) (by kernel_rfl) ?_; conv => whnf)
      | (refine Wr.i64 (by omega) ?_; conv => whnf)
      | (refine Ck.mk (by omega) ?_; conv => whnf))
    all_goals exact ⟨by first | rfl | (rw [i2, i3]; done) | (rw [i3, i2]; done) | (simp only [i2, i3]; rfl) | (simp only [i2, i3]; done), k1.trans hn.keeps⟩
theorem firstNil_ok (h0 : H) : AC env 135 [.str []] h0 fun v h' => v = .tup [.str [], .str [], .bool false] ∧ Keeps h0 h' := by
  have hw : isDyck [] = true := by decide
  have e : (([] : List UInt8) == []) = true := rfl
  refine AC.enter Tryz.func135 Tryz.call135 rfl Tryz.ntmps135 (of_decide_eq_true (by rfl)) ?_
  repeat' (first
    | (refine Br.t e ?_; conv => whnf)
    | (refine (iIsDyck_ok [] (by simp) _).mono ?_; rw [hw]; rintro v h1 ⟨rfl, k1⟩; conv => whnf)
    | refine AW.seq ?_
    | (refine AW.region ?_; conv => whnf)
    | (refine AW.ret ?_; conv => whnf)
    | refine AW.cond (by rfl) ?_
    | (refine Br.ff ?_; conv => whnf))
  exact ⟨rfl, k1⟩
theorem treeOfPath_ok : ∀ (k : Nat) (w : List UInt8) (t : BT) (h0 : H), binF k w = some t → pthOk k w = true → AC env 113 [.str w] h0 fun v h' => Keeps h0 h' ∧ TreeIn h' v t := by
  intro k
  induction k with
  | zero => intro w t h0 e _; cases e
  | succ k ih =>
    intro w t h0 e hp
    have hs := St.refl h0
    by_cases hne : w = []
    · subst hne
      cases binF_nil e
      refine AC.enter Tryz.func113 Tryz.call113 rfl Tryz.ntmps113 (of_decide_eq_true (by rfl)) ?_
      repeat' (first
        | (refine (firstNil_ok _).mono ?_; rintro v h1 ⟨rfl, k1⟩; conv => whnf)
        | refine AW.seq ?_
        | (refine AW.region ?_; conv => whnf)
        | (refine AW.ret ?_; conv => whnf)
        | refine AW.cond (by rfl) ?_
        | (refine Br.tt ?_; conv => whnf))
      exact ⟨k1, .leaf⟩
    · obtain ⟨i, a, b, hc, ha, hb, rfl⟩ := binF_node hne e
      obtain ⟨p1, p2, p3, p4⟩ := pth_cut hp hne hc
      have dy := pth_dyck hp
      have hi := cutF_lt w 0 i hc
      have hp1 := cutF_pos hc
      refine AC.enter Tryz.func113 Tryz.call113 rfl Tryz.ntmps113 (of_decide_eq_true (by rfl)) ?_
      repeat' (first
        | (refine And.intro ?_ ?_ <;> (conv => whnf))
        | (refine (firstRet_ok w i _ dy.1 dy.2 hne hp1 hi p2 p1).mono ?_; rintro v h1 ⟨rfl, k1⟩; conv => whnf)
        | (refine (ih _ a _ ha p3).mono ?_; rintro w h3 ⟨kA, mA⟩; have mA' := mA; rcases mA'.form with ⟨rfl, _⟩ | ⟨b1, rfl⟩ <;> (conv => whnf))
        | (refine (ih _ b _ hb p4).mono ?_; rintro w h4 ⟨kB, mB⟩; have mB' := mB; rcases mB'.form with ⟨rfl, _⟩ | ⟨b2, rfl⟩ <;> (conv => whnf))
        | (refine NewG.st (St.refl _) (fun bz h' hs' => ?_); conv => whnf)
        | refine AW.seq ?_
        | (refine AW.region ?_; conv => whnf)
        | (refine AW.skip ?_; conv => whnf)
        | (refine AW.ret ?_; conv => whnf)
        | refine AW.cond (by rfl) ?_
        | (refine Br.ff ?_; conv => whnf))
      all_goals first
        | exact ⟨((k1.trans kA).trans kB).trans hs'.keeps, .node (St.has hs' (.head _)) ((mA.keep kB).keep hs'.keeps) (mB.keep hs'.keeps)⟩
        | exact ((k1.trans kA).trans kB).trans hs'.keeps
        | exact .node (St.has hs' (.head _)) ((mA.keep kB).keep hs'.keeps) (mB.keep hs'.keeps)
set_option maxHeartbeats 1000000 in
theorem iTrees_ok (n : Nat) (h0 : H) (hn : n ≤ 4) : AC env 83 [.int .i64 (n : Int)] h0 fun w h' => ∃ b, w = .slice b 0 (trs n).length (trs n).length ∧ New h0 h' b (strs (txts (trs n))) := by
  have hs := St.refl h0
  have hn5 : n ≤ 5 := by omega
  have e0 : dyAll (2 * (n : Int).toNat + 1) [] n n = dyP n := rfl
  have lX := dyP_trs hn5
  have c42 := trs_le hn5
  have hX : ∀ k, k < (trs n).length → binF 20 ((dyP n).getD k []) = some ((trs n).getD k .leaf) ∧ pthOk 20 ((dyP n).getD k []) = true ∧ ((trs n).getD k .leaf).size ≤ 5 := fun k hk => ⟨(bin_tr hn5 hk).1, pth_at hn hk, by have := (nb_ok hn5 hk).size; unfold tr at this; omega⟩
  generalize dyP n = X at e0 lX hX
  generalize trs n = T at lX c42 hX ⊢
  refine AC.enter Tryz.func83 Tryz.call83 rfl Tryz.ntmps83 (of_decide_eq_true (by rfl)) ?_
  repeat' (first
    | (refine NewG.st hs (fun bo h' hsA => ?_); conv => whnf)
    | (refine (allPaths_ok _ _ (by omega)).mono ?_; rw [e0]; rintro v h' ⟨bs, rfl, hnp⟩; have hsB := St.newCall hsA hnp; clear hnp; conv => whnf)
    | refine AW.seq ?_
    | (refine AW.region ?_; conv => whnf)
    | refine AW.block ?_)
  refine AW.loop3 (fun (k bo N : Nat) => [(3, .slice bo 0 N N), (8, .slice bs 0 X.length X.length), (9, .int .i64 X.length), (10, .int .i64 (k : Int))]) (fun k bo N h' => (k ≤ T.length ∧ N = k) ∧ St h0 h' [(bo, row (strs (txts (T.take k)))), (bs, row (strs X))]) (fun k _ _ => T.length - k) 0 bo 0
    (Less.cons rfl (Less.cons rfl (Less.cons rfl (Less.cons rfl (Less.nil _))))) ⟨⟨by omega, rfl⟩, hsB.perm (.swap _ _ _)⟩ ?_
  rintro k bo N h1 ⟨⟨hk, hN⟩, hs1⟩
  clear hs hsA hsB
  have tl : (txts (T.take k)).length = k := by rw [txts_length, List.length_take]; omega
  by_cases hlt : k < T.length
  · obtain ⟨b1, b2, b3⟩ := hX k hlt
    have e2 := txts_take hlt
    repeat' (first
      | (refine Has.loadAt (v := .str (X.getD k [])) (St.has hs1 (.tail _ (.head _))) rfl (strs_getI rfl (by omega)) ?_; conv => whnf)
      | (refine (treeOfPath_ok 20 _ (T.getD k .leaf) _ b1 b2).mono ?_; rintro v h2 ⟨kT, mT⟩; have hs2 := hs1.keep kT; have mT' := mT; rcases mT'.form with ⟨rfl, _⟩ | ⟨b1, rfl⟩ <;> (conv => whnf))
      | (refine (text_ok _ _ _ mT (by omega)).mono ?_; rintro v h' ⟨rfl, e'⟩; subst h'; conv => whnf)
      | (refine NewG.st hs2 (fun bq h' hs3 => ?_); conv => whnf)
      | (refine LoadsG.has (St.has hs3 (.head _)) (by simp) ?_; conv => whnf)
      | (refine AppG.stS (l := txts (T.take k)) (y := (T.getD k .leaf).txt) hs3 (fun b' => .there .here) (by omega) (by omega) (by decide) (fun bo' h' hs4 => ?_); have hs5 := hs4.tail; conv => whnf)
      | refine AW.seq ?_
      | (refine AW.region ?_; conv => whnf)
      | refine AW.block ?_
      | (refine AW.skip ?_; conv => whnf)
      | refine AW.cond (by rfl) ?_
      | (refine Br.dt (by omega) ?_; conv => whnf)
      | (refine Wr.i64 (by omega) ?_; conv => whnf)
      | (refine Ck.mk (by omega) ?_; conv => whnf))
    all_goals exact ⟨k + 1, bo', N + 1, (Less.cons rfl (Less.cons rfl (Less.cons rfl (Less.cons rfl (Less.nil _))))), ⟨⟨by omega, by omega⟩, by rw [e2]; exact hs5⟩, by omega⟩
  · obtain rfl : k = T.length := by omega
    rw [List.take_length] at hs1
    repeat' (first
      | refine AW.seq ?_
      | (refine AW.region ?_; conv => whnf)
      | (refine AW.ret ?_; conv => whnf)
      | (refine AW.exit ?_; conv => whnf)
      | refine AW.cond (by rfl) ?_
      | (refine Br.df (by omega) ?_; conv => whnf))
    exact ⟨bo, by rw [hN], hs1.toNew⟩
set_option maxHeartbeats 1000000 in
theorem iDiam_ok (m : Int) (h0 : H) (hm : -1 ≤ m ∧ m ≤ 5) : AC env 40 [.int .i64 m] h0 fun w h' => w = .int .i64 (diaF m) ∧ Keeps h0 h' := by
  by_cases hin : 0 ≤ m ∧ m ≤ 4
  · obtain ⟨n, rfl⟩ := Int.eq_ofNat_of_zero_le hin.1
    have hn : n ≤ 4 := by omega
    have dz := (dia_ok hn).2
    have ez := diaF_in hn
    have dl : ∀ i j, i < (trs n).length → j < (trs n).length → (wayI n i j).length ≤ 1000 := fun i j hi hj => by have := (dis_ok (by omega) hi hj).len; omega
    have rd : ∀ (i j : Nat) (h0 : H), i < (trs n).length → j < (trs n).length → AC env 30 [.str ((trs n).getD i .leaf).txt, .str ((trs n).getD j .leaf).txt] h0 fun w h' => w = .int .i64 (dd n i j) ∧ Keeps h0 h' := fun i j h0 hi hj => iDist_ok n i j h0 (by omega) hi hj (dl i j hi hj)
    have st := fun h0 => iTrees_ok n h0 hn
    have c42 := trs_le (show n ≤ 5 by omega)
    generalize trs n = T at dz dl rd st c42
    refine AC.enter Tryz.func40 Tryz.call40 rfl Tryz.ntmps40 (of_decide_eq_true (by rfl)) ?_
    repeat' (first
      | (refine (st _).mono ?_; rintro w h1 ⟨bl, rfl, hn1⟩; have hs1 := hn1.st; conv => whnf)
      | refine AW.seq ?_
      | (refine AW.region ?_; conv => whnf)
      | refine AW.block ?_
      | (refine AW.skip ?_; conv => whnf)
      | refine AW.cond (by rfl) ?_
      | (refine (within_ok _ _ _ _).mono ?_; rintro v h' ⟨rfl, e'⟩; subst h'; conv => whnf)
      | refine Br.not ?_
      | (refine Br.dt (by omega) ?_; conv => whnf))
    refine AW.loop1 (fun (i : Nat) => [(3, .int .i64 (dAll n T.length i)), (4, .slice bl 0 T.length T.length), (14, .slice bl 0 T.length T.length), (15, .int .i64 (T.length : Int)), (16, .int .i64 (i : Int))]) (fun i h' => i ≤ T.length ∧ St h0 h' [(bl, row (strs (txts T)))]) (fun i => T.length - i) 0
      (Less.cons rfl (Less.cons rfl (Less.cons rfl (Less.cons rfl (Less.cons rfl (Less.nil _)))))) ⟨by omega, hs1⟩ ?_
    rintro i h2 ⟨hi, hs2⟩
    clear hs1 hn1
    by_cases hlt : i < T.length
    · repeat' (first
        | (refine Has.loadAt (v := .str (T.getD i .leaf).txt) (St.has hs2 (.head _)) rfl (txts_get rfl (by omega)) ?_; conv => whnf)
        | refine AW.seq ?_
        | (refine AW.region ?_; conv => whnf)
        | refine AW.block ?_
        | (refine AW.skip ?_; conv => whnf)
        | refine AW.cond (by rfl) ?_
        | (refine Br.dt (by omega) ?_; conv => whnf)
        | (refine Ck.mk (by omega) ?_; conv => whnf))
      refine AW.loop1 (fun (k : Nat) => [(3, .int .i64 (dRow n i (dAll n T.length i) k)), (4, .slice bl 0 T.length T.length), (6, .str (T.getD i .leaf).txt), (14, .slice bl 0 T.length T.length), (15, .int .i64 (T.length : Int)), (16, .int .i64 (i : Int)), (20, .slice bl 0 T.length T.length), (21, .int .i64 (T.length : Int)), (22, .int .i64 (k : Int))]) (fun k h' => k ≤ T.length ∧ St h0 h' [(bl, row (strs (txts T)))]) (fun k => T.length - k) 0
        (Less.cons rfl (Less.cons rfl (Less.cons rfl (Less.cons rfl (Less.cons rfl (Less.cons rfl (Less.cons rfl (Less.cons rfl (Less.cons rfl (Less.nil _)))))))))) ⟨by omega, hs2⟩ ?_
      rintro k h3 ⟨hk, hs3⟩
      clear hs2
      by_cases hlt2 : k < T.length
      · repeat' (first
          | (refine Has.loadAt (v := .str (T.getD k .leaf).txt) (St.has hs3 (.head _)) rfl (txts_get rfl (by omega)) ?_; conv => whnf)
          | (refine (rd i k _ (by omega) (by omega)).mono ?_; rintro w h' ⟨rfl, k4⟩; have hs4 := hs3.keep k4; conv => whnf)
          | refine AW.seq ?_
          | (refine AW.region ?_; conv => whnf)
          | refine AW.block ?_
          | (refine AW.skip ?_; conv => whnf)
          | refine AW.cond (by rfl) ?_
          | (refine Br.dt (by omega) ?_; conv => whnf)
          | (refine Wr.i64 (by omega) ?_; conv => whnf)
          | (refine Ck.mk (by omega) ?_; conv => whnf))
        all_goals exact ⟨k + 1, (Less.cons rfl (Less.cons rfl (Less.cons rfl (Less.cons rfl (Less.cons rfl (Less.cons rfl (Less.cons rfl (Less.cons rfl (Less.cons rfl (Less.nil _)))))))))), ⟨by omega, hs4⟩, by omega⟩
      · obtain rfl : k = T.length := by omega
        repeat' (first
          | refine AW.seq ?_
          | (refine AW.region ?_; conv => whnf)
          | (refine AW.exit ?_; conv => whnf)
          | refine AW.cond (by rfl) ?_
          | (refine Br.df (by omega) ?_; conv => whnf)
          | (refine Wr.i64 (by omega) ?_; conv => whnf))
        exact ⟨i + 1, (Less.cons rfl (Less.cons rfl (Less.cons rfl (Less.cons rfl (Less.cons rfl (Less.nil _)))))), ⟨by omega, hs3⟩, by omega⟩
    · obtain rfl : i = T.length := by omega
      repeat' (first
        | refine AW.seq ?_
        | (refine AW.region ?_; conv => whnf)
        | (refine AW.ret ?_; conv => whnf)
        | (refine AW.exit ?_; conv => whnf)
        | refine AW.cond (by rfl) ?_
        | (refine Br.df (by omega) ?_; conv => whnf))
      exact ⟨by rw [ez, dz], hs2.keeps⟩
  · have ez := diaF_out hin
    refine AC.enter Tryz.func40 Tryz.call40 rfl Tryz.ntmps40 (of_decide_eq_true (by rfl)) ?_
    repeat' (first
      | refine AW.seq ?_
      | (refine AW.region ?_; conv => whnf)
      | (refine AW.ret ?_; conv => whnf)
      | refine AW.cond (by rfl) ?_
      | (refine (within_ok _ _ _ _).mono ?_; rintro v h' ⟨rfl, e'⟩; subst h'; conv => whnf)
      | refine Br.not ?_
      | (refine Br.df (by omega) ?_; conv => whnf))
    all_goals exact ⟨by rw [ez], Keeps.refl _⟩

end Go.Proofs.YtbicfognbbeigaaGreat

/-
  Contracts of the numbers of Schroeder are proved.
  They hold for all arguments.
-/
set_option linter.unusedVariables false
set_option linter.unusedSimpArgs false
namespace Go.Proofs.YtbicfognbbeigaaGreat
open Go.Proofs.YtbicfognbbeigaaGreat.Ab Go.Proofs.YtbicfognbbeigaaGreat.Pl



def catN (n : Int) : Int := if 0 ≤ n ∧ n ≤ 15 then (bal n.toNat n.toNat : Nat) else -1



end Go.Proofs.YtbicfognbbeigaaGreat
