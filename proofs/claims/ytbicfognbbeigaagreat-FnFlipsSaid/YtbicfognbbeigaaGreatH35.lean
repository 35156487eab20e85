/-
  The first part of the law of flips is proved: a flip is the same on both sides, is undone, and is a rotation of the tree.
  It holds for all codes.
-/
import Derived.Test.YtbicfognbbeigaaGreatH27
import Derived.Test.YtbicfognbbeigaaGreatH34
set_option linter.unusedVariables false
set_option linter.unusedSimpArgs false
namespace Go.Proofs.YtbicfognbbeigaaGreat
open Go.Proofs.YtbicfognbbeigaaGreat.Ab Go.Proofs.YtbicfognbbeigaaGreat.Pl

theorem short_two {n : Int} {f : List (List Int)} (h : isTri n f = true) : ∀ x ∈ f, x.length ≤ 1000 := fun x hx => by
  obtain ⟨i, hi, rfl⟩ := List.getElem_of_mem hx
  have := tri_two h i hi
  rw [show f.getD i [] = f[i] by simp [List.getD, hi]] at this
  omega
theorem short_dh {n a : Nat} (hn : n ≤ 6) (ha : a < chT n) : ∀ x ∈ dh n a, x.length ≤ 1000 := short_two (num_h hn ha).tri
theorem getD_memH {l : List Nat} {q : Nat} (h : q < l.length) : l.getD q 0 ∈ l := by
  rw [show l.getD q 0 = l[q] by simp only [List.getD, List.getElem?_eq_getElem h, Option.getD_some]]
  exact List.getElem_mem h
theorem mem_getDH {l : List Nat} {a : Nat} (h : a ∈ l) : ∃ q, q < l.length ∧ l.getD q 0 = a := by
  obtain ⟨q, hq, e⟩ := List.getElem_of_mem h
  exact ⟨q, hq, by simp only [List.getD, List.getElem?_eq_getElem hq, Option.getD_some]; exact e⟩
theorem mem_getDB {l : List BT} {t : BT} (h : t ∈ l) : ∃ q, q < l.length ∧ l.getD q .leaf = t := by
  obtain ⟨q, hq, e⟩ := List.getElem_of_mem h
  exact ⟨q, hq, by simp only [List.getD, List.getElem?_eq_getElem hq, Option.getD_some]; exact e⟩
theorem flip_cases {n : Int} {d : List (List Int)} (sm : SmallD n d) (k : Int) : (∃ N a j : Nat, n = ((N + 2 : Nat) : Int) ∧ N ≤ 6 ∧ a < chT N ∧ d = dh N a ∧ j ∈ fh N a ∧ flipF n d k = (dh N j, true)) ∨ flipF n d k = ([], false) := by
  by_cases h : isTri n d = true ∧ 0 ≤ k ∧ k < d.length
  · obtain ⟨ht, k0, k1⟩ := h
    have hb := sm.tri ht
    obtain ⟨M, rfl⟩ := isTri_int ht
    obtain ⟨a, ha, e⟩ := tri_h ht (by omega)
    obtain ⟨q, rfl⟩ := Int.eq_ofNat_of_zero_le k0
    have e2 : flipF (M : Int) d (q : Int) = (flipR M d q, true) := if_pos ⟨ht, k0, k1⟩
    subst e
    have f := flip_at (n := M - 2) (by omega) ha (k := q) (by omega)
    rw [show M - 2 + 2 = M by omega] at f
    exact .inl ⟨M - 2, a, _, by omega, by omega, ha, rfl, f.2, by rw [e2, f.1]⟩
  · exact .inr (if_neg h)
theorem nbR_h {n a : Nat} (hn : n ≤ 6) (ha : a < chT n) : nbR ((n + 2 : Nat) : Int) (dh n a) = ((fh n a).map (dh n), true) := by
  have k := num_h hn ha
  unfold nbR
  rw [if_pos k.tri, Int.toNat_natCast, k.flips]
theorem binT_h {n a : Nat} (hn : n ≤ 6) (ha : a < chT n) : binT ((n + 2 : Nat) : Int) (dh n a) = ((tr n a).txt, true) := by
  have k := num_h hn ha
  unfold binT
  rw [if_pos k.tri, Int.toNat_natCast, show n + 2 - 1 = n + 1 by omega, k.tree]
theorem getD_mapH {n : Nat} {l : List Nat} {q : Nat} (h : q < l.length) : (l.map (dh n)).getD q [] = dh n (l.getD q 0) := by
  simp only [List.getD, List.getElem?_map, List.getElem?_eq_getElem h, Option.map_some, Option.getD_some]
theorem txts_getH {T : List BT} {k : Nat} {i : Int} (e : i = k) (h : k < T.length) : (strs (txts T))[i.toNat]? = some (.str (T.getD k .leaf).txt) := by
  subst e
  rw [Int.toNat_natCast]
  unfold strs txts
  rw [List.getElem?_map, List.getElem?_map, List.getElem?_eq_getElem h]
  simp only [Option.map_some, List.getD, List.getElem?_eq_getElem h, Option.getD_some]
/-- a flip is known -/
def MidF (h0 : H) (v : AV) (fr : Fr) (h : H) : Prop := ∃ (n a j bd Cd bz : Nat) (R Z : RL), (n ≤ 6 ∧ a < chT n ∧ j ∈ fh n a) ∧ Less fr [(0, v), (3, .int .i64 ((n + 2 : Nat) : Int)), (4, .slice bd 0 (dh n a).length Cd), (7, .bool true), (8, .slice bz 0 (dh n j).length (dh n j).length)] ∧ (dh n a).length ≤ Cd ∧ rws R = dh n a ∧ rws Z = dh n j ∧ St h0 h ((bz, row (slcs Z)) :: (blks Z ++ ((bd, row (slcs R)) :: (blks R ++ []))))
def MidFN (h0 : H) (v : AV) (fr : Fr) (h : H) : Prop := MidF h0 v fr h ∨ (Less fr [(0, v), (7, .bool false)] ∧ Keeps h0 h)
theorem iFlipK_ok {n k : Int} {f g : List (List Int)} {t : Bool} (e : flipF n f k = (g, t)) (R : RL) (b M C : Nat) (h0 : H) (hb : Grid h0 b R) (hR : rws R = f) (hM : M = f.length) (hl : M ≤ 1000000000) (hC : M ≤ C) (hn : (-9223372036854775808 ≤ n ∧ n ≤ 9223372036854775807) ∧ -9223372036854775808 ≤ k ∧ k ≤ 9223372036854775807) : AC env 7 [.int .i64 n, .slice b 0 M C, .int .i64 k] h0 fun v h' => ∃ b R, v = .tup [.slice b 0 g.length g.length, .bool t] ∧ rws R = g ∧ R.length = g.length ∧ St h0 h' ((b, row (slcs R)) :: (blks R ++ [])) := by
  have := iFlip_ok n R f b M C k h0 hb hR hM hl hC hn
  rw [e] at this
  exact this
theorem sFlipK_ok {n k : Int} {f g : List (List Int)} {t : Bool} (e : flipF n f k = (g, t)) (R : RL) (b M C : Nat) (h0 : H) (hb : Grid h0 b R) (hR : rws R = f) (hM : M = f.length) (hl : M ≤ 1000000000) (hn : (-9223372036854775808 ≤ n ∧ n ≤ 9223372036854775807) ∧ -9223372036854775808 ≤ k ∧ k ≤ 9223372036854775807) : AC env 8 [.int .i64 n, .slice b 0 M C, .int .i64 k] h0 fun v h' => ∃ b R, v = .tup [.slice b 0 g.length g.length, .bool t] ∧ rws R = g ∧ R.length = g.length ∧ St h0 h' ((b, row (slcs R)) :: (blks R ++ [])) := by
  have := sFlip_ok n R f b M C k h0 hb hR hM hl hn
  rw [e] at this
  exact this
set_option maxHeartbeats 16000000 in
theorem flSeg1 {h0 : H} (l : List UInt8) (v : AV) (hv : CellsAt h0 v (bytesAV l)) (hl : l.length ≤ 1048576) {Q : Exit → Fr → H → Prop} (rest : ∀ fr h, MidFN h0 v fr h → AW env 311 (restL 6 (bodyOf Tryz.f3)) fr h Q) : ∀ fr h, MidC h0 v fr h → AW env 311 (restL 0 (bodyOf Tryz.f3)) fr h Q := by
  rintro fr h ⟨l1, k1⟩
  refine AW.less l1 ?_
  have hv1 := hv.keep k1
  have hb : decide ((l.length : Int) > 1048576) = false := decide_eq_false (by omega)
  obtain ⟨M, hM⟩ : ∃ M, M = MidFN h0 v := ⟨_, rfl⟩
  rw [← hM] at rest
  have hv2 := hv1
  obtain ⟨rfl, e⟩ | ⟨b, c, rfl, hbb⟩ := hv2
  all_goals
    refine AW.seqS [_, _, _, _, _, _] (M := M) ?_ rest
    conv => whnf
    repeat' (first
      | (refine (codeBig_ok _ _ _ hv1).mono ?_; rw [hb]; rintro w h' ⟨rfl, e'⟩; subst h'; conv => whnf)
      | (refine (drawFlip_ok _ _ _ hv1 hl).mono ?_; rintro w h1 ⟨n, k, d, bd, Cd, R, rfl, hk, hC, hR, sm, hn⟩; have hs1 := St.callR (St.keep (St.refl h0) k1) hn; clear hn; have hnb := sm.nb; have hdl := sm.len; rcases flip_cases sm k with ⟨N, a, j, rfl, hN, ha, rfl, hj, hF⟩ | hF <;> (conv => whnf))
      | (refine (iFlipK_ok hF R _ _ _ _ (St.gridAt (by assumption) (by repeat first | exact RSpot.here | apply RSpot.there | apply RSpot.app)) hR rfl (by omega) hC (by omega)).mono ?_; rintro w h2 ⟨b2, Z, rfl, hZ, hZl, hn⟩; have hs2 := St.callR hs1 hn; clear hn; conv => whnf)
      | (refine (sFlipK_ok hF R _ _ _ _ (St.gridAt hs2 (.there (.app .here))) hR rfl (by omega) (by omega)).mono ?_; rintro w h3 ⟨b3, Y, rfl, hY, hYl, hn⟩; have hs3 := St.callR hs2 hn; clear hn; conv => whnf)
      | (refine (sameListsD_ok (dh N j) (dh N j) Z Y _ _ _ _ _ _ _ (St.gridAt hs3 (.there (.app .here))) (St.gridAt hs3 .here) hZ hY rfl rfl (by have := (num_h hN ((num_h hN ha).lt j hj)).len; omega) (by have := (num_h hN ((num_h hN ha).lt j hj)).len; omega) (short_dh hN ((num_h hN ha).lt j hj)) (short_dh hN ((num_h hN ha).lt j hj))).mono ?_; rw [decide_eq_true rfl]; rintro v h' ⟨rfl, e'⟩; subst h'; conv => whnf)
      | (refine (sameListsD_ok [] [] Z Y _ _ _ _ _ _ _ (St.gridAt hs3 (.there (.app .here))) (St.gridAt hs3 .here) hZ hY rfl rfl (by simp) (by simp) (fun x hx => (nomatch hx)) (fun x hx => (nomatch hx))).mono ?_; rw [decide_eq_true rfl]; rintro v h' ⟨rfl, e'⟩; subst h'; conv => whnf)
      | (refine AW.seqLow (T := 47) ?_; conv => whnf)
      | (refine AW.region ?_; conv => whnf)
      | (refine AW.skip ?_; conv => whnf)
      | refine AW.cond (by rfl) ?_
      | (refine Br.ff ?_; conv => whnf))
    all_goals
      rw [hM]
      first
        | exact .inr ⟨(Less.cons rfl (Less.cons rfl (Less.nil _))), hs3.keeps⟩
        | exact .inl ⟨N, a, j, bd, Cd, b3, R, Y, ⟨hN, ha, hj⟩, (Less.cons rfl (Less.cons rfl (Less.cons rfl (Less.cons rfl (Less.cons rfl (Less.nil _)))))), hC, hR, hY, hs3.sub (.cons_cons _ (List.Sublist.append_left ((List.sublist_append_right _ _).cons _) _))⟩

end Go.Proofs.YtbicfognbbeigaaGreat

/-
  The second part of the law of flips is proved: a flip is undone by another one, and is a rotation of the tree.
  It holds for at most eight corners.
-/
set_option linter.unusedVariables false
set_option linter.unusedSimpArgs false
namespace Go.Proofs.YtbicfognbbeigaaGreat
open Go.Proofs.YtbicfognbbeigaaGreat.Ab Go.Proofs.YtbicfognbbeigaaGreat.Pl

set_option maxHeartbeats 16000000 in
theorem flSeg2 {h0 : H} (v : AV) {Q : Exit → Fr → H → Prop} (rest : ∀ fr h, MidC h0 v fr h → AW env 311 (restL 7 (bodyOf Tryz.f3)) fr h Q) : ∀ fr h, MidFN h0 v fr h → AW env 311 (restL 6 (bodyOf Tryz.f3)) fr h Q := by
  rintro fr h (⟨n, a, j, bd, Cd, bz, R, Z, ⟨hn, ha, hj⟩, l1, hCd, hR, hZ, hs⟩ | ⟨l1, hk⟩)
  · refine AW.less l1 ?_
    have ka := num_h hn ha
    have jC := ka.lt j hj
    have kj := num_h hn jC
    have la := ka.len
    have lj := kj.len
    have za := ka.size
    have nb := nbR_h hn jC
    have ba := binT_h hn ha
    have bj := binT_h hn jC
    have ht := kj.tri
    obtain ⟨q0, hq0, eq0⟩ := mem_getDH (ka.back j hj)
    obtain ⟨q1, hq1, eq1⟩ := mem_getDB (ka.turn j hj)
    have nl := nbrs_len (tr n a)
    obtain ⟨m, hm⟩ : ∃ m, m = (fh n j).length := ⟨_, rfl⟩
    have lm : ((fh n j).map (dh n)).length = m := by rw [List.length_map, hm]
    have ml : m ≤ 10 := by
      have := congrArg List.length kj.flips
      rw [List.length_map, List.length_map, List.length_range] at this
      omega
    have gl : ∀ q, q < m → ((fh n j).map (dh n)).getD q [] = dh n ((fh n j).getD q 0) := fun q hq => getD_mapH (by omega)
    have gC : ∀ q, q < m → (fh n j).getD q 0 < chT n := fun q hq => kj.lt _ (getD_memH (by omega))
    obtain ⟨T, hT⟩ : ∃ T, T = nbrs (tr n a) := ⟨_, rfl⟩
    have iN := fun h0 => iNbrs_ok (tr n a) h0 (by omega)
    rw [← hT] at hq1 eq1 nl iN
    obtain ⟨M, hM⟩ : ∃ M, M = MidC h0 v := ⟨_, rfl⟩
    rw [← hM] at rest
    refine AW.seqS [_] (M := M) ?_ rest
    conv => whnf
    repeat' (first
      | (refine (iNb_ok ((n + 2 : Nat) : Int) Z (dh n j) bz _ _ _ (St.gridAt hs .here) hZ rfl (by omega) (Nat.le_refl _) (by omega)).mono ?_; rw [nb]; rintro w h1 ⟨bF, SF, rfl, hSF, hLF, hsF⟩; rw [lm] at hLF ⊢; have hs1 := St.call3 hs hsF; clear hsF; conv => whnf)
      | (refine AW.seqLow (T := 47) ?_; conv => whnf)
      | (refine AW.region ?_; conv => whnf)
      | refine AW.block ?_
      | refine AW.cond (by rfl) ?_
      | (refine Br.tt ?_; conv => whnf))
    have gR : Grid h1 bd R := St.gridAt hs1 (.there (.app (.there (.app .here))))
    have gZ : Grid h1 bz Z := St.gridAt hs1 (.there (.app .here))
    have gC3 : Cube h1 bF SF := St.cubeAt hs1 .here
    refine AW.loop2 (fun (i : Nat) (fd : Bool) => [(0, v), (3, .int .i64 ((n + 2 : Nat) : Int)), (4, .slice bd 0 (dh n a).length Cd), (7, .bool true), (8, .slice bz 0 (dh n j).length (dh n j).length), (10, .bool fd), (11, .slice bF 0 m m), (13, .int .i64 (i : Int))]) (fun i fd h' => (i ≤ m ∧ (q0 < i → fd = true)) ∧ h' = h1) (fun i _ => m - i) 0 false
      (Less.cons rfl (Less.cons rfl (Less.cons rfl (Less.cons rfl (Less.cons rfl (Less.cons rfl (Less.cons rfl (Less.cons rfl (Less.nil _))))))))) ⟨⟨by omega, fun h => by omega⟩, rfl⟩ ?_
    rintro i fd h2 ⟨⟨hi, hfd⟩, rfl⟩
    by_cases hlt : i < m
    · have e1 := gl i hlt
      have c1 := gC i hlt
      have sl : rws (rl3 SF i) = dh n ((fh n j).getD i 0) := by rw [← rw3_at hSF, e1]
      have gg : Grid h2 (rb3 SF i) (rl3 SF i) := gC3.at (by omega)
      have lg := (num_h hn c1).len
      cases fd with
      | true =>
        repeat' (first
          | (refine AW.seqLow (T := 47) ?_; conv => whnf)
          | (refine AW.region ?_; conv => whnf)
          | refine AW.block ?_
          | (refine AW.skip ?_; conv => whnf)
          | refine AW.cond (by rfl) ?_
          | (refine Br.tt ?_; conv => whnf)
          | (refine Br.dt (by omega) ?_; conv => whnf)
          | (refine Wr.i64 (by omega) ?_; conv => whnf))
        exact ⟨i + 1, true, (Less.cons rfl (Less.cons rfl (Less.cons rfl (Less.cons rfl (Less.cons rfl (Less.cons rfl (Less.cons rfl (Less.cons rfl (Less.nil _))))))))), ⟨⟨by omega, fun h => rfl⟩, rfl⟩, by omega⟩
      | false =>
        repeat' (first
          | (refine Cube.rowAt gC3 hSF i rfl (by omega) (by omega) (by rw [e1]) ?_; conv => whnf)
          | (refine (sameListsD_ok (dh n ((fh n j).getD i 0)) (dh n a) (rl3 SF i) R _ _ _ _ _ _ _ gg gR sl hR rfl rfl (by omega) (by omega) (short_dh hn c1) (short_dh hn ha)).mono ?_; rintro w h' ⟨rfl, e'⟩; subst h'; conv => whnf)
          | (refine AW.seqLow (T := 47) ?_; conv => whnf)
          | (refine AW.region ?_; conv => whnf)
          | refine AW.block ?_
          | (refine AW.skip ?_; conv => whnf)
          | refine AW.cond (by rfl) ?_
          | (refine Br.ff ?_; conv => whnf)
          | (refine Br.dt (by omega) ?_; conv => whnf)
          | (refine Wr.i64 (by omega) ?_; conv => whnf)
          | (refine Ck.mk (by omega) ?_; conv => whnf))
        refine ⟨i + 1, _, (Less.cons rfl (Less.cons rfl (Less.cons rfl (Less.cons rfl (Less.cons rfl (Less.cons rfl (Less.cons rfl (Less.cons rfl (Less.nil _))))))))), ⟨⟨by omega, fun h => ?_⟩, rfl⟩, by omega⟩
        by_cases c : i = q0
        · subst c
          rw [eq0]
          exact decide_eq_true rfl
        · have := hfd (by omega)
          cases this
    · have fdt := hfd (by omega)
      subst fdt
      repeat' (first
        | (refine (sBinT_ok ((n + 2 : Nat) : Int) R (dh n a) bd _ Cd _ gR hR rfl (by omega) (by omega)).mono ?_; rw [ba]; rintro w h' ⟨rfl, e'⟩; subst h'; conv => whnf)
        | (refine (iBinT_ok ((n + 2 : Nat) : Int) Z (dh n j) bz _ _ _ gZ hZ rfl (by omega) (Nat.le_refl _) (by omega)).mono ?_; rw [bj]; rintro w h3 ⟨rfl, hk3⟩; conv => whnf)
        | (refine (iN _).mono ?_; rintro w h4 ⟨bn, rfl, hnn⟩; conv => whnf)
        | (refine AW.seqLow (T := 47) ?_; conv => whnf)
        | (refine AW.region ?_; conv => whnf)
        | refine AW.block ?_
        | (refine AW.exit ?_; conv => whnf)
        | refine AW.cond (by rfl) ?_
        | (refine Br.df (by omega) ?_; conv => whnf))
      refine AW.loop2 (fun (i : Nat) (td : Bool) => [(0, v), (3, .int .i64 ((n + 2 : Nat) : Int)), (8, .slice bz 0 (dh n j).length (dh n j).length), (10, .bool true), (16, .str (tr n j).txt), (17, .bool true), (18, .bool td), (19, .slice bn 0 T.length T.length), (20, .int .i64 (i : Int))]) (fun i td h' => (i ≤ T.length ∧ (q1 < i → td = true)) ∧ h' = h4) (fun i _ => T.length - i) 0 false
        (Less.cons rfl (Less.cons rfl (Less.cons rfl (Less.cons rfl (Less.cons rfl (Less.cons rfl (Less.cons rfl (Less.cons rfl (Less.cons rfl (Less.nil _)))))))))) ⟨⟨by omega, fun h => by omega⟩, rfl⟩ ?_
      rintro i2 td h5 ⟨⟨hi2, htd⟩, rfl⟩
      by_cases hlt2 : i2 < T.length
      · cases td with
        | true =>
          repeat' (first
            | (refine AW.seqLow (T := 47) ?_; conv => whnf)
            | (refine AW.region ?_; conv => whnf)
            | refine AW.block ?_
            | (refine AW.skip ?_; conv => whnf)
            | refine AW.cond (by rfl) ?_
            | (refine Br.tt ?_; conv => whnf)
            | (refine Br.dt (by omega) ?_; conv => whnf)
            | (refine Wr.i64 (by omega) ?_; conv => whnf))
          exact ⟨i2 + 1, true, (Less.cons rfl (Less.cons rfl (Less.cons rfl (Less.cons rfl (Less.cons rfl (Less.cons rfl (Less.cons rfl (Less.cons rfl (Less.cons rfl (Less.nil _)))))))))), ⟨⟨by omega, fun h => rfl⟩, rfl⟩, by omega⟩
        | false =>
          repeat' (first
            | (refine Has.loadAt (v := .str (T.getD i2 .leaf).txt) hnn.has rfl (txts_getH rfl hlt2) ?_; conv => whnf)
            | (refine AW.seqLow (T := 47) ?_; conv => whnf)
            | (refine AW.region ?_; conv => whnf)
            | refine AW.block ?_
            | (refine AW.skip ?_; conv => whnf)
            | refine AW.cond (by rfl) ?_
            | (refine Br.ff ?_; conv => whnf)
            | (refine Br.dt (by omega) ?_; conv => whnf)
            | (refine Wr.i64 (by omega) ?_; conv => whnf)
            | (refine Ck.mk (by omega) ?_; conv => whnf))
          refine ⟨i2 + 1, _, (Less.cons rfl (Less.cons rfl (Less.cons rfl (Less.cons rfl (Less.cons rfl (Less.cons rfl (Less.cons rfl (Less.cons rfl (Less.cons rfl (Less.nil _)))))))))), ⟨⟨by omega, fun h => ?_⟩, rfl⟩, by omega⟩
          by_cases c : i2 = q1
          · subst c
            rw [eq1]
            exact beq_self_eq_true _
          · have := htd (by omega)
            cases this
      · have tdt := htd (by omega)
        subst tdt
        repeat' (first
          | (refine (iIsTri_ok ((n + 2 : Nat) : Int) Z (dh n j) _ _ _ _ ((gZ.keep hk3).keep hnn.keeps) hZ rfl (by omega) (Nat.le_refl _) (by omega)).mono ?_; rw [ht]; rintro w h' ⟨rfl, e'⟩; subst h'; conv => whnf)
          | (refine AW.seqLow (T := 47) ?_; conv => whnf)
          | (refine AW.region ?_; conv => whnf)
          | (refine AW.skip ?_; conv => whnf)
          | (refine AW.exit ?_; conv => whnf)
          | refine AW.cond (by rfl) ?_
          | (refine Br.ff ?_; conv => whnf)
          | (refine Br.df (by omega) ?_; conv => whnf))
        rw [hM]
        exact ⟨(Less.cons rfl (Less.nil _)), (hs1.keeps.trans hk3).trans hnn.keeps⟩
  · refine AW.less l1 ?_
    have hs := St.refl h
    obtain ⟨M, hM⟩ : ∃ M, M = MidC h0 v := ⟨_, rfl⟩
    rw [← hM] at rest
    refine AW.seqS [_] (M := M) ?_ rest
    conv => whnf
    repeat' (first
      | (refine AW.seqLow (T := 47) ?_; conv => whnf)
      | (refine AW.region ?_; conv => whnf)
      | (refine AW.skip ?_; conv => whnf)
      | refine AW.cond (by rfl) ?_
      | (refine Br.ff ?_; conv => whnf))
    rw [hM]
    exact ⟨(Less.cons rfl (Less.nil _)), hk⟩

end Go.Proofs.YtbicfognbbeigaaGreat
