/-
  The second part of the law of distances is proved: what is told of a way.
  It holds for all trees of at most five nodes.
-/
import Derived.Test.YtbicfognbbeigaaGreatH40
set_option linter.unusedVariables false
set_option linter.unusedSimpArgs false
namespace Go.Proofs.YtbicfognbbeigaaGreat
open Go.Proofs.YtbicfognbbeigaaGreat.Ab Go.Proofs.YtbicfognbbeigaaGreat.Pl

theorem com_at {n i j : Nat} (hn : n ≤ 5) (hi : i < (trs n).length) (hj : j < (trs n).length) : ∃ c : Nat, comF (tr n i).txt (tr n j).txt = (c : Int) ∧ n ≤ (wayI n i j).length + c ∧ c ≤ 64 := by
  have ta := tree_tr hn hi
  have tb := tree_tr hn hj
  have za := (nb_ok hn hi).size
  have zb := (nb_ok hn hj).size
  refine ⟨com (diagsT (tr n i)) (diagsT (tr n j)), ?_, com_dis hn hi hj, com_bd ?_ ?_⟩
  · unfold comF
    rw [ta, tb]
    exact if_pos (by omega)
  · have := diagsT_len (tr n i)
    omega
  · have := diagsT_len (tr n j)
    omega
/-- what is asked of a way last -/
def MidE (h0 : H) (v : AV) (fr : Fr) (h : H) : Prop := (∃ n i j, (n ≤ 5 ∧ i < (trs n).length ∧ j < (trs n).length) ∧ Less fr [(0, v), (3, .str (tr n i).txt), (6, .bool true), (9, .int .i64 (((wayI n i j).length : Int) - 1))] ∧ Keeps h0 h) ∨ (Less fr [(0, v), (6, .bool false)] ∧ Keeps h0 h)
set_option maxHeartbeats 16000000 in
theorem disSeg2 {h0 : H} (v : AV) {Q : Exit → Fr → H → Prop} (rest : ∀ fr h, MidE h0 v fr h → AW env 180 (restL 8 (bodyOf Tryz.f4)) fr h Q) : ∀ fr h, MidYN h0 v fr h → AW env 180 (restL 7 (bodyOf Tryz.f4)) fr h Q := by
  rintro fr h (⟨n, i, j, bm, ⟨hn, hi, hj⟩, l1, hs⟩ | ⟨a, b, l1, hk⟩)
  · refine AW.less l1 ?_
    obtain ⟨M, hM⟩ : ∃ M, M = MidE h0 v := ⟨_, rfl⟩
    rw [← hM] at rest
    have d := dis_ok hn hi hj
    have dl := d.len
    have ds := d.sym
    have dm := d.mir
    have dz := d.zero
    have d1 := d.first
    have d2 := d.last
    have dt := d.lt
    obtain ⟨mi1, mi2⟩ := mi_ok hn hi
    obtain ⟨mj1, mj2⟩ := mi_ok hn hj
    obtain ⟨c, hc, hcn, hc64⟩ := com_at hn hi hj
    have wi := way_is hn hi hj
    have wr := way_row hn hi hj
    have ta := tree_tr hn hi
    have za := (nb_ok hn hi).size
    have zb := (nb_ok hn hj).size
    have nz : sizeO (some (tr n i)) = (n : Int) := by rw [show sizeO (some (tr n i)) = (((tr n i).size : Nat) : Int) from rfl, za]
    have rd1 : ∀ h0, AC env 30 [.str (tr n j).txt, .str (tr n i).txt] h0 fun w h' => w = .int .i64 (((wayI n i j).length : Int) - 1) ∧ Keeps h0 h' := fun h0 => by
      have := iDist_ok n j i h0 hn hj hi (by omega)
      rw [ds] at this
      exact this
    have rd2 : ∀ h0, AC env 30 [.str (mirB (tr n i)).txt, .str (mirB (tr n j)).txt] h0 fun w h' => w = .int .i64 (((wayI n i j).length : Int) - 1) ∧ Keeps h0 h' := fun h0 => by
      have := iDist_ok n _ _ h0 hn mi2 mj2 (by omega)
      rw [dm, ← mi1, ← mj1] at this
      exact this
    have tz : ((((wayI n i j).length : Int) - 1) == 0) = ((tr n i).txt == (tr n j).txt) := by
      rw [Bool.eq_iff_iff, beq_iff_eq, beq_iff_eq, tr_txt hn hi hj, ← dz]
      omega
    have tn : (((((wayI n i j).length : Int) - 1) == 0) != ((tr n i).txt == (tr n j).txt)) = false := by
      rw [tz]
      exact bne_self_eq_false _
    have f1 : (strs (txI n (wayI n i j)))[0]? = some (.str (tr n i).txt) := by
      have := txI_get (n := n) (S := wayI n i j) (k := 0) (by omega)
      rw [d1] at this
      exact this
    have f2 : (strs (txI n (wayI n i j)))[(((wayI n i j).length : Int) - 1).toNat]? = some (.str (tr n j).txt) := by
      have := txI_get (n := n) (S := wayI n i j) (k := (wayI n i j).length - 1) (by omega)
      rw [d2] at this
      rw [show (((wayI n i j).length : Int) - 1).toNat = (wayI n i j).length - 1 by omega]
      exact this
    have nea : ((tr n i).txt != (tr n i).txt) = false := bne_self_eq_false _
    have neb : ((tr n j).txt != (tr n j).txt) = false := bne_self_eq_false _
    have lT := txI_length n (wayI n i j)
    have out : ∀ {fr1 : Fr} {h1 : H}, Less fr1 [(0, v), (3, .str (tr n i).txt), (6, .bool true), (9, .int .i64 (((wayI n i j).length : Int) - 1))] → Keeps h0 h1 → M fr1 h1 := fun l k => by
      rw [hM]
      exact .inl ⟨n, i, j, ⟨hn, hi, hj⟩, l, k⟩
    clear hM d dz tz
    generalize wayI n i j = W at *
    refine AW.seqS [_] (M := M) ?_ rest
    conv => whnf
    repeat' (first
      | (refine (iCommon_ok _ _ _).mono ?_; rw [hc]; rintro w h1 ⟨rfl, hk⟩; have hs1 := hs.keep hk; clear hk; conv => whnf)
      | (refine (sNodesOf_ok _ _).mono ?_; rw [ta, nz]; rintro w h' ⟨rfl, e'⟩; subst h'; conv => whnf)
      | (refine (sMirror_ok (tr n i) _ (by omega)).mono ?_; rintro w h' ⟨rfl, e'⟩; subst h'; conv => whnf)
      | (refine (sMirror_ok (tr n j) _ (by omega)).mono ?_; rintro w h' ⟨rfl, e'⟩; subst h'; conv => whnf)
      | (refine (iIsWay_ok _ wr _ _ _ _ (St.has hs1 (.head _)) (by omega)).mono ?_; rw [wi]; rintro w h2 ⟨rfl, hk⟩; have hs2 := hs1.keep hk; clear hk; conv => whnf)
      | (refine Has.loadAt (v := .str (tr n i).txt) (St.has hs2 (.head _)) rfl f1 ?_; conv => whnf)
      | (refine Has.loadAt (v := .str (tr n j).txt) (St.has hs2 (.head _)) rfl f2 ?_; conv => whnf)
      | (refine (rd1 _).mono ?_; rintro w h3 ⟨rfl, hk⟩; have hs3 := hs2.keep hk; clear hk; conv => whnf)
      | (refine (rd2 _).mono ?_; rintro w h4 ⟨rfl, hk⟩; have hs4 := hs3.keep hk; clear hk; conv => whnf)
      | (refine Br.f nea ?_; conv => whnf)
      | (refine Br.f neb ?_; conv => whnf)
      | (refine Br.f tn ?_; conv => whnf)
      | (refine AW.seqLow (T := 21) ?_; conv => whnf)
      | (refine AW.region ?_; conv => whnf)
      | (refine AW.skip ?_; conv => whnf)
      | refine AW.cond (by rfl) ?_
      | (refine Br.tt ?_; conv => whnf)
      | (refine Br.ff ?_; conv => whnf)
      | refine Br.not ?_
      | (refine Br.t (beq_self_eq_true _) ?_; conv => whnf)
      | (refine Br.dt (by omega) ?_; conv => whnf)
      | (refine Br.df (by omega) ?_; conv => whnf)
      | (refine Br.dec (fun hc => ?_) (fun hc => ?_) <;> conv => whnf)
      | (refine Wr.i64 (by omega) ?_; conv => whnf)
      | (refine Ck.mk (by omega) ?_; conv => whnf))
    all_goals first
      | exact out (Less.cons rfl (Less.cons rfl (Less.cons rfl (Less.cons rfl (Less.nil _))))) (St.keeps (by assumption))
      | (clear rest; fail "stuck")
  · refine AW.less l1 ?_
    have hs := St.refl h
    obtain ⟨M, hM⟩ : ∃ M, M = MidE h0 v := ⟨_, rfl⟩
    rw [← hM] at rest
    refine AW.seqS [_] (M := M) ?_ rest
    conv => whnf
    repeat' (first
      | (refine AW.seqLow (T := 21) ?_; conv => whnf)
      | (refine AW.region ?_; conv => whnf)
      | (refine AW.skip ?_; conv => whnf)
      | refine AW.cond (by rfl) ?_
      | (refine Br.ff ?_; conv => whnf))
    rw [hM]
    exact .inr ⟨(Less.cons rfl (Less.cons rfl (Less.nil _))), hk⟩

end Go.Proofs.YtbicfognbbeigaaGreat

/-
  The law of distances is proved.
  It holds for all codes.
-/
set_option linter.unusedVariables false
set_option linter.unusedSimpArgs false
namespace Go.Proofs.YtbicfognbbeigaaGreat
open Go.Proofs.YtbicfognbbeigaaGreat.Ab Go.Proofs.YtbicfognbbeigaaGreat.Pl

set_option maxHeartbeats 16000000 in
theorem disSeg3 {h0 : H} (l : List UInt8) (v : AV) (hv : CellsAt h0 v (bytesAV l)) (hl : l.length ≤ 1048576) : ∀ fr h, MidE h0 v fr h → AW env 180 (restL 8 (bodyOf Tryz.f4)) fr h (retK Tryz.f4.results.toList fun v _ => v = .bool true) := by
  rintro fr h (⟨n, i, j, ⟨hn, hi, hj⟩, l1, k1⟩ | ⟨l1, k1⟩)
  · refine AW.less l1 ?_
    have hv1 := hv.keep k1
    have d := dis_ok hn hi hj
    have dl := d.len
    have dm := d.diam
    have ta := tree_tr hn hi
    have za := (nb_ok hn hi).size
    have nz : sizeO (some (tr n i)) = (n : Int) := by rw [show sizeO (some (tr n i)) = (((tr n i).size : Nat) : Int) from rfl, za]
    have dn : ∀ h0, n ≤ 4 → AC env 40 [.int .i64 (n : Int)] h0 fun w h' => w = .int .i64 ((diT n : Nat) : Int) ∧ Keeps h0 h' := fun h0 h4 => by
      have := iDiam_ok (n : Int) h0 (by omega)
      rw [diaF_in h4] at this
      exact this
    clear d
    generalize wayI n i j = W at *
    by_cases h4 : n ≤ 4
    all_goals
      have hv2 := hv1
      obtain ⟨rfl, e⟩ | ⟨b, c, rfl, hbb⟩ := hv2
      all_goals
        refine AW.seq ?_
        repeat' (first
          | (refine (drawIsWay_ok _ _ _ hv1 hl).mono ?_; rintro w h2 ⟨bw, rw0, rfl, hrw, hsw⟩; have hrl := hrw.len; conv => whnf)
          | (refine (drawDiam_ok _ _ _ (hv1.keep hsw.keeps) hl).mono ?_; rintro w h3 ⟨m, rfl, hm1, hm2, hk⟩; have hs3 := hsw.keep hk; clear hk; conv => whnf)
          | (refine (drawCom_ok _ _ _ (hv1.keep hs3.keeps) hl).mono ?_; rintro w h4 ⟨t, x, rfl, htz, hxz, hk⟩; have hs4 := hs3.keep hk; clear hk; conv => whnf)
          | (refine (dn _ (by assumption)).mono ?_; rintro w h6 ⟨rfl, hk⟩; have hs5 := hs5.keep hk; clear hk; have dm4 := dm (by assumption); conv => whnf)
          | (refine (iDiam_ok m _ (by omega)).mono ?_; rintro w h5 ⟨rfl, hk⟩; have hs5 := hs4.keep hk; clear hk; conv => whnf)
          | (refine (sNodesOf_ok _ _).mono ?_; rw [ta, nz]; rintro w h' ⟨rfl, e'⟩; subst h'; conv => whnf)
          | (refine (iIsWay_ok rw0 hrw _ _ _ _ (St.has hs5 (.head _)) rfl).mono ?_; rintro w h7 ⟨rfl, hk⟩; have hs7 := hs5.keep hk; clear hk; conv => whnf)
          | (refine (sIsWay_ok rw0 hrw _ _ _ _ (St.has hs7 (.head _)) rfl).mono ?_; rintro w h8 ⟨rfl, hk⟩; have hs8 := hs7.keep hk; clear hk; conv => whnf)
          | (refine (sDiam_ok m _ (by omega)).mono ?_; rintro w h9 ⟨rfl, hk⟩; have hs9 := hs8.keep hk; clear hk; conv => whnf)
          | (refine (iCommon_ok _ _ _).mono ?_; rintro w h1 ⟨rfl, hk⟩; have hs10 := hs9.keep hk; clear hk; conv => whnf)
          | (refine (sCommon_ok _ _ _).mono ?_; rintro w h1 ⟨rfl, hk⟩; have hs11 := hs10.keep hk; clear hk; conv => whnf)
          | (refine Br.t (beq_self_eq_true (isWayF rw0)) ?_; conv => whnf)
          | (refine Br.t (beq_self_eq_true (diaF m)) ?_; conv => whnf)
          | (refine AW.seqLow (T := 21) ?_; conv => whnf)
          | (refine AW.region ?_; conv => whnf)
          | (refine AW.skip ?_; conv => whnf)
          | (refine AW.ret ?_; conv => whnf)
          | refine AW.cond (by rfl) ?_
          | (refine Br.tt ?_; conv => whnf)
          | (refine Br.ff ?_; conv => whnf)
          | (refine Br.dt (by omega) ?_; conv => whnf)
          | (refine Br.df (by omega) ?_; conv => whnf))
        all_goals first
          | rfl
          | (simp; done)
  · refine AW.less l1 ?_
    have hv1 := hv.keep k1
    have hv2 := hv1
    obtain ⟨rfl, e⟩ | ⟨b, c, rfl, hbb⟩ := hv2
    all_goals
      refine AW.seq ?_
      repeat' (first
        | (refine (drawIsWay_ok _ _ _ hv1 hl).mono ?_; rintro w h2 ⟨bw, rw0, rfl, hrw, hsw⟩; have hrl := hrw.len; conv => whnf)
        | (refine (drawDiam_ok _ _ _ (hv1.keep hsw.keeps) hl).mono ?_; rintro w h3 ⟨m, rfl, hm1, hm2, hk⟩; have hs3 := hsw.keep hk; clear hk; conv => whnf)
        | (refine (drawCom_ok _ _ _ (hv1.keep hs3.keeps) hl).mono ?_; rintro w h4 ⟨t, x, rfl, htz, hxz, hk⟩; have hs4 := hs3.keep hk; clear hk; conv => whnf)
        | (refine (iDiam_ok m _ (by omega)).mono ?_; rintro w h5 ⟨rfl, hk⟩; have hs5 := hs4.keep hk; clear hk; conv => whnf)
        | (refine (iIsWay_ok rw0 hrw _ _ _ _ (St.has hs5 (.head _)) rfl).mono ?_; rintro w h7 ⟨rfl, hk⟩; have hs7 := hs5.keep hk; clear hk; conv => whnf)
        | (refine (sIsWay_ok rw0 hrw _ _ _ _ (St.has hs7 (.head _)) rfl).mono ?_; rintro w h8 ⟨rfl, hk⟩; have hs8 := hs7.keep hk; clear hk; conv => whnf)
        | (refine (sDiam_ok m _ (by omega)).mono ?_; rintro w h9 ⟨rfl, hk⟩; have hs9 := hs8.keep hk; clear hk; conv => whnf)
        | (refine (iCommon_ok _ _ _).mono ?_; rintro w h1 ⟨rfl, hk⟩; have hs10 := hs9.keep hk; clear hk; conv => whnf)
        | (refine (sCommon_ok _ _ _).mono ?_; rintro w h1 ⟨rfl, hk⟩; have hs11 := hs10.keep hk; clear hk; conv => whnf)
        | (refine Br.t (beq_self_eq_true (isWayF rw0)) ?_; conv => whnf)
        | (refine Br.t (beq_self_eq_true (diaF m)) ?_; conv => whnf)
        | (refine AW.seqLow (T := 21) ?_; conv => whnf)
        | (refine AW.region ?_; conv => whnf)
        | (refine AW.skip ?_; conv => whnf)
        | (refine AW.ret ?_; conv => whnf)
        | refine AW.cond (by rfl) ?_
        | (refine Br.ff ?_; conv => whnf))
      all_goals first
        | rfl
        | (simp; done)
set_option maxHeartbeats 4000000 in
theorem lawDistances_ok {h : H} (v : AV) (m : BytesArg h v) : AC env 4 [v] h fun v _ => v = .bool true := by
  obtain ⟨l, hl0, hv, e1⟩ := bytesArg_two m
  by_cases hl : l.length ≤ 1048576
  · refine AC.enter Tryz.func4 Tryz.call4 rfl Tryz.ntmps4 (of_decide_eq_true (by rfl)) ?_
    exact disSeg1 l v hv hl (disSeg2 v (disSeg3 l v hv hl)) _ _ ⟨(Less.cons rfl (Less.nil _)), Keeps.refl _⟩
  · have hb : decide ((l.length : Int) > 1048576) = true := decide_eq_true (by omega)
    obtain ⟨rfl, rfl⟩ | ⟨b, c, rfl⟩ := e1
    all_goals
      refine AC.enter Tryz.func4 Tryz.call4 rfl Tryz.ntmps4 (of_decide_eq_true (by rfl)) ?_
      repeat' (first
        | (refine (codeBig_ok _ _ _ hv).mono ?_; rw [hb]; rintro w h' ⟨rfl, e'⟩; subst h'; conv => whnf)
        | (refine AW.seqLow (T := 21) ?_; conv => whnf)
        | (refine AW.region ?_; conv => whnf)
        | (refine AW.ret ?_; conv => whnf)
        | refine AW.cond (by rfl) ?_
        | (refine Br.tt ?_; conv => whnf))
      all_goals rfl

end Go.Proofs.YtbicfognbbeigaaGreat
