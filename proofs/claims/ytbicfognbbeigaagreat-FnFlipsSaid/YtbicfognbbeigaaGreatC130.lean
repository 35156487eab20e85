/-
  The third part of the law of flips is proved: ways to fans are the same on both sides and have no detours.
  It holds for all codes.
-/
import Derived.Test.YtbicfognbbeigaaGreatH35
set_option linter.unusedVariables false
set_option linter.unusedSimpArgs false
namespace Go.Proofs.YtbicfognbbeigaaGreat
open Go.Proofs.YtbicfognbbeigaaGreat.Ab Go.Proofs.YtbicfognbbeigaaGreat.Pl

structure FanW (N a u : Nat) (W : List (List (List Int))) : Prop where
  n6 : N ≤ 6
  ca : a < chT N
  cu : u < N + 2
  len : W.length = (N - 1 - degR (dh N a) (u : Int)) + 1
  tri : ∀ g ∈ W, isTri ((N + 2 : Nat) : Int) g = true
  last : W.getD (W.length - 1) [] = (fan ((N + 2 : Nat) : Int) (u : Int)).1
theorem fanw_cases {n : Int} {d : List (List Int)} (sm : SmallD n d) (k : Int) : (∃ N a u W, n = ((N + 2 : Nat) : Int) ∧ d = dh N a ∧ k = (u : Nat) ∧ fanWay n d k = (W, true) ∧ FanW N a u W) ∨ fanWay n d k = ([], false) := by
  by_cases h : isTri n d = true ∧ 0 ≤ k ∧ k ≤ n - 1
  · obtain ⟨ht, k0, k1⟩ := h
    have hb := sm.tri ht
    obtain ⟨M, rfl⟩ := isTri_int ht
    obtain ⟨a, ha, e⟩ := tri_h ht (by omega)
    obtain ⟨u, rfl⟩ := Int.eq_ofNat_of_zero_le k0
    have e2 : fanWay (M : Int) d (u : Int) = (wayN M (u : Int) d d.length, true) := if_pos ⟨ht, k0, k1⟩
    obtain ⟨N, rfl⟩ : ∃ N, M = N + 2 := ⟨M - 2, by omega⟩
    rw [show N + 2 - 2 = N by omega] at ha e
    subst e
    have w := way_end (n := N) (by omega) ha (v := u) (by omega)
    have wo := way_ok (v := (u : Int)) ht (dh N a).length
    refine .inl ⟨N, a, u, _, rfl, rfl, rfl, e2, ⟨by omega, ha, by omega, w.2, wo.tri, ?_⟩⟩
    rw [← last_at wo.pos, w.1]
  · exact .inr (if_neg h)
/-- a way to a fan is known -/
def MidW (h0 : H) (v : AV) (fr : Fr) (h : H) : Prop := ∃ (N a u bb Cb bl bm : Nat) (R : RL) (S T : RL3) (W : List (List (List Int))), FanW N a u W ∧ Less fr [(0, v), (21, .int .i64 ((N + 2 : Nat) : Int)), (22, .slice bb 0 (dh N a).length Cb), (23, .int .i64 ((u : Nat) : Int)), (24, .slice bl 0 W.length W.length), (25, .bool true), (26, .slice bm 0 W.length W.length), (27, .bool true)] ∧ (dh N a).length ≤ Cb ∧ rws R = dh N a ∧ rw3 S = W ∧ rw3 T = W ∧ S.length = W.length ∧ T.length = W.length ∧ St h0 h ((bm, row (slc3 T)) :: (blk3 T ++ ((bl, row (slc3 S)) :: (blk3 S ++ ((bb, row (slcs R)) :: (blks R ++ []))))))
def MidWN (h0 : H) (v : AV) (fr : Fr) (h : H) : Prop := MidW h0 v fr h ∨ ((∃ bl bm, Less fr [(0, v), (24, .slice bl 0 0 0), (25, .bool false), (26, .slice bm 0 0 0), (27, .bool false)]) ∧ Keeps h0 h)
theorem iFanWayK_ok {n k : Int} {f : List (List Int)} {W : List (List (List Int))} {t : Bool} (e : fanWay n f k = (W, t)) (R : RL) (b M C : Nat) (h0 : H) (hb : Grid h0 b R) (hR : rws R = f) (hM : M = f.length) (hl : M ≤ 1000000000) (hC : M ≤ C) (hn : (-9223372036854775808 ≤ n ∧ n ≤ 9223372036854775807) ∧ -9223372036854775808 ≤ k ∧ k ≤ 9223372036854775807) : AC env 16 [.int .i64 n, .slice b 0 M C, .int .i64 k] h0 fun v h' => ∃ b S, v = .tup [.slice b 0 W.length W.length, .bool t] ∧ rw3 S = W ∧ S.length = W.length ∧ St h0 h' ((b, row (slc3 S)) :: (blk3 S ++ [])) := by
  have := iFanWay_ok n R f b M C k h0 hb hR hM hl hC hn
  rw [e] at this
  exact this
theorem sFanWayK_ok {n k : Int} {f : List (List Int)} {W : List (List (List Int))} {t : Bool} (e : fanWay n f k = (W, t)) (R : RL) (b M C : Nat) (h0 : H) (hb : Grid h0 b R) (hR : rws R = f) (hM : M = f.length) (hl : M ≤ 1000000000) (hn : (-9223372036854775808 ≤ n ∧ n ≤ 9223372036854775807) ∧ -9223372036854775808 ≤ k ∧ k ≤ 9223372036854775807) : AC env 17 [.int .i64 n, .slice b 0 M C, .int .i64 k] h0 fun v h' => ∃ b S, v = .tup [.slice b 0 W.length W.length, .bool t] ∧ rw3 S = W ∧ S.length = W.length ∧ St h0 h' ((b, row (slc3 S)) :: (blk3 S ++ [])) := by
  have := sFanWay_ok n R f b M C k h0 hb hR hM hl hn
  rw [e] at this
  exact this
theorem iFanK_ok {n k : Int} {F : List (List Int)} {t : Bool} (e : fan n k = (F, t)) (h0 : H) (hn : -9223372036854775808 ≤ n ∧ n ≤ 9223372036854775807) (hv : -9223372036854775808 ≤ k ∧ k ≤ 9223372036854775807) : AC env 18 [.int .i64 n, .int .i64 k] h0 fun v h' => ∃ b R, v = .tup [.slice b 0 F.length F.length, .bool t] ∧ rws R = F ∧ R.length = F.length ∧ St h0 h' ((b, row (slcs R)) :: (blks R ++ [])) := by
  have := iFanOf_ok n k h0 hn hv
  rw [e] at this
  exact this
theorem sFanK_ok {n k : Int} {F : List (List Int)} {t : Bool} (e : fan n k = (F, t)) (h0 : H) (hn : -9223372036854775808 ≤ n ∧ n ≤ 9223372036854775807) (hv : -9223372036854775808 ≤ k ∧ k ≤ 9223372036854775807) : AC env 21 [.int .i64 n, .int .i64 k] h0 fun v h' => ∃ b R, v = .tup [.slice b 0 F.length F.length, .bool t] ∧ rws R = F ∧ R.length = F.length ∧ St h0 h' ((b, row (slcs R)) :: (blks R ++ [])) := by
  have := sFanOf_ok n k h0 hn hv
  rw [e] at this
  exact this
set_option maxHeartbeats 16000000 in
theorem flSeg3 {h0 : H} (l : List UInt8) (v : AV) (hv : CellsAt h0 v (bytesAV l)) (hl : l.length ≤ 1048576) {Q : Exit → Fr → H → Prop} (rest : ∀ fr h, MidWN h0 v fr h → AW env 311 (restL 10 (bodyOf Tryz.f3)) fr h Q) : ∀ fr h, MidC h0 v fr h → AW env 311 (restL 7 (bodyOf Tryz.f3)) fr h Q := by
  rintro fr h ⟨l1, k1⟩
  refine AW.less l1 ?_
  have hv1 := hv.keep k1
  obtain ⟨M, hM⟩ : ∃ M, M = MidWN h0 v := ⟨_, rfl⟩
  rw [← hM] at rest
  have hv2 := hv1
  obtain ⟨rfl, e⟩ | ⟨b, c, rfl, hbb⟩ := hv2
  all_goals
    refine AW.seqS [_, _, _] (M := M) ?_ rest
    conv => whnf
    repeat' (first
      | (refine (drawFanWay_ok _ _ _ hv1 hl).mono ?_; rintro w h1 ⟨n, k, d, bd, Cd, R, rfl, hk, hC, hR, sm, hn⟩; have hs1 := St.callR (St.keep (St.refl h0) k1) hn; clear hn; have hnb := sm.nb; have hdl := sm.len; rcases fanw_cases sm k with ⟨N, a, u, W, rfl, rfl, rfl, hF, fw⟩ | hF <;> (conv => whnf))
      | (refine (iFanWayK_ok hF R _ _ _ _ (St.gridAt hs1 .here) hR rfl (by omega) hC (by omega)).mono ?_; rintro w h2 ⟨b2, S, rfl, hS, hSl, hn⟩; have hs2 := St.call3 hs1 hn; clear hn; conv => whnf)
      | (refine (sFanWayK_ok hF R _ _ _ _ (St.gridAt hs2 (.there (.app .here))) hR rfl (by omega) (by omega)).mono ?_; rintro w h3 ⟨b3, T, rfl, hT, hTl, hn⟩; have hs3 := St.call3 hs2 hn; clear hn; conv => whnf)
      | (refine AW.region ?_; conv => whnf))
    all_goals
      rw [hM]
      first
        | exact .inr ⟨⟨b2, b3, (Less.cons rfl (Less.cons rfl (Less.cons rfl (Less.cons rfl (Less.cons rfl (Less.nil _))))))⟩, hs3.keeps⟩
        | exact .inl ⟨N, a, u, bd, Cd, b2, b3, R, S, T, W, fw, (Less.cons rfl (Less.cons rfl (Less.cons rfl (Less.cons rfl (Less.cons rfl (Less.cons rfl (Less.cons rfl (Less.cons rfl (Less.nil _))))))))), hC, hR, hS, hT, hSl, hTl, hs3⟩
set_option maxHeartbeats 16000000 in
theorem flSeg4 {h0 : H} (v : AV) {Q : Exit → Fr → H → Prop} (rest : ∀ fr h, MidC h0 v fr h → AW env 311 (restL 13 (bodyOf Tryz.f3)) fr h Q) : ∀ fr h, MidWN h0 v fr h → AW env 311 (restL 10 (bodyOf Tryz.f3)) fr h Q := by
  rintro fr h (⟨N, a, u, bb, Cb, bl, bm, R, S, T, W, fw, l1, hC, hR, hS, hT, hSl, hTl, hs⟩ | ⟨⟨bl, bm, l1⟩, hk⟩)
  · refine AW.less l1 ?_
    have n6 := fw.n6
    have cu := fw.cu
    have ka := num_h n6 fw.ca
    have la := ka.len
    have wl := fw.len
    have wt := fw.tri
    have wlast := fw.last
    have dg := degR_le (dh N a) (u : Int)
    have gS : Cube h bl S := St.cubeAt hs (.there (.app .here))
    have gT : Cube h bm T := St.cubeAt hs .here
    have gR : Grid h bb R := St.gridAt hs (.there (.app (.there (.app .here))))
    obtain ⟨F, hF⟩ : ∃ F, fan ((N + 2 : Nat) : Int) (u : Int) = (F, true) := ⟨_, if_pos ⟨by omega, by omega⟩⟩
    have gtri : ∀ q, q < W.length → isTri ((N + 2 : Nat) : Int) (W.getD q []) = true := fun q hq => wt _ (by
      rw [show W.getD q [] = W[q] by simp only [List.getD, List.getElem?_eq_getElem hq, Option.getD_some]]
      exact List.getElem_mem hq)
    have gsh : ∀ q, q < W.length → (∀ x ∈ W.getD q [], x.length ≤ 1000) ∧ (W.getD q []).length ≤ 10 := fun q hq => ⟨short_two (gtri q hq), by have := (tri_size (gtri q hq)).2; omega⟩
    rw [hF] at wlast
    have wlast : W.getD (W.length - 1) [] = F := wlast
    have ftri := gtri (W.length - 1) (by omega)
    rw [wlast] at ftri
    have fsz := (tri_size ftri).2
    have fsh := short_two ftri
    have hs0 := hs.keeps
    obtain ⟨M, hM⟩ : ∃ M, M = MidC h0 v := ⟨_, rfl⟩
    rw [← hM] at rest
    refine AW.seqS [_, _, _] (M := M) ?_ rest
    conv => whnf
    repeat' (first
      | (refine AW.seqLow (T := 47) ?_; conv => whnf)
      | (refine AW.region ?_; conv => whnf)
      | refine AW.block ?_
      | (refine AW.skip ?_; conv => whnf)
      | refine AW.cond (by rfl) ?_
      | (refine Br.ff ?_; conv => whnf)
      | refine Br.not ?_
      | (refine Br.t (beq_self_eq_true _) ?_; conv => whnf))
    refine AW.loop1 (fun (i : Nat) => [(0, v), (21, .int .i64 ((N + 2 : Nat) : Int)), (22, .slice bb 0 (dh N a).length Cb), (23, .int .i64 ((u : Nat) : Int)), (24, .slice bl 0 W.length W.length), (25, .bool true), (26, .slice bm 0 W.length W.length), (28, .int .i64 (i : Int))]) (fun i h' => i ≤ W.length ∧ h' = h) (fun i => W.length - i) 0
      (Less.cons rfl (Less.cons rfl (Less.cons rfl (Less.cons rfl (Less.cons rfl (Less.cons rfl (Less.cons rfl (Less.cons rfl (Less.nil _))))))))) ⟨by omega, rfl⟩ ?_
    rintro i h2 ⟨hi, rfl⟩
    by_cases hlt : i < W.length
    · have sS : rws (rl3 S i) = W.getD i [] := by rw [rw3_at hS]
      have sT : rws (rl3 T i) = W.getD i [] := by rw [rw3_at hT]
      have gs := gsh i hlt
      have gi : Grid h2 (rb3 S i) (rl3 S i) := gS.at (by omega)
      have gj : Grid h2 (rb3 T i) (rl3 T i) := gT.at (by omega)
      repeat' (first
        | (refine Cube.rowAt gS hS i rfl (by omega) (by omega) rfl ?_; conv => whnf)
        | (refine Cube.rowAt gT hT i rfl (by omega) (by omega) rfl ?_; conv => whnf)
        | (refine (sameListsD_ok (W.getD i []) (W.getD i []) (rl3 S i) (rl3 T i) _ _ _ _ _ _ _ gi gj sS sT rfl rfl (by omega) (by omega) gs.1 gs.1).mono ?_; rw [decide_eq_true rfl]; rintro w h' ⟨rfl, e'⟩; subst h'; conv => whnf)
        | (refine AW.seqLow (T := 47) ?_; conv => whnf)
        | (refine AW.region ?_; conv => whnf)
        | refine AW.block ?_
        | (refine AW.skip ?_; conv => whnf)
        | refine AW.cond (by rfl) ?_
        | (refine AW.draw (id := 33) (.p 0 (.p 1 (.p 2 (.p 4 (.p 5 (.p 6 (.r 3 [8, 9] (.r 7 [8, 9] (.all [8] fun _ => (.p 9 .done)))))))))) (by kernel_rfl) (by kernel_rfl) ?_; conv => whnf)
        | (refine Br.ff ?_; conv => whnf)
        | (refine Br.dt (by omega) ?_; conv => whnf)
        | (refine Wr.i64 (by omega) ?_; conv => whnf)
        | (refine Ck.mk (by omega) ?_; conv => whnf))
      all_goals exact ⟨i + 1, (Less.cons rfl (Less.cons rfl (Less.cons rfl (Less.cons rfl (Less.cons rfl (Less.cons rfl (Less.cons rfl (Less.cons rfl (Less.nil _))))))))), ⟨by omega, rfl⟩, by omega⟩
    · have sT : rws (rl3 T (W.length - 1)) = F := by rw [← wlast, rw3_at hT]
      have gj : Grid h2 (rb3 T (W.length - 1)) (rl3 T (W.length - 1)) := gT.at (by omega)
      have fl : F.length = (W.getD (W.length - 1) []).length := by rw [wlast]
      by_cases big : 2 ≤ N
      · obtain ⟨qd, ql⟩ := quid_deg n6 (by omega) fw.ca cu
        have qg : (ints (quidF ((N + 2 : Nat) : Int) (dh N a)))[((u : Nat) : Int).toNat]? = some (.int .i64 ((degR (dh N a) (u : Int) + 1 : Nat) : Int)) := by
          rw [Int.toNat_natCast, ← qd]
          unfold ints
          rw [List.getElem?_map, List.getElem?_eq_getElem (by omega)]
          simp only [Option.map_some, List.getD, List.getElem?_eq_getElem (show u < (quidF ((N + 2 : Nat) : Int) (dh N a)).length by omega), Option.getD_some]
        repeat' (first
          | (refine (iFanK_ok hF _ (by omega) (by omega)).mono ?_; rintro w h3 ⟨bf, RF, rfl, hRF, hRl, hn⟩; have gF := St.rows hn; have k3 := hn.keeps; clear hn; conv => whnf)
          | (refine (sQuid_ok ((N + 2 : Nat) : Int) R (dh N a) bb _ Cb _ (gR.keep k3) hR rfl (by omega) (by omega)).mono ?_; rintro w h4 ⟨bq, rfl, hq⟩; rw [ql]; conv => whnf)
          | (refine Cube.rowAt ((gT.keep k3).keep hq.keeps) hT (W.length - 1) rfl (by omega) (by omega) rfl ?_; conv => whnf)
          | (refine (sameListsD_ok F F (rl3 T (W.length - 1)) RF _ _ _ _ _ _ _ ((gj.keep k3).keep hq.keeps) (gF.keep hq.keeps) sT hRF (by omega) rfl (by omega) (by omega) fsh fsh).mono ?_; rw [decide_eq_true rfl]; rintro w h' ⟨rfl, e'⟩; subst h'; conv => whnf)
          | (refine Has.loadAt (v := .int .i64 ((degR (dh N a) (u : Int) + 1 : Nat) : Int)) hq.has rfl qg ?_; conv => whnf)
          | (refine AW.seqLow (T := 47) ?_; conv => whnf)
          | (refine AW.region ?_; conv => whnf)
          | (refine AW.skip ?_; conv => whnf)
          | (refine AW.exit ?_; conv => whnf)
          | refine AW.cond (by rfl) ?_
          | (refine Br.tt ?_; conv => whnf)
          | (refine Br.ff ?_; conv => whnf)
          | refine Br.not ?_
          | (refine Br.dt (by omega) ?_; conv => whnf)
          | (refine Br.df (by omega) ?_; conv => whnf)
          | (refine Wr.i64 (by omega) ?_; conv => whnf)
          | (refine Ck.mk (by omega) ?_; conv => whnf))
        all_goals
          rw [hM]
          exact ⟨(Less.cons rfl (Less.nil _)), (hs0.trans k3).trans hq.keeps⟩
      · repeat' (first
          | (refine (iFanK_ok hF _ (by omega) (by omega)).mono ?_; rintro w h3 ⟨bf, RF, rfl, hRF, hRl, hn⟩; have gF := St.rows hn; have k3 := hn.keeps; clear hn; conv => whnf)
          | (refine (sQuid_ok ((N + 2 : Nat) : Int) R (dh N a) bb _ Cb _ (gR.keep k3) hR rfl (by omega) (by omega)).mono ?_; rintro w h4 ⟨bq, rfl, hq⟩; conv => whnf)
          | (refine Cube.rowAt ((gT.keep k3).keep hq.keeps) hT (W.length - 1) rfl (by omega) (by omega) rfl ?_; conv => whnf)
          | (refine (sameListsD_ok F F (rl3 T (W.length - 1)) RF _ _ _ _ _ _ _ ((gj.keep k3).keep hq.keeps) (gF.keep hq.keeps) sT hRF (by omega) rfl (by omega) (by omega) fsh fsh).mono ?_; rw [decide_eq_true rfl]; rintro w h' ⟨rfl, e'⟩; subst h'; conv => whnf)
          | (refine AW.seqLow (T := 47) ?_; conv => whnf)
          | (refine AW.region ?_; conv => whnf)
          | (refine AW.skip ?_; conv => whnf)
          | (refine AW.exit ?_; conv => whnf)
          | refine AW.cond (by rfl) ?_
          | (refine Br.tt ?_; conv => whnf)
          | (refine Br.ff ?_; conv => whnf)
          | (refine Br.df (by omega) ?_; conv => whnf)
          | (refine Wr.i64 (by omega) ?_; conv => whnf)
          | (refine Ck.mk (by omega) ?_; conv => whnf))
        all_goals
          rw [hM]
          exact ⟨(Less.cons rfl (Less.nil _)), (hs0.trans k3).trans hq.keeps⟩
  · refine AW.less l1 ?_
    have hs := St.refl h
    obtain ⟨M, hM⟩ : ∃ M, M = MidC h0 v := ⟨_, rfl⟩
    rw [← hM] at rest
    refine AW.seqS [_, _, _] (M := M) ?_ rest
    conv => whnf
    repeat' (first
      | (refine AW.seqLow (T := 47) ?_; conv => whnf)
      | (refine AW.region ?_; conv => whnf)
      | refine AW.block ?_
      | (refine AW.skip ?_; conv => whnf)
      | refine AW.cond (by rfl) ?_
      | (refine Br.ff ?_; conv => whnf))
    refine AW.once ?_
    repeat' (first
      | (refine AW.seqLow (T := 47) ?_; conv => whnf)
      | (refine AW.region ?_; conv => whnf)
      | (refine AW.skip ?_; conv => whnf)
      | (refine AW.exit ?_; conv => whnf)
      | refine AW.cond (by rfl) ?_
      | (refine Br.ff ?_; conv => whnf))
    rw [hM]
    exact ⟨(Less.cons rfl (Less.nil _)), hk⟩

end Go.Proofs.YtbicfognbbeigaaGreat
