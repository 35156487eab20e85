/-
  The first part of the law of friezes is proved.
  It holds for all codes.
-/
import Derived.Test.YtbicfognbbeigaaH37
set_option linter.unusedVariables false
set_option linter.unusedSimpArgs false
namespace Go.Proofs.Ytbicfognbbeigaa
open Go.Proofs.Ytbicfognbbeigaa.Ab Go.Proofs.Ytbicfognbbeigaa.Pl

set_option maxHeartbeats 16000000 in
theorem friSeg1s {h0 : H} (l : List UInt8) (b c : Nat) (hv : CellsAt h0 (.slice b 0 (bytesAV l).length c) (bytesAV l)) (hl : l.length ≤ 1048576) {Q : Exit → Fr → H → Prop} (rest : ∀ fr h, MidC h0 (.slice b 0 (bytesAV l).length c) fr h → AW env 220 (restL 6 (bodyOf Try.f3)) fr h Q) : ∀ fr h, MidQ h0 (.slice b 0 (bytesAV l).length c) fr h → AW env 220 (restL 5 (bodyOf Try.f3)) fr h Q := by
  rintro fr h ⟨n, d, q, bd, Cd, R, bq, l1, hC, hR, sm, hq, hs⟩
  refine AW.less l1 ?_
  have hv1 := hv.keep hs.keeps
  obtain ⟨M, hM⟩ : ∃ M, M = MidC h0 (.slice b 0 (bytesAV l).length c) := ⟨_, rfl⟩
  rw [← hM] at rest
  have hnb := sm.nb
  have hdl := sm.len
  have hdr := sm.rows
  rcases hq with hF | rfl
  · have hn3 := hF.n3
    have hlq := hF.len
    have hfl := frz_len q
    have hrow : ∀ r, r < q.length + 1 → ((frz q).getD r []).length = q.length := fun r hr => by rw [frz_row q hr, tab_length]
    refine AW.seqS [_] (M := M) ?_ rest
    conv => whnf
    repeat' (first
      | (refine (iFriezeK_ok hF.fr _ _ _ _ (by first | assumption | exact St.has (by assumption) (by repeat first | exact .head _ | apply List.Mem.tail | apply List.mem_append_right) | exact St.arg (by assumption) (by assumption)) rfl (by omega)).mono ?_; rintro w h' ⟨bF, RF, rfl, hRF, hLF, hn⟩; have hs' := St.callR (by assumption) hn; clear hn; conv => whnf)
      | (refine (iTriQK_ok hF.tri _ _ _ _ (by first | assumption | exact St.has (by assumption) (by repeat first | exact .head _ | apply List.Mem.tail | apply List.mem_append_right) | exact St.arg (by assumption) (by assumption)) rfl (by omega)).mono ?_; rintro w h' ⟨bT, RT, rfl, hRT, hLT, hn⟩; have hs' := St.callR (by assumption) hn; clear hn; conv => whnf)
      | (refine (codeAt_ok _ _ 2 _ (hv.keep (St.keeps (by assumption))) hl (by decide)).mono ?_; rintro w h' ⟨x2, rfl, hx2, e'⟩; subst h'; have hA := tmod_bd (x := x2) (n := n) hx2.1 (by omega); have hA2 := tmod_bd (x := x2.tmod n + 1) (n := n) (by omega) (by omega); conv => whnf)
      | (refine (codeAt_ok _ _ 3 _ (hv.keep (St.keeps (by assumption))) hl (by decide)).mono ?_; rintro w h' ⟨x3, rfl, hx3, e'⟩; subst h'; have hB := tmod_bd (x := x3) (n := n) hx3.1 (by omega); have hB2 := tmod_bd (x := x3.tmod n + 1) (n := n) (by omega) (by omega); conv => whnf)
      | (refine (isFrieze_ok RF (frz q) _ _ _ _ (St.gridAt (by assumption) (by repeat first | exact RSpot.here | apply RSpot.there | apply RSpot.app)) hRF rfl (by omega)).mono ?_; rw [hF.isf]; rintro v h' ⟨rfl, e'⟩; subst h'; conv => whnf)
      | (refine (iIsQuiddity_ok q _ _ _ _ (by first | assumption | exact St.has (by assumption) (by repeat first | exact .head _ | apply List.Mem.tail | apply List.mem_append_right) | exact St.arg (by assumption) (by assumption)) rfl (by omega)).mono ?_; rw [hF.is]; rintro v h' ⟨rfl, hk'⟩; have hs' := St.keep (by assumption) hk'; clear hk'; conv => whnf)
      | (refine (sameListsD_ok d d _ _ _ _ _ _ _ _ _ (St.gridAt (by assumption) (by repeat first | exact RSpot.here | apply RSpot.there | apply RSpot.app)) (St.gridAt (by assumption) (by repeat first | exact RSpot.here | apply RSpot.there | apply RSpot.app)) (by assumption) (by assumption) rfl rfl (by omega) (by omega) (fun x hx => by have := hdr x hx; omega) (fun x hx => by have := hdr x hx; omega)).mono ?_; rw [decide_eq_true rfl]; rintro v h' ⟨rfl, e'⟩; subst h'; conv => whnf)
      | (refine (total_ok q _ _ _ _ (by first | assumption | exact St.has (by assumption) (by repeat first | exact .head _ | apply List.Mem.tail | apply List.mem_append_right) | exact St.arg (by assumption) (by assumption)) rfl (by omega) hF.bd).mono ?_; rw [hF.sum]; rintro w h' ⟨rfl, e'⟩; subst h'; conv => whnf)
      | (refine (iFri_ok n R d _ _ _ _ _ _ (St.gridAt (by assumption) (by repeat first | exact RSpot.here | apply RSpot.there | apply RSpot.app)) hR rfl (by omega) hC ⟨by omega, by omega, by omega⟩).mono ?_; rintro v h' ⟨rfl, hk'⟩; have hs' := St.keep (by assumption) hk'; clear hk'; conv => whnf)
      | (refine Grid.rowAt (b := bF) (R := RF) (St.gridAt (by assumption) (by (repeat first | exact RSpot.here | apply RSpot.there | apply RSpot.app); done)) hRF _ rfl rfl (by omega) (hrow _ (by omega)) ?_; conv => whnf)
      | (refine Grid.numAt (b := bF) (R := RF) (St.gridAt (by assumption) (by (repeat first | exact RSpot.here | apply RSpot.there | apply RSpot.app); done)) hRF _ _ rfl rfl (by omega) (by rw [hrow _ (by omega)]; omega) ?_; conv => whnf)
      | (refine Ck.mk (by have := tmod_bd (x := x2.tmod n + 1) (n := n) (by omega) (by omega); omega) ?_; conv => whnf)
      | (refine Br.nf (hF.ent _ _ (by omega) (by omega) (by omega)) ?_; conv => whnf)
      | (refine Br.nf (hF.sym _ _ (by omega) (by omega) (by omega) (by omega)) ?_; conv => whnf)
      | (refine And.intro ?_ ?_ <;> (conv => whnf))
      | (refine AW.seqLow (T := 27) ?_; conv => whnf)
      | (refine AW.region ?_; conv => whnf)
      | (refine AW.skip ?_; conv => whnf)
      | refine AW.cond (by rfl) ?_
      | (refine AW.draw (id := 16) (.p 0 (.p 1 (.p 2 (.p 3 (.all [4] fun _ => (.p 5 (.p 6 (.p 7 (.p 8 (.all [9] fun _ => (.p 10 (.p 11 (.p 12 (.p 13 (.p 14 (.p 15 (.p 16 (.p 17 (.p 18 (.all [19] fun _ => (.p 20 (.p 21 (.p 22 (.p 23 (.p 25 (.p 26 (.p 27 (.all [24] fun _ => (.p 28 (.p 29 (.p 30 (.p 31 (.p 32 (.p 33 (.p 34 (.p 36 (.p 37 (.p 38 (.p 39 (.p 40 (.p 42 (.p 43 (.p 44 (.p 45 (.all [35, 41] fun i => bif Nat.beq i 35 then (.r 41 [46, 47, 48, 49, 50, 51, 52, 53, 54, 55, 56, 57, 58, 59, 60, 61, 62] (.p 46 (.r 47 [48, 49, 50, 51, 52, 53, 54, 55, 56, 57, 58, 59, 60, 61, 62] (.p 48 (.p 49 (.p 50 (.p 51 (.p 52 (.p 53 (.p 54 (.p 56 (.p 57 (.p 58 (.p 59 (.all [55] fun _ => (.all [60] fun _ => (.p 61 (.p 62 .done)))))))))))))))))) else (.p 46 (.all [35, 47] fun i => bif Nat.beq i 35 then (.r 47 [48, 49, 50, 51, 52, 53, 54, 55, 56, 57, 58, 59, 60, 61, 62] (.p 48 (.p 49 (.p 50 (.p 51 (.p 52 (.p 53 (.p 54 (.p 56 (.p 57 (.p 58 (.p 59 (.all [55] fun _ => (.all [60] fun _ => (.p 61 (.p 62 .done)))))))))))))))) else (.all [35] fun _ => (.p 48 (.p 49 (.p 50 (.p 51 (.p 52 (.p 53 (.p 54 (.p 56 (.p 57 (.p 58 (.p 59 (.all [55] fun _ => (.all [60] fun _ => (.p 61 (.p 62 .done))))))))))))))))))))))))))))))))))))))))))))))))))))))))))))))) (by kernel_rfl) (by kernel_rfl) ?_; conv => whnf)
      | (refine Br.ff ?_; conv => whnf)
      | refine Br.not ?_
      | (refine Br.t (beq_self_eq_true _) ?_; conv => whnf)
      | (refine Br.dt (by omega) ?_; conv => whnf)
      | (refine Br.dec (fun hc => ?_) (fun hc => ?_) <;> conv => whnf)
      | (refine Wr.i64 (by omega) ?_; conv => whnf))
    all_goals first
      | (rw [hM]; exact ⟨(Less.cons rfl (Less.nil _)), St.keeps (by assumption)⟩)
      | (clear rest; fail "stuck")
  · refine AW.seqS [_] (M := M) ?_ rest
    conv => whnf
    repeat' (first
      | (refine AW.seqLow (T := 27) ?_; conv => whnf)
      | (refine AW.region ?_; conv => whnf)
      | (refine AW.skip ?_; conv => whnf)
      | refine AW.cond (by rfl) ?_
      | (refine Br.ff ?_; conv => whnf))
    rw [hM]
    exact ⟨(Less.cons rfl (Less.nil _)), hs.keeps⟩

end Go.Proofs.Ytbicfognbbeigaa

/-
  The first part of the law of friezes is proved.
  It holds for all codes.
-/
set_option linter.unusedVariables false
set_option linter.unusedSimpArgs false
namespace Go.Proofs.Ytbicfognbbeigaa
open Go.Proofs.Ytbicfognbbeigaa.Ab Go.Proofs.Ytbicfognbbeigaa.Pl

theorem friSeg1 {h0 : H} (l : List UInt8) (v : AV) (hv : CellsAt h0 v (bytesAV l)) (hl : l.length ≤ 1048576) {Q : Exit → Fr → H → Prop} (rest : ∀ fr h, MidC h0 v fr h → AW env 220 (restL 6 (bodyOf Try.f3)) fr h Q) : ∀ fr h, MidC h0 v fr h → AW env 220 (restL 0 (bodyOf Try.f3)) fr h Q := by
  intro fr h m
  refine friSeg1a l v hv hl (fun fr h m2 => ?_) fr h m
  have hv2 := hv
  rcases hv2 with ⟨rfl, e⟩ | ⟨b, c, rfl, hbb⟩
  · exact friSeg1n l hv hl rest fr h m2
  · exact friSeg1s l b c hv hl rest fr h m2

end Go.Proofs.Ytbicfognbbeigaa

/-
  The second part of the law of friezes is proved.
  It holds for all codes.
-/
set_option linter.unusedVariables false
set_option linter.unusedSimpArgs false
namespace Go.Proofs.Ytbicfognbbeigaa
open Go.Proofs.Ytbicfognbbeigaa.Ab Go.Proofs.Ytbicfognbbeigaa.Pl

set_option maxHeartbeats 16000000 in
theorem friSeg2 {h0 : H} (l : List UInt8) (v : AV) (hv : CellsAt h0 v (bytesAV l)) (hl : l.length ≤ 1048576) {Q : Exit → Fr → H → Prop} (rest : ∀ fr h, MidC h0 v fr h → AW env 220 (restL 12 (bodyOf Try.f3)) fr h Q) : ∀ fr h, MidC h0 v fr h → AW env 220 (restL 6 (bodyOf Try.f3)) fr h Q := by
  rintro fr h ⟨l1, k1⟩
  refine AW.less l1 ?_
  have hs := St.refl h
  have hv1 := hv.keep k1
  obtain ⟨M, hM⟩ : ∃ M, M = MidC h0 v := ⟨_, rfl⟩
  rw [← hM] at rest
  have hv2 := hv1
  obtain ⟨rfl, e⟩ | ⟨b, c, rfl, hbb⟩ := hv2
  all_goals
    refine AW.seqS [_, _, _, _, _, _] (M := M) ?_ rest
    conv => whnf
    repeat' (first
      | (refine (drawFriOf_ok _ _ _ hv1 hl).mono ?_; rintro w h' ⟨bq, q, rfl, hq, hn⟩; have hs' := St.call hs hn; clear hn; dsimp only [List.cons_append, List.nil_append] at hs'; have hfr := frz_rows q hq; have hnil : ∀ x ∈ ([] : List (List Int)), x.length ≤ 1000 := (fun x hx => (nomatch hx)); have hfr2 : ∀ x ∈ frz q, x.length ≤ 1000 := (fun x hx => by have := hfr.2 x hx; omega); rcases friQ_cases q with ⟨hi, hf, g, hg, hgl, hgr⟩ | ⟨hi, hf, hg⟩ <;> (conv => whnf))
      | (refine (iFriezeK_ok hf _ _ _ _ (by first | assumption | exact St.has (by assumption) (by repeat first | exact .head _ | apply List.Mem.tail | apply List.mem_append_right) | exact St.arg (by assumption) (by assumption)) rfl (by omega)).mono ?_; rintro w h' ⟨bF, RF, rfl, hRF, hLF, hn⟩; have hs' := St.callR (by assumption) hn; clear hn; conv => whnf)
      | (refine (sFriezeK_ok hf _ _ _ _ (by first | assumption | exact St.has (by assumption) (by repeat first | exact .head _ | apply List.Mem.tail | apply List.mem_append_right) | exact St.arg (by assumption) (by assumption)) rfl (by omega)).mono ?_; rintro w h' ⟨bG, RG, rfl, hRG, hLG, hn⟩; have hs' := St.callR (by assumption) hn; clear hn; conv => whnf)
      | (refine (iTriQK_ok hg _ _ _ _ (by first | assumption | exact St.has (by assumption) (by repeat first | exact .head _ | apply List.Mem.tail | apply List.mem_append_right) | exact St.arg (by assumption) (by assumption)) rfl (by omega)).mono ?_; rintro w h' ⟨bT, RT, rfl, hRT, hLT, hn⟩; have hs' := St.callR (by assumption) hn; clear hn; conv => whnf)
      | (refine (sTriQK_ok hg _ _ _ _ (by first | assumption | exact St.has (by assumption) (by repeat first | exact .head _ | apply List.Mem.tail | apply List.mem_append_right) | exact St.arg (by assumption) (by assumption)) rfl (by omega)).mono ?_; rintro w h' ⟨bU, RU, rfl, hRU, hLU, hn⟩; have hs' := St.callR (by assumption) hn; clear hn; conv => whnf)
      | (refine (sameListsD_ok _ _ _ _ _ _ _ _ _ _ _ (St.gridAt (by assumption) (by repeat first | exact RSpot.here | apply RSpot.there | apply RSpot.app)) (St.gridAt (by assumption) (by repeat first | exact RSpot.here | apply RSpot.there | apply RSpot.app)) (by assumption) (by assumption) rfl rfl (by first | omega | (simp; done)) (by first | omega | (simp; done)) (by assumption) (by assumption)).mono ?_; rw [decide_eq_true rfl]; rintro v h' ⟨rfl, e'⟩; subst h'; conv => whnf)
      | (refine (iIsQuiddity_ok q _ _ _ _ (by first | assumption | exact St.has (by assumption) (by repeat first | exact .head _ | apply List.Mem.tail | apply List.mem_append_right) | exact St.arg (by assumption) (by assumption)) rfl (by omega)).mono ?_; rw [hi]; rintro v h' ⟨rfl, hk'⟩; have hs' := St.keep (by assumption) hk'; clear hk'; conv => whnf)
      | (refine AW.seqLow (T := 27) ?_; conv => whnf)
      | (refine AW.region ?_; conv => whnf)
      | (refine AW.skip ?_; conv => whnf)
      | refine AW.cond (by rfl) ?_
      | (refine Br.ff ?_; conv => whnf))
    all_goals
      rw [hM]
      exact ⟨(Less.cons rfl (Less.nil _)), k1.trans hs'.keeps⟩

end Go.Proofs.Ytbicfognbbeigaa
