/-
  The law of friezes is proved.
  It holds for all codes.
-/
import Derived.Test.YtbicfognbbeigaaH38
set_option linter.unusedVariables false
set_option linter.unusedSimpArgs false
namespace Go.Proofs.Ytbicfognbbeigaa
open Go.Proofs.Ytbicfognbbeigaa.Ab Go.Proofs.Ytbicfognbbeigaa.Pl

set_option maxHeartbeats 16000000 in
theorem friSeg3 {h0 : H} (l : List UInt8) (v : AV) (hv : CellsAt h0 v (bytesAV l)) (hl : l.length ≤ 1048576) : ∀ fr h, MidC h0 v fr h → AW env 220 (restL 12 (bodyOf Try.f3)) fr h (retK Try.f3.results.toList fun v _ => v = .bool true) := by
  rintro fr h ⟨l1, k1⟩
  refine AW.less l1 ?_
  have hs := St.refl h
  have hv1 := hv.keep k1
  have hv2 := hv1
  obtain ⟨rfl, e⟩ | ⟨b, c, rfl, hbb⟩ := hv2
  all_goals
    refine AW.seq ?_
    repeat' (first
      | (refine (drawIsFri_ok _ _ _ hv1 hl).mono ?_; rintro w h' ⟨bf, f, Rf, rfl, hRf, hfl, hfr, hn⟩; have hs' := St.callR hs hn; clear hn; conv => whnf)
      | (refine (drawFriEntry_ok _ _ _ (hv1.keep (St.keeps (by assumption))) hl).mono ?_; rintro w h' ⟨n, x, y, d, bd, Cd, R, rfl, hx, hy, hC, hR, sm, hn⟩; have hs' := St.callR (by assumption) hn; clear hn; have hnb := sm.nb; have hdl := sm.len; conv => whnf)
      | (refine (isFrieze_ok Rf f _ _ _ _ (St.gridAt (by assumption) (by repeat first | exact RSpot.here | apply RSpot.there | apply RSpot.app)) hRf rfl (by omega)).mono ?_; rintro v h' ⟨rfl, e'⟩; subst h'; conv => whnf)
      | (refine (sIsFrieze_ok Rf f _ _ _ _ (St.gridAt (by assumption) (by repeat first | exact RSpot.here | apply RSpot.there | apply RSpot.app)) hRf rfl (by omega)).mono ?_; rintro v h' ⟨rfl, e'⟩; subst h'; conv => whnf)
      | (refine (sumOfFrieze_ok Rf f _ _ _ _ (St.gridAt (by assumption) (by repeat first | exact RSpot.here | apply RSpot.there | apply RSpot.app)) hRf rfl (by omega)).mono ?_; rintro v h' ⟨rfl, e'⟩; subst h'; conv => whnf)
      | (refine (sSumOfFrieze_ok Rf f _ _ _ _ (St.gridAt (by assumption) (by repeat first | exact RSpot.here | apply RSpot.there | apply RSpot.app)) hRf rfl (by omega)).mono ?_; rintro v h' ⟨rfl, e'⟩; subst h'; conv => whnf)
      | (refine (iFri_ok n R d _ _ _ _ _ _ (St.gridAt (by assumption) (by repeat first | exact RSpot.here | apply RSpot.there | apply RSpot.app)) hR rfl (by omega) hC ⟨by omega, by omega, by omega⟩).mono ?_; rintro v h' ⟨rfl, hk'⟩; have hs' := St.keep (by assumption) hk'; clear hk'; conv => whnf)
      | (refine (sFri_ok n R d _ _ _ _ _ _ (St.gridAt (by assumption) (by repeat first | exact RSpot.here | apply RSpot.there | apply RSpot.app)) hR rfl (by omega) ⟨by omega, by omega, by omega⟩).mono ?_; rintro v h' ⟨rfl, hk'⟩; have hs' := St.keep (by assumption) hk'; clear hk'; conv => whnf)
      | (refine AW.seqLow (T := 27) ?_; conv => whnf)
      | (refine AW.region ?_; conv => whnf)
      | refine AW.block ?_
      | (refine AW.skip ?_; conv => whnf)
      | (refine AW.ret ?_; conv => whnf)
      | (refine AW.exit ?_; conv => whnf)
      | refine AW.cond (by rfl) ?_
      | (refine AW.draw (id := 16) (.p 0 (.p 1 (.p 2 (.p 3 (.all [4] fun _ => (.p 5 (.p 6 (.p 7 (.p 8 (.all [9] fun _ => (.p 10 (.p 11 (.p 12 (.p 13 (.p 14 (.p 15 (.p 16 (.p 17 (.p 18 (.all [19] fun _ => (.p 20 (.p 21 (.p 22 (.p 23 (.p 25 (.p 26 (.p 27 (.all [24] fun _ => (.p 28 (.p 29 (.p 30 (.p 31 (.p 32 (.p 33 (.p 34 (.p 36 (.p 37 (.p 38 (.p 39 (.p 40 (.p 42 (.p 43 (.p 44 (.p 45 (.all [35, 41] fun i => bif Nat.beq i 35 then (.r 41 [46, 47, 48, 49, 50, 51, 52, 53, 54, 55, 56, 57, 58, 59, 60, 61, 62] (.p 46 (.r 47 [48, 49, 50, 51, 52, 53, 54, 55, 56, 57, 58, 59, 60, 61, 62] (.p 48 (.p 49 (.p 50 (.p 51 (.p 52 (.p 53 (.p 54 (.p 56 (.p 57 (.p 58 (.p 59 (.all [55] fun _ => (.all [60] fun _ => (.p 61 (.p 62 .done)))))))))))))))))) else (.p 46 (.all [35, 47] fun i => bif Nat.beq i 35 then (.r 47 [48, 49, 50, 51, 52, 53, 54, 55, 56, 57, 58, 59, 60, 61, 62] (.p 48 (.p 49 (.p 50 (.p 51 (.p 52 (.p 53 (.p 54 (.p 56 (.p 57 (.p 58 (.p 59 (.all [55] fun _ => (.all [60] fun _ => (.p 61 (.p 62 .done)))))))))))))))) else (.all [35] fun _ => (.p 48 (.p 49 (.p 50 (.p 51 (.p 52 (.p 53 (.p 54 (.p 56 (.p 57 (.p 58 (.p 59 (.all [55] fun _ => (.all [60] fun _ => (.p 61 (.p 62 .done))))))))))))))))))))))))))))))))))))))))))))))))))))))))))))))) (by kernel_rfl) (by kernel_rfl) ?_; conv => whnf)
      | (refine (iQuid_ok _ _ _ _ _ _ _ (St.gridAt (by assumption) (by repeat first | exact RSpot.here | apply RSpot.there | apply RSpot.app)) (by assumption) (by first | rfl | omega) (by omega) (by omega) (by omega)).mono ?_; rintro v h' ⟨bQ, rfl, hnQ⟩; have hs' := St.newCall (by assumption) hnQ; clear hnQ; conv => whnf)
      | (refine (sQuid_ok _ _ _ _ _ _ _ (St.gridAt (by assumption) (by repeat first | exact RSpot.here | apply RSpot.there | apply RSpot.app)) (by assumption) (by first | rfl | omega) (by omega) (by omega)).mono ?_; rintro v h' ⟨bQ, rfl, hnQ⟩; have hs' := St.newCall (by assumption) hnQ; clear hnQ; conv => whnf)
      | (refine (iFriezeOf_ok _ _ _ _ _ (by first | assumption | exact St.has (by assumption) (by repeat first | exact .head _ | apply List.Mem.tail) | exact St.arg (by assumption) (by assumption)) (by first | rfl | omega) (by first | (simp; done) | omega | (simp only [List.length_set, List.length_append, List.length_cons, List.length_nil, List.length_replicate, tab_length]; omega) | (simp; omega))).mono ?_; rintro v h' ⟨bF, RF, rfl, hRF, hLF, hsF⟩; have hs' := St.callR (by assumption) hsF; clear hsF; conv => whnf)
      | (refine (iTriQ_ok _ _ _ _ _ (by first | assumption | exact St.has (by assumption) (by repeat first | exact .head _ | apply List.Mem.tail) | exact St.arg (by assumption) (by assumption)) (by first | rfl | omega) (by first | (simp; done) | omega | (simp only [List.length_set, List.length_append, List.length_cons, List.length_nil, List.length_replicate, tab_length]; omega) | (simp; omega))).mono ?_; rintro v h' ⟨bF, RF, rfl, hRF, hLF, hsF⟩; have hs' := St.callR (by assumption) hsF; clear hsF; conv => whnf)
      | (refine (isFrieze_ok _ _ _ _ _ _ (by first | assumption | exact Grid.keep (by assumption) (by assumption)) (by assumption) (by omega) (by omega)).mono ?_; rintro v h' ⟨rfl, e'⟩; subst h'; conv => whnf)
      | (refine (iIsQuiddity_ok _ _ _ _ _ (by first | assumption | exact St.has (by assumption) (by repeat first | exact .head _ | apply List.Mem.tail) | exact St.arg (by assumption) (by assumption)) (by first | rfl | omega) (by first | (simp; done) | omega | (simp only [List.length_set, List.length_append, List.length_cons, List.length_nil, List.length_replicate, tab_length]; omega) | (simp; omega))).mono ?_; rintro v h' ⟨rfl, hkq⟩; have hs' := St.keep (by assumption) hkq; clear hkq; conv => whnf)
      | (refine (sameListsD_ok _ _ _ _ _ _ _ _ _ _ _ (St.gridAt (by assumption) (by repeat first | exact RSpot.here | apply RSpot.there | apply RSpot.app)) (St.gridAt (by assumption) (by repeat first | exact RSpot.here | apply RSpot.there | apply RSpot.app)) (by assumption) (by assumption) (by first | rfl | omega) (by first | rfl | omega) (by omega) (by omega) (by assumption) (by assumption)).mono ?_; rintro v h' ⟨rfl, e'⟩; subst h'; conv => whnf)
      | (refine (iFri_ok _ _ _ _ _ _ _ _ _ (St.gridAt (by assumption) (by repeat first | exact RSpot.here | apply RSpot.there | apply RSpot.app)) (by assumption) (by first | rfl | omega) (by omega) (by omega) (by omega)).mono ?_; rintro v h' ⟨rfl, hkF⟩; have hs' := St.keep (by assumption) hkF; clear hkF; conv => whnf)
      | (refine (sFriezeOf_ok _ _ _ _ _ (by first | assumption | exact St.has (by assumption) (by repeat first | exact .head _ | apply List.Mem.tail) | exact St.arg (by assumption) (by assumption)) (by first | rfl | omega) (by first | (simp; done) | omega | (simp only [List.length_set, List.length_append, List.length_cons, List.length_nil, List.length_replicate, tab_length]; omega) | (simp; omega))).mono ?_; rintro v h' ⟨bF, RF, rfl, hRF, hLF, hsF⟩; have hs' := St.callR (by assumption) hsF; clear hsF; conv => whnf)
      | (refine (sTriQ_ok _ _ _ _ _ (by first | assumption | exact St.has (by assumption) (by repeat first | exact .head _ | apply List.Mem.tail) | exact St.arg (by assumption) (by assumption)) (by first | rfl | omega) (by first | (simp; done) | omega | (simp only [List.length_set, List.length_append, List.length_cons, List.length_nil, List.length_replicate, tab_length]; omega) | (simp; omega))).mono ?_; rintro v h' ⟨bF, RF, rfl, hRF, hLF, hsF⟩; have hs' := St.callR (by assumption) hsF; clear hsF; conv => whnf)
      | (refine (sIsFrieze_ok _ _ _ _ _ _ (by first | assumption | exact Grid.keep (by assumption) (by assumption)) (by assumption) (by omega) (by omega)).mono ?_; rintro v h' ⟨rfl, e'⟩; subst h'; conv => whnf)
      | (refine (sumOfFrieze_ok _ _ _ _ _ _ (by first | assumption | exact Grid.keep (by assumption) (by assumption)) (by assumption) (by omega) (by omega)).mono ?_; rintro v h' ⟨rfl, e'⟩; subst h'; conv => whnf)
      | (refine (sSumOfFrieze_ok _ _ _ _ _ _ (by first | assumption | exact Grid.keep (by assumption) (by assumption)) (by assumption) (by omega) (by omega)).mono ?_; rintro v h' ⟨rfl, e'⟩; subst h'; conv => whnf)
      | (refine (sFri_ok _ _ _ _ _ _ _ _ _ (St.gridAt (by assumption) (by repeat first | exact RSpot.here | apply RSpot.there | apply RSpot.app)) (by assumption) (by first | rfl | omega) (by omega) (by omega)).mono ?_; rintro v h' ⟨rfl, hkF⟩; have hs' := St.keep (by assumption) hkF; clear hkF; conv => whnf)
      | (refine Br.tt ?_; conv => whnf)
      | (refine Br.ff ?_; conv => whnf)
      | refine Br.not ?_
      | (refine Br.t (beq_self_eq_true _) ?_; conv => whnf)
      | (refine Br.t (by assumption) ?_; conv => whnf)
      | (refine Br.f (by assumption) ?_; conv => whnf)
      | (refine Br.dt (by omega) ?_; conv => whnf)
      | (refine Br.df (by omega) ?_; conv => whnf)
      | (refine Br.it (by omega) ?_; conv => whnf)
      | (refine Br.if (by omega) ?_; conv => whnf)
      | (refine Br.nt (by omega) ?_; conv => whnf)
      | (refine Br.nf (by omega) ?_; conv => whnf)
      | (refine Br.dec (fun hc => ?_) (fun hc => ?_) <;> conv => whnf)
      | (refine Br.ieq (fun hc => ?_) (fun hc => ?_) <;> conv => whnf)
      | (refine Br.ine (fun hc => ?_) (fun hc => ?_) <;> conv => whnf)
      | (refine Br.mk (fun hc => ?_) (fun hc => ?_) <;> conv => whnf)
      | (refine Wr.i64 (by omega) ?_; conv => whnf)
      | (refine Ck.mk (by omega) ?_; conv => whnf)
      | (refine Wr.i64 (by simp only [List.length_drop, List.length_take, List.length_append, List.length_cons, List.length_nil]; omega) ?_; conv => whnf)
      | (refine Ck.mk (by simp only [List.length_drop, List.length_take, List.length_append, List.length_cons, List.length_nil]; omega) ?_; conv => whnf)
      | (refine Has.load1 (by first | assumption | exact St.has (by assumption) (by repeat first | exact .head _ | apply List.Mem.tail) | exact St.arg (by assumption) (by assumption)) ?_; conv => whnf)
      | (refine Has.loadZ (by first | assumption | exact St.has (by assumption) (by repeat first | exact .head _ | apply List.Mem.tail) | exact St.arg (by assumption) (by assumption)) rfl (by first | (simp; done) | omega | (simp only [List.length_set, List.length_append, List.length_cons, List.length_nil, List.length_replicate, tab_length]; omega) | (simp; omega)) ?_; conv => whnf)
      | (refine Ck.mk (by simp; omega) ?_; conv => whnf))
    all_goals first
      | rfl
      | (simp; done)
set_option maxHeartbeats 4000000 in
theorem lawFriezes_ok {h : H} (v : AV) (m : BytesArg h v) : AC env 3 [v] h fun v _ => v = .bool true := by
  obtain ⟨l, hl0, hv, e1⟩ := bytesArg_two m
  by_cases hl : l.length ≤ 1048576
  · refine AC.enter Try.func3 Try.call3 rfl Try.ntmps3 (of_decide_eq_true (by rfl)) ?_
    exact friSeg1 l v hv hl (friSeg2 l v hv hl (friSeg3 l v hv hl)) _ _ ⟨(Less.cons rfl (Less.nil _)), Keeps.refl _⟩
  · have hb : decide ((l.length : Int) > 1048576) = true := decide_eq_true (by omega)
    obtain ⟨rfl, rfl⟩ | ⟨b, c, rfl⟩ := e1
    all_goals
      refine AC.enter Try.func3 Try.call3 rfl Try.ntmps3 (of_decide_eq_true (by rfl)) ?_
      repeat' (first
        | (refine (codeBig_ok _ _ _ hv).mono ?_; rw [hb]; rintro w h' ⟨rfl, e'⟩; subst h'; conv => whnf)
        | (refine AW.seqLow (T := 27) ?_; conv => whnf)
        | (refine AW.region ?_; conv => whnf)
        | refine AW.block ?_
        | (refine AW.skip ?_; conv => whnf)
        | (refine AW.ret ?_; conv => whnf)
        | (refine AW.exit ?_; conv => whnf)
        | refine AW.cond (by rfl) ?_
        | (refine AW.draw (id := 16) (.p 0 (.p 1 (.p 2 (.p 3 (.all [4] fun _ => (.p 5 (.p 6 (.p 7 (.p 8 (.all [9] fun _ => (.p 10 (.p 11 (.p 12 (.p 13 (.p 14 (.p 15 (.p 16 (.p 17 (.p 18 (.all [19] fun _ => (.p 20 (.p 21 (.p 22 (.p 23 (.p 25 (.p 26 (.p 27 (.all [24] fun _ => (.p 28 (.p 29 (.p 30 (.p 31 (.p 32 (.p 33 (.p 34 (.p 36 (.p 37 (.p 38 (.p 39 (.p 40 (.p 42 (.p 43 (.p 44 (.p 45 (.all [35, 41] fun i => bif Nat.beq i 35 then (.r 41 [46, 47, 48, 49, 50, 51, 52, 53, 54, 55, 56, 57, 58, 59, 60, 61, 62] (.p 46 (.r 47 [48, 49, 50, 51, 52, 53, 54, 55, 56, 57, 58, 59, 60, 61, 62] (.p 48 (.p 49 (.p 50 (.p 51 (.p 52 (.p 53 (.p 54 (.p 56 (.p 57 (.p 58 (.p 59 (.all [55] fun _ => (.all [60] fun _ => (.p 61 (.p 62 .done)))))))))))))))))) else (.p 46 (.all [35, 47] fun i => bif Nat.beq i 35 then (.r 47 [48, 49, 50, 51, 52, 53, 54, 55, 56, 57, 58, 59, 60, 61, 62] (.p 48 (.p 49 (.p 50 (.p 51 (.p 52 (.p 53 (.p 54 (.p 56 (.p 57 (.p 58 (.p 59 (.all [55] fun _ => (.all [60] fun _ => (.p 61 (.p 62 .done)))))))))))))))) else (.all [35] fun _ => (.p 48 (.p 49 (.p 50 (.p 51 (.p 52 (.p 53 (.p 54 (.p 56 (.p 57 (.p 58 (.p 59 (.all [55] fun _ => (.all [60] fun _ => (.p 61 (.p 62 .done))))))))))))))))))))))))))))))))))))))))))))))))))))))))))))))) (by kernel_rfl) (by kernel_rfl) ?_; conv => whnf)
        | (refine (iQuid_ok _ _ _ _ _ _ _ (St.gridAt (by assumption) (by repeat first | exact RSpot.here | apply RSpot.there | apply RSpot.app)) (by assumption) (by first | rfl | omega) (by omega) (by omega) (by omega)).mono ?_; rintro v h' ⟨bQ, rfl, hnQ⟩; have hs' := St.newCall (by assumption) hnQ; clear hnQ; conv => whnf)
        | (refine (sQuid_ok _ _ _ _ _ _ _ (St.gridAt (by assumption) (by repeat first | exact RSpot.here | apply RSpot.there | apply RSpot.app)) (by assumption) (by first | rfl | omega) (by omega) (by omega)).mono ?_; rintro v h' ⟨bQ, rfl, hnQ⟩; have hs' := St.newCall (by assumption) hnQ; clear hnQ; conv => whnf)
        | (refine (iFriezeOf_ok _ _ _ _ _ (by first | assumption | exact St.has (by assumption) (by repeat first | exact .head _ | apply List.Mem.tail) | exact St.arg (by assumption) (by assumption)) (by first | rfl | omega) (by first | (simp; done) | omega | (simp only [List.length_set, List.length_append, List.length_cons, List.length_nil, List.length_replicate, tab_length]; omega) | (simp; omega))).mono ?_; rintro v h' ⟨bF, RF, rfl, hRF, hLF, hsF⟩; have hs' := St.callR (by assumption) hsF; clear hsF; conv => whnf)
        | (refine (iTriQ_ok _ _ _ _ _ (by first | assumption | exact St.has (by assumption) (by repeat first | exact .head _ | apply List.Mem.tail) | exact St.arg (by assumption) (by assumption)) (by first | rfl | omega) (by first | (simp; done) | omega | (simp only [List.length_set, List.length_append, List.length_cons, List.length_nil, List.length_replicate, tab_length]; omega) | (simp; omega))).mono ?_; rintro v h' ⟨bF, RF, rfl, hRF, hLF, hsF⟩; have hs' := St.callR (by assumption) hsF; clear hsF; conv => whnf)
        | (refine (isFrieze_ok _ _ _ _ _ _ (by first | assumption | exact Grid.keep (by assumption) (by assumption)) (by assumption) (by omega) (by omega)).mono ?_; rintro v h' ⟨rfl, e'⟩; subst h'; conv => whnf)
        | (refine (iIsQuiddity_ok _ _ _ _ _ (by first | assumption | exact St.has (by assumption) (by repeat first | exact .head _ | apply List.Mem.tail) | exact St.arg (by assumption) (by assumption)) (by first | rfl | omega) (by first | (simp; done) | omega | (simp only [List.length_set, List.length_append, List.length_cons, List.length_nil, List.length_replicate, tab_length]; omega) | (simp; omega))).mono ?_; rintro v h' ⟨rfl, hkq⟩; have hs' := St.keep (by assumption) hkq; clear hkq; conv => whnf)
        | (refine (sameListsD_ok _ _ _ _ _ _ _ _ _ _ _ (St.gridAt (by assumption) (by repeat first | exact RSpot.here | apply RSpot.there | apply RSpot.app)) (St.gridAt (by assumption) (by repeat first | exact RSpot.here | apply RSpot.there | apply RSpot.app)) (by assumption) (by assumption) (by first | rfl | omega) (by first | rfl | omega) (by omega) (by omega) (by assumption) (by assumption)).mono ?_; rintro v h' ⟨rfl, e'⟩; subst h'; conv => whnf)
        | (refine (iFri_ok _ _ _ _ _ _ _ _ _ (St.gridAt (by assumption) (by repeat first | exact RSpot.here | apply RSpot.there | apply RSpot.app)) (by assumption) (by first | rfl | omega) (by omega) (by omega) (by omega)).mono ?_; rintro v h' ⟨rfl, hkF⟩; have hs' := St.keep (by assumption) hkF; clear hkF; conv => whnf)
        | (refine (sFriezeOf_ok _ _ _ _ _ (by first | assumption | exact St.has (by assumption) (by repeat first | exact .head _ | apply List.Mem.tail) | exact St.arg (by assumption) (by assumption)) (by first | rfl | omega) (by first | (simp; done) | omega | (simp only [List.length_set, List.length_append, List.length_cons, List.length_nil, List.length_replicate, tab_length]; omega) | (simp; omega))).mono ?_; rintro v h' ⟨bF, RF, rfl, hRF, hLF, hsF⟩; have hs' := St.callR (by assumption) hsF; clear hsF; conv => whnf)
        | (refine (sTriQ_ok _ _ _ _ _ (by first | assumption | exact St.has (by assumption) (by repeat first | exact .head _ | apply List.Mem.tail) | exact St.arg (by assumption) (by assumption)) (by first | rfl | omega) (by first | (simp; done) | omega | (simp only [List.length_set, List.length_append, List.length_cons, List.length_nil, List.length_replicate, tab_length]; omega) | (simp; omega))).mono ?_; rintro v h' ⟨bF, RF, rfl, hRF, hLF, hsF⟩; have hs' := St.callR (by assumption) hsF; clear hsF; conv => whnf)
        | (refine (sIsFrieze_ok _ _ _ _ _ _ (by first | assumption | exact Grid.keep (by assumption) (by assumption)) (by assumption) (by omega) (by omega)).mono ?_; rintro v h' ⟨rfl, e'⟩; subst h'; conv => whnf)
        | (refine (sumOfFrieze_ok _ _ _ _ _ _ (by first | assumption | exact Grid.keep (by assumption) (by assumption)) (by assumption) (by omega) (by omega)).mono ?_; rintro v h' ⟨rfl, e'⟩; subst h'; conv => whnf)
        | (refine (sSumOfFrieze_ok _ _ _ _ _ _ (by first | assumption | exact Grid.keep (by assumption) (by assumption)) (by assumption) (by omega) (by omega)).mono ?_; rintro v h' ⟨rfl, e'⟩; subst h'; conv => whnf)
        | (refine (sFri_ok _ _ _ _ _ _ _ _ _ (St.gridAt (by assumption) (by repeat first | exact RSpot.here | apply RSpot.there | apply RSpot.app)) (by assumption) (by first | rfl | omega) (by omega) (by omega)).mono ?_; rintro v h' ⟨rfl, hkF⟩; have hs' := St.keep (by assumption) hkF; clear hkF; conv => whnf)
        | (refine Br.tt ?_; conv => whnf)
        | (refine Br.ff ?_; conv => whnf)
        | refine Br.not ?_
        | (refine Br.t (beq_self_eq_true _) ?_; conv => whnf)
        | (refine Br.t (by assumption) ?_; conv => whnf)
        | (refine Br.f (by assumption) ?_; conv => whnf)
        | (refine Br.dt (by omega) ?_; conv => whnf)
        | (refine Br.df (by omega) ?_; conv => whnf)
        | (refine Br.it (by omega) ?_; conv => whnf)
        | (refine Br.if (by omega) ?_; conv => whnf)
        | (refine Br.nt (by omega) ?_; conv => whnf)
        | (refine Br.nf (by omega) ?_; conv => whnf)
        | (refine Br.dec (fun hc => ?_) (fun hc => ?_) <;> conv => whnf)
        | (refine Br.ieq (fun hc => ?_) (fun hc => ?_) <;> conv => whnf)
        | (refine Br.ine (fun hc => ?_) (fun hc => ?_) <;> conv => whnf)
        | (refine Br.mk (fun hc => ?_) (fun hc => ?_) <;> conv => whnf)
        | (refine Wr.i64 (by omega) ?_; conv => whnf)
        | (refine Ck.mk (by omega) ?_; conv => whnf)
        | (refine Wr.i64 (by simp only [List.length_drop, List.length_take, List.length_append, List.length_cons, List.length_nil]; omega) ?_; conv => whnf)
        | (refine Ck.mk (by simp only [List.length_drop, List.length_take, List.length_append, List.length_cons, List.length_nil]; omega) ?_; conv => whnf)
        | (refine Has.load1 (by first | assumption | exact St.has (by assumption) (by repeat first | exact .head _ | apply List.Mem.tail) | exact St.arg (by assumption) (by assumption)) ?_; conv => whnf)
        | (refine Has.loadZ (by first | assumption | exact St.has (by assumption) (by repeat first | exact .head _ | apply List.Mem.tail) | exact St.arg (by assumption) (by assumption)) rfl (by first | (simp; done) | omega | (simp only [List.length_set, List.length_append, List.length_cons, List.length_nil, List.length_replicate, tab_length]; omega) | (simp; omega)) ?_; conv => whnf)
        | (refine Ck.mk (by simp; omega) ?_; conv => whnf))
      all_goals rfl

end Go.Proofs.Ytbicfognbbeigaa
