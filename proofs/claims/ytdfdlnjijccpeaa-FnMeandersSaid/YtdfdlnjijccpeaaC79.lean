/-
  The law of meanders is proved.
  It holds for all codes.
-/
import Derived.Test.YtdfdlnjijccpeaaC78
set_option linter.unusedVariables false
set_option linter.unusedSimpArgs false
namespace Go.Proofs.Ytdfdlnjijccpeaa
open Go.Proofs.Ytdfdlnjijccpeaa.Ab Go.Proofs.Ytdfdlnjijccpeaa.Pl

theorem iTable_ok {N : Nat} {L : List Int} (hT : TabOk N L) (h0 : H) : AC env 64 [.int .i64 (N : Int)] h0 fun v h' => ∃ b, v = .tup [.slice b 0 L.length L.length, .bool true] ∧ New h0 h' b (ints L) := by
  have := iLoopTable_ok (N : Int) h0
  rw [hT.is] at this
  exact this
theorem sTable_ok {N : Nat} {L : List Int} (hT : TabOk N L) (h0 : H) : AC env 65 [.int .i64 (N : Int)] h0 fun v h' => ∃ b, v = .tup [.slice b 0 L.length L.length, .bool true] ∧ New h0 h' b (ints L) := by
  have := sLoopTable_ok (N : Int) h0
  rw [hT.is] at this
  exact this
theorem half_bd (a : List Int) (h : a.length ≤ 12) : 0 ≤ (a.length : Int).tdiv 2 ∧ (a.length : Int).tdiv 2 ≤ 6 := by
  have := half_len a.length
  omega

set_option maxHeartbeats 8000000 in
theorem lawMeanders_ok {h : H} (v : AV) (m : BytesArg h v) : AC env 6 [v] h fun v _ => v = .bool true := by
  have hs := St.refl h
  obtain ⟨l, hl0, hv, e1⟩ := bytesArg_two m
  by_cases hl : l.length ≤ 1048576
  · have hb : decide ((l.length : Int) > 1048576) = false := decide_eq_false (by omega)
    obtain ⟨M, hM⟩ : ∃ M, M = MidA h v := ⟨_, rfl⟩
    obtain ⟨rfl, rfl⟩ | ⟨b, c, rfl⟩ := e1
    all_goals
      refine AC.enter Try.func6 Try.call6 rfl Try.ntmps6 (of_decide_eq_true (by rfl)) ?_
      refine AW.seqL [_, _, _, _, _, _, _, _] (M := M) ?_ ?_
      · conv => whnf
        repeat' (first
          | (refine (big_ok _ _ _ hv).mono ?_; rw [hb]; rintro w h' ⟨rfl, e'⟩; subst h'; conv => whnf)
          | (refine (drawLoopsOf_ok _ _ _ (hv.keep (St.keeps (by assumption))) hl).mono ?_; rintro w h' ⟨a, x, ba, bx, rfl, ⟨n, u, hn5, hu, ea⟩, hbl, hn⟩; have hs' := St.call (by assumption) hn; clear hn; dsimp only [List.cons_append, List.nil_append] at hs'; obtain ⟨k, hP⟩ : ∃ k, PairOk a x k := (by rw [ea]; exact pair_ok hn5 hu x); have hal : a.length ≤ 12 := (by rw [ea, dyP_size (by omega) hu]; omega); clear ea; have hP1 := hP.top; have hP2 := hP.low; have hP3 := half_bd a hal; rcases hP.turn with ⟨ht, hk1⟩ | ⟨X, Y, ht, hxy, hX, hY⟩ <;> (conv => whnf))
          | (refine (iLoopsOf_ok a x _ _ _ _ _ (by first | assumption | exact St.has (by assumption) (by repeat first | exact .head _ | apply List.Mem.tail) | exact St.arg (by assumption) (by assumption)) (by first | assumption | exact St.has (by assumption) (by repeat first | exact .head _ | apply List.Mem.tail) | exact St.arg (by assumption) (by assumption))).mono ?_; rw [hP.ab]; rintro v h' ⟨rfl, hk'⟩; have hs' := St.keep (by assumption) hk'; clear hk'; conv => whnf)
          | (refine (sLoopsOf_ok a x _ _ _ _ _ (by first | assumption | exact St.has (by assumption) (by repeat first | exact .head _ | apply List.Mem.tail) | exact St.arg (by assumption) (by assumption)) (by first | assumption | exact St.has (by assumption) (by repeat first | exact .head _ | apply List.Mem.tail) | exact St.arg (by assumption) (by assumption)) (by omega) (by omega)).mono ?_; rw [hP.ab]; rintro v h' ⟨rfl, hk'⟩; have hs' := St.keep (by assumption) hk'; clear hk'; conv => whnf)
          | (refine (iLoopsOf_ok x a _ _ _ _ _ (by first | assumption | exact St.has (by assumption) (by repeat first | exact .head _ | apply List.Mem.tail) | exact St.arg (by assumption) (by assumption)) (by first | assumption | exact St.has (by assumption) (by repeat first | exact .head _ | apply List.Mem.tail) | exact St.arg (by assumption) (by assumption))).mono ?_; rw [hP.ba]; rintro v h' ⟨rfl, hk'⟩; have hs' := St.keep (by assumption) hk'; clear hk'; conv => whnf)
          | (refine (iLoopsOf_ok a a _ _ _ _ _ (by first | assumption | exact St.has (by assumption) (by repeat first | exact .head _ | apply List.Mem.tail) | exact St.arg (by assumption) (by assumption)) (by first | assumption | exact St.has (by assumption) (by repeat first | exact .head _ | apply List.Mem.tail) | exact St.arg (by assumption) (by assumption))).mono ?_; rw [hP.self]; rintro v h' ⟨rfl, hk'⟩; have hs' := St.keep (by assumption) hk'; clear hk'; conv => whnf)
          | (refine (iLoopsOf_ok X Y _ _ _ _ _ (by first | assumption | exact St.has (by assumption) (by repeat first | exact .head _ | apply List.Mem.tail) | exact St.arg (by assumption) (by assumption)) (by first | assumption | exact St.has (by assumption) (by repeat first | exact .head _ | apply List.Mem.tail) | exact St.arg (by assumption) (by assumption))).mono ?_; rw [hxy]; rintro v h' ⟨rfl, hk'⟩; have hs' := St.keep (by assumption) hk'; clear hk'; conv => whnf)
          | (refine (iIsMeander_ok a x _ _ _ _ _ (by first | assumption | exact St.has (by assumption) (by repeat first | exact .head _ | apply List.Mem.tail) | exact St.arg (by assumption) (by assumption)) (by first | assumption | exact St.has (by assumption) (by repeat first | exact .head _ | apply List.Mem.tail) | exact St.arg (by assumption) (by assumption))).mono ?_; rw [hP.ab]; rintro v h' ⟨rfl, hk'⟩; have hs' := St.keep (by assumption) hk'; clear hk'; conv => whnf)
          | (refine (iTurnMeander_ok a x _ _ _ _ _ (by first | assumption | exact St.has (by assumption) (by repeat first | exact .head _ | apply List.Mem.tail) | exact St.arg (by assumption) (by assumption)) (by first | assumption | exact St.has (by assumption) (by repeat first | exact .head _ | apply List.Mem.tail) | exact St.arg (by assumption) (by assumption))).mono ?_; rw [ht]; dsimp only; rintro v h' ⟨b, c, rfl, hn⟩; have hs' := St.call (by assumption) hn; clear hn; dsimp only [List.cons_append, List.nil_append] at hs'; conv => whnf)
          | (refine (sTurnMeander_ok a x _ _ _ _ _ (by first | assumption | exact St.has (by assumption) (by repeat first | exact .head _ | apply List.Mem.tail) | exact St.arg (by assumption) (by assumption)) (by first | assumption | exact St.has (by assumption) (by repeat first | exact .head _ | apply List.Mem.tail) | exact St.arg (by assumption) (by assumption)) (by omega) (by omega)).mono ?_; rw [ht]; dsimp only; rintro v h' ⟨b, c, rfl, hn⟩; have hs' := St.call (by assumption) hn; clear hn; dsimp only [List.cons_append, List.nil_append] at hs'; conv => whnf)
          | (refine (sameInts_ok _ _ _ _ _ _ _ (by first | assumption | exact St.has (by assumption) (by repeat first | exact .head _ | apply List.Mem.tail) | exact St.arg (by assumption) (by assumption)) (by first | assumption | exact St.has (by assumption) (by repeat first | exact .head _ | apply List.Mem.tail) | exact St.arg (by assumption) (by assumption)) rfl (by first | omega | (simp; done))).mono ?_; rintro w h' ⟨rfl, e'⟩; subst h'; conv => whnf)
          | refine AW.seq ?_
          | (refine AW.region ?_; conv => whnf)
          | (refine AW.skip ?_; conv => whnf)
          | refine AW.cond (by rfl) ?_
          | (refine Br.tt ?_; conv => whnf)
          | (refine Br.ff ?_; conv => whnf)
          | refine Br.not ?_
          | (refine Br.t (beq_self_eq_true _) ?_; conv => whnf)
          | (refine Br.dt (by omega) ?_; conv => whnf)
          | (refine Br.df (by omega) ?_; conv => whnf)
          | (refine Br.dec (fun hc => ?_) (fun hc => ?_) <;> conv => whnf)
          | (refine Wr.i64 (by omega) ?_; conv => whnf)
          | (refine Ck.mk (by omega) ?_; conv => whnf))
        all_goals
          rw [hM]
          exact ⟨(Less.cons rfl (Less.nil _)), hs'.keeps⟩
      · rintro fr2 h2 m2
        rw [hM] at m2
        obtain ⟨l2, k2⟩ := m2
        refine AW.less l2 ?_
        have hs2 := St.refl h2
        have hv2 := hv.keep k2
        clear hs
        refine AW.seqL [_, _, _, _, _] (M := M) ?_ ?_
        · conv => whnf
          repeat' (first
            | (refine And.intro ?_ ?_ <;> (conv => whnf))
            | (refine (drawLoopTable_ok _ _ _ hv2 hl).mono ?_; rintro w h' ⟨n, rfl, hn, hk⟩; have hs' := St.keep hs2 hk; clear hk; rcases table_cases hn.2 with ⟨N, L, rfl, hN4, hT⟩ | hT <;> (conv => whnf))
            | (refine (iTable_ok hT _).mono ?_; rintro w h' ⟨bA, rfl, hn⟩; have hs' := St.newCall (by assumption) hn; clear hn; have hT1 := hT.len; have hT2 := hT.last; have hT3 := hT.one; have hT4 := hT.cat; have hT5 := hT.cc; conv => whnf)
            | (refine (sTable_ok hT _).mono ?_; rintro w h' ⟨bA, rfl, hn⟩; have hs' := St.newCall (by assumption) hn; clear hn; conv => whnf)
            | (refine (iLoopTable_ok _ _).mono ?_; rw [hT]; dsimp only; rintro w h' ⟨bA, rfl, hn⟩; have hs' := St.newCall (by assumption) hn; clear hn; conv => whnf)
            | (refine (sLoopTable_ok _ _).mono ?_; rw [hT]; dsimp only; rintro w h' ⟨bA, rfl, hn⟩; have hs' := St.newCall (by assumption) hn; clear hn; conv => whnf)
            | (refine (sameInts_ok _ _ _ _ _ _ _ (by first | assumption | exact St.has (by assumption) (by repeat first | exact .head _ | apply List.Mem.tail) | exact St.arg (by assumption) (by assumption)) (by first | assumption | exact St.has (by assumption) (by repeat first | exact .head _ | apply List.Mem.tail) | exact St.arg (by assumption) (by assumption)) rfl (by first | omega | (simp; done))).mono ?_; rintro w h' ⟨rfl, e'⟩; subst h'; conv => whnf)
            | (refine (iCatalan_ok _ _ (by omega)).mono ?_; rintro w h' ⟨rfl, hk⟩; have hs' := St.keep (by assumption) hk; clear hk; conv => whnf)
            | (refine (total_ok L _ _ _ _ (by first | assumption | exact St.has (by assumption) (by repeat first | exact .head _ | apply List.Mem.tail) | exact St.arg (by assumption) (by assumption)) rfl (by omega) hT.bd).mono ?_; rw [hT.sum]; rintro w h' ⟨rfl, e'⟩; subst h'; conv => whnf)
            | (refine (iCountMeanders_ok _ _).mono ?_; rintro v h' ⟨rfl, hk'⟩; have hs' := St.keep (by assumption) hk'; clear hk'; conv => whnf)
            | refine AW.seq ?_
            | (refine AW.region ?_; conv => whnf)
            | (refine AW.skip ?_; conv => whnf)
            | refine AW.cond (by rfl) ?_
            | (refine AW.draw (id := 18) (.p 0 (.p 2 (.p 3 (.p 4 (.all [1] fun _ => (.p 5 (.p 6 (.p 7 (.p 8 (.p 9 (.p 10 (.p 12 (.p 13 (.all [11, 14] fun i => bif Nat.beq i 11 then (.r 14 [15, 16, 17, 18, 19, 20, 21, 22, 23, 24, 25] (.p 15 (.p 16 (.p 17 (.p 18 (.p 19 (.p 21 (.r 20 [22, 23, 24, 25] (.p 22 (.p 23 (.p 24 (.p 25 .done)))))))))))) else (.all [11] fun _ => (.p 15 (.p 16 (.p 17 (.p 18 (.p 19 (.p 21 (.r 20 [22, 23, 24, 25] (.p 22 (.p 23 (.p 24 (.p 25 .done)))))))))))))))))))))))))) (by kernel_rfl) (by kernel_rfl) ?_; conv => whnf)
            | (refine Br.tt ?_; conv => whnf)
            | (refine Br.ff ?_; conv => whnf)
            | refine Br.not ?_
            | (refine Br.t (beq_self_eq_true _) ?_; conv => whnf)
            | (refine Br.dt (by omega) ?_; conv => whnf)
            | (refine Br.df (by omega) ?_; conv => whnf)
            | (refine Br.dec (fun hc => ?_) (fun hc => ?_) <;> conv => whnf)
            | (refine Wr.i64 (by omega) ?_; conv => whnf)
            | (refine Ck.mk (by omega) ?_; conv => whnf)
            | (refine Has.loadZ (by first | assumption | exact St.has (by assumption) (by repeat first | exact .head _ | apply List.Mem.tail) | exact St.arg (by assumption) (by assumption)) rfl (by first | (simp; done) | omega | (simp only [List.length_set, List.length_append, List.length_cons, List.length_nil, List.length_replicate, tab_length]; omega) | (simp; omega)) ?_; conv => whnf))
          all_goals
            rw [hM]
            exact ⟨(Less.cons rfl (Less.nil _)), k2.trans hs'.keeps⟩
        · rintro fr3 h3 m3
          rw [hM] at m3
          obtain ⟨l3, k3⟩ := m3
          refine AW.less l3 ?_
          have hs3 := St.refl h3
          have hv3 := hv.keep k3
          clear hs2
          repeat' (first
            | (refine (drawPartner_ok _ _ _ hv3 hl).mono ?_; rintro w h' ⟨bp, p, rfl, hpl, hn⟩; have hs' := St.call hs3 hn; clear hn; dsimp only [List.cons_append, List.nil_append] at hs'; rcases partner_cases p with ⟨r, hp1, hp2, hrl⟩ | hp1 <;> (conv => whnf))
            | (refine (iMeanderPartner_ok p _ _ _ (by first | assumption | exact St.has (by assumption) (by repeat first | exact .head _ | apply List.Mem.tail) | exact St.arg (by assumption) (by assumption))).mono ?_; rw [hp1]; dsimp only; rintro w h' ⟨bA, rfl, hn⟩; have hs' := St.newCall (by assumption) hn; clear hn; conv => whnf)
            | (refine (sMeanderPartner_ok p _ _ _ (by first | assumption | exact St.has (by assumption) (by repeat first | exact .head _ | apply List.Mem.tail) | exact St.arg (by assumption) (by assumption)) (by omega)).mono ?_; rw [hp1]; dsimp only; rintro w h' ⟨bA, rfl, hn⟩; have hs' := St.newCall (by assumption) hn; clear hn; conv => whnf)
            | (refine (drawIsMeander_ok _ _ _ (hv3.keep (St.keeps (by assumption))) hl).mono ?_; rintro w h' ⟨a, x, ba, bx, rfl, hal, hxl, hn⟩; have hs' := St.call (by assumption) hn; clear hn; dsimp only [List.cons_append, List.nil_append] at hs'; conv => whnf)
            | (refine (drawCountMeanders_ok _ _ _ (hv3.keep (St.keeps (by assumption))) hl).mono ?_; rintro w h' ⟨n, rfl, hn, hk⟩; have hs' := St.keep (by assumption) hk; clear hk; conv => whnf)
            | (refine (sameInts_ok _ _ _ _ _ _ _ (by first | assumption | exact St.has (by assumption) (by repeat first | exact .head _ | apply List.Mem.tail) | exact St.arg (by assumption) (by assumption)) (by first | assumption | exact St.has (by assumption) (by repeat first | exact .head _ | apply List.Mem.tail) | exact St.arg (by assumption) (by assumption)) rfl (by first | omega | (simp; done))).mono ?_; rintro w h' ⟨rfl, e'⟩; subst h'; conv => whnf)
            | (refine (iIsMeander_ok p r _ _ _ _ _ (by first | assumption | exact St.has (by assumption) (by repeat first | exact .head _ | apply List.Mem.tail) | exact St.arg (by assumption) (by assumption)) (by first | assumption | exact St.has (by assumption) (by repeat first | exact .head _ | apply List.Mem.tail) | exact St.arg (by assumption) (by assumption))).mono ?_; rw [hp2]; rintro v h' ⟨rfl, hk'⟩; have hs' := St.keep (by assumption) hk'; clear hk'; conv => whnf)
            | (refine (iIsMeander_ok a x _ _ _ _ _ (by first | assumption | exact St.has (by assumption) (by repeat first | exact .head _ | apply List.Mem.tail) | exact St.arg (by assumption) (by assumption)) (by first | assumption | exact St.has (by assumption) (by repeat first | exact .head _ | apply List.Mem.tail) | exact St.arg (by assumption) (by assumption))).mono ?_; rintro v h' ⟨rfl, hk'⟩; have hs' := St.keep (by assumption) hk'; clear hk'; conv => whnf)
            | (refine (sIsMeander_ok a x _ _ _ _ _ (by first | assumption | exact St.has (by assumption) (by repeat first | exact .head _ | apply List.Mem.tail) | exact St.arg (by assumption) (by assumption)) (by first | assumption | exact St.has (by assumption) (by repeat first | exact .head _ | apply List.Mem.tail) | exact St.arg (by assumption) (by assumption)) (by omega) (by omega)).mono ?_; rintro v h' ⟨rfl, hk'⟩; have hs' := St.keep (by assumption) hk'; clear hk'; conv => whnf)
            | (refine (iCountMeanders_ok _ _).mono ?_; rintro v h' ⟨rfl, hk'⟩; have hs' := St.keep (by assumption) hk'; clear hk'; conv => whnf)
            | (refine (sCountMeanders_ok _ _).mono ?_; rintro v h' ⟨rfl, hk'⟩; have hs' := St.keep (by assumption) hk'; clear hk'; conv => whnf)
            | refine AW.seq ?_
            | (refine AW.region ?_; conv => whnf)
            | (refine AW.ret ?_; conv => whnf)
            | (refine Br.tt ?_; conv => whnf)
            | (refine Br.ff ?_; conv => whnf)
            | (refine Br.t (beq_self_eq_true _) ?_; conv => whnf))
          all_goals first
            | rfl
            | (simp; done)
  · have hb : decide ((l.length : Int) > 1048576) = true := decide_eq_true (by omega)
    obtain ⟨rfl, rfl⟩ | ⟨b, c, rfl⟩ := e1
    all_goals
      refine AC.enter Try.func6 Try.call6 rfl Try.ntmps6 (of_decide_eq_true (by rfl)) ?_
      repeat' (first
        | (refine (big_ok _ _ _ hv).mono ?_; rw [hb]; rintro w h' ⟨rfl, e'⟩; subst h'; conv => whnf)
        | refine AW.seq ?_
        | (refine AW.region ?_; conv => whnf)
        | (refine AW.ret ?_; conv => whnf)
        | refine AW.cond (by rfl) ?_
        | (refine Br.tt ?_; conv => whnf))
      all_goals rfl

end Go.Proofs.Ytdfdlnjijccpeaa
