/-
  Contracts for the law of friezes, where the answer is known, are proved.
  It holds for all codes.
-/
import Derived.Test.YtbicfognbbeigaaH28
import Derived.Test.YtbicfognbbeigaaH30
import Derived.Test.YtbicfognbbeigaaC87
set_option linter.unusedVariables false
set_option linter.unusedSimpArgs false
namespace Go.Proofs.Ytbicfognbbeigaa
open Go.Proofs.Ytbicfognbbeigaa.Ab Go.Proofs.Ytbicfognbbeigaa.Pl

theorem friQ_cases (q : List Int) : (isQ q = true ∧ friezeR q = (frz q, true) ∧ ∃ g, triQ q = (g, true) ∧ g.length ≤ 10 ∧ ∀ x ∈ g, x.length ≤ 1000) ∨ (isQ q = false ∧ friezeR q = ([], false) ∧ triQ q = ([], false)) := by
  by_cases h : isQ q = true
  · have e : triQ q = ((triQ q).1, true) := by
      unfold triQ
      rw [if_pos h]
    exact .inl ⟨h, if_pos h, _, e, triQ_len q, fun x hx => by have := triQ_two q x hx; omega⟩
  · exact .inr ⟨by simpa using h, if_neg h, if_neg h⟩
/-! the contracts where the answer is known -/
theorem iQuidK_ok {n : Int} {f : List (List Int)} {q : List Int} (e : quidF n f = q) (R : RL) (b M C : Nat) (h0 : H) (hb : Grid h0 b R) (hR : rws R = f) (hM : M = f.length) (hl : M ≤ 1000000000) (hC : M ≤ C) (hn : -9223372036854775808 ≤ n ∧ n ≤ 9223372036854775807) : AC env 6 [.int .i64 n, .slice b 0 M C] h0 fun v h' => ∃ b, v = .slice b 0 q.length q.length ∧ New h0 h' b (ints q) := by
  have := iQuid_ok n R f b M C h0 hb hR hM hl hC hn
  rw [e] at this
  exact this
theorem sQuidK_ok {n : Int} {f : List (List Int)} {q : List Int} (e : quidF n f = q) (R : RL) (b M C : Nat) (h0 : H) (hb : Grid h0 b R) (hR : rws R = f) (hM : M = f.length) (hl : M ≤ 1000000000) (hn : -9223372036854775808 ≤ n ∧ n ≤ 9223372036854775807) : AC env 8 [.int .i64 n, .slice b 0 M C] h0 fun v h' => ∃ b, v = .slice b 0 q.length q.length ∧ New h0 h' b (ints q) := by
  have := sQuid_ok n R f b M C h0 hb hR hM hl hn
  rw [e] at this
  exact this
theorem iFriezeK_ok {q : List Int} {f : List (List Int)} {t : Bool} (e : friezeR q = (f, t)) (bq N C : Nat) (h0 : H) (hb : Has h0 bq (ints q)) (hN : N = q.length) (hl : N ≤ 100000000) : AC env 9 [.slice bq 0 N C] h0 fun v h' => ∃ b R, v = .tup [.slice b 0 f.length f.length, .bool t] ∧ rws R = f ∧ R.length = f.length ∧ St h0 h' ((b, row (slcs R)) :: (blks R ++ [])) := by
  have := iFriezeOf_ok q bq N C h0 hb hN hl
  rw [e] at this
  exact this
theorem iTriQK_ok {q : List Int} {f : List (List Int)} {t : Bool} (e : triQ q = (f, t)) (bq N C : Nat) (h0 : H) (hb : Has h0 bq (ints q)) (hN : N = q.length) (hl : N ≤ 100000000) : AC env 10 [.slice bq 0 N C] h0 fun v h' => ∃ b R, v = .tup [.slice b 0 f.length f.length, .bool t] ∧ rws R = f ∧ R.length = f.length ∧ St h0 h' ((b, row (slcs R)) :: (blks R ++ [])) := by
  have := iTriQ_ok q bq N C h0 hb hN hl
  rw [e] at this
  exact this
theorem sTriQK_ok {q : List Int} {f : List (List Int)} {t : Bool} (e : triQ q = (f, t)) (bq N C : Nat) (h0 : H) (hb : Has h0 bq (ints q)) (hN : N = q.length) (hl : N ≤ 100000000) : AC env 19 [.slice bq 0 N C] h0 fun v h' => ∃ b R, v = .tup [.slice b 0 f.length f.length, .bool t] ∧ rws R = f ∧ R.length = f.length ∧ St h0 h' ((b, row (slcs R)) :: (blks R ++ [])) := by
  have := sTriQ_ok q bq N C h0 hb hN hl
  rw [e] at this
  exact this

end Go.Proofs.Ytbicfognbbeigaa

/-
  The first part of the law of friezes is proved.
  It holds for all codes.
-/
set_option linter.unusedVariables false
set_option linter.unusedSimpArgs false
namespace Go.Proofs.Ytbicfognbbeigaa
open Go.Proofs.Ytbicfognbbeigaa.Ab Go.Proofs.Ytbicfognbbeigaa.Pl

/-- the numbers of a triangulation are drawn and known -/
def MidQ (h0 : H) (v : AV) (fr : Fr) (h : H) : Prop := ∃ (n : Int) (d : List (List Int)) (q : List Int) (bd Cd : Nat) (R : RL) (bq : Nat), Less fr [(0, v), (3, .int .i64 n), (4, .slice bd 0 d.length Cd), (5, .slice bq 0 q.length q.length)] ∧ d.length ≤ Cd ∧ rws R = d ∧ SmallD n d ∧ (FriOk n d q ∨ q = []) ∧ St h0 h ((bq, row (ints q)) :: (bd, row (slcs R)) :: (blks R ++ []))
set_option maxHeartbeats 16000000 in
theorem friSeg1a {h0 : H} (l : List UInt8) (v : AV) (hv : CellsAt h0 v (bytesAV l)) (hl : l.length ≤ 1048576) {Q : Exit → Fr → H → Prop} (rest : ∀ fr h, MidQ h0 v fr h → AW env 220 (restL 5 (bodyOf Try.f3)) fr h Q) : ∀ fr h, MidC h0 v fr h → AW env 220 (restL 0 (bodyOf Try.f3)) fr h Q := by
  rintro fr h ⟨l1, k1⟩
  refine AW.less l1 ?_
  have hs := St.refl h
  have hv1 := hv.keep k1
  have hb : decide ((l.length : Int) > 1048576) = false := decide_eq_false (by omega)
  obtain ⟨M, hM⟩ : ∃ M, M = MidQ h0 v := ⟨_, rfl⟩
  rw [← hM] at rest
  have hv2 := hv1
  obtain ⟨rfl, e⟩ | ⟨b, c, rfl, hbb⟩ := hv2
  all_goals
    refine AW.seqS [_, _, _, _, _] (M := M) ?_ rest
    conv => whnf
    repeat' (first
      | (refine (codeBig_ok _ _ _ hv1).mono ?_; rw [hb]; rintro w h' ⟨rfl, e'⟩; subst h'; conv => whnf)
      | (refine (drawQuid_ok _ _ _ hv1 hl).mono ?_; rintro w h' ⟨n, d, bd, Cd, R, rfl, hC, hR, sm, hn⟩; have hs' := St.callR (St.keep (St.refl h0) k1) hn; clear hn; have hnb := sm.nb; have hdl := sm.len; have hdr := sm.rows; obtain ⟨q, eq, hq⟩ : ∃ q, quidF n d = q ∧ (FriOk n d q ∨ q = []) := ⟨_, rfl, (quid_cases sm.tri).elim (fun ⟨q, hF⟩ => .inl (hF.eq ▸ hF)) .inr⟩; have hlq : q.length ≤ 1000 := (by rcases hq with h | rfl; (have := h.len; have := h.n3; omega); simp); conv => whnf)
      | (refine (iQuidK_ok eq R _ _ _ _ (St.gridAt (by assumption) (by repeat first | exact RSpot.here | apply RSpot.there | apply RSpot.app)) hR rfl (by omega) hC (by omega)).mono ?_; rintro w h' ⟨bq, rfl, hn⟩; have hs' := St.newCall (by assumption) hn; clear hn; conv => whnf)
      | (refine (sQuidK_ok eq R _ _ _ _ (St.gridAt (by assumption) (by repeat first | exact RSpot.here | apply RSpot.there | apply RSpot.app)) hR rfl (by omega) (by omega)).mono ?_; rintro w h' ⟨bq2, rfl, hn⟩; have hs' := St.newCall (by assumption) hn; clear hn; conv => whnf)
      | (refine (sameInts_ok _ _ _ _ _ _ _ (by first | assumption | exact St.has (by assumption) (by repeat first | exact .head _ | apply List.Mem.tail | apply List.mem_append_right) | exact St.arg (by assumption) (by assumption)) (by first | assumption | exact St.has (by assumption) (by repeat first | exact .head _ | apply List.Mem.tail | apply List.mem_append_right) | exact St.arg (by assumption) (by assumption)) rfl (by first | omega | (simp; done))).mono ?_; rintro w h' ⟨rfl, e'⟩; subst h'; conv => whnf)
      | (refine AW.seqLow (T := 27) ?_; conv => whnf)
      | (refine AW.region ?_; conv => whnf)
      | (refine AW.skip ?_; conv => whnf)
      | refine AW.cond (by rfl) ?_
      | (refine Br.ff ?_; conv => whnf))
    rw [hM]
    exact ⟨n, d, q, bd, Cd, R, bq, (Less.cons rfl (Less.cons rfl (Less.cons rfl (Less.cons rfl (Less.nil _))))), hC, hR, sm, hq, hs'.tail⟩

end Go.Proofs.Ytbicfognbbeigaa

/-
  The first part of the law of friezes is proved.
  It holds for all codes.
-/
set_option linter.unusedVariables false
set_option linter.unusedSimpArgs false
namespace Go.Proofs.Ytbicfognbbeigaa
open Go.Proofs.Ytbicfognbbeigaa.Ab Go.Proofs.Ytbicfognbbeigaa.Pl

set_option maxHeartbeats 16000000 in
theorem friSeg1n {h0 : H} (l : List UInt8) (hv : CellsAt h0 .nilslice (bytesAV l)) (hl : l.length ≤ 1048576) {Q : Exit → Fr → H → Prop} (rest : ∀ fr h, MidC h0 .nilslice fr h → AW env 220 (restL 6 (bodyOf Try.f3)) fr h Q) : ∀ fr h, MidQ h0 .nilslice fr h → AW env 220 (restL 5 (bodyOf Try.f3)) fr h Q := by
  rintro fr h ⟨n, d, q, bd, Cd, R, bq, l1, hC, hR, sm, hq, hs⟩
  refine AW.less l1 ?_
  have hv1 := hv.keep hs.keeps
  obtain ⟨M, hM⟩ : ∃ M, M = MidC h0 .nilslice := ⟨_, rfl⟩
  rw [← hM] at rest
  have hnb := sm.nb
  have hdl := sm.len
  have hdr := sm.rows
  rcases hq with hF | rfl
  · have hn3 := hF.n3
    have hlq := hF.len
    have hfl := frz_len q
    have hrow : ∀ r, r < q.length + 1 → ((frz q).getD r []).length = q.length := fun r hr => by rw [frz_row q hr, tab_length]
    refine AW.seqS [_] (M := M) ?_ rest
    conv => whnf
    repeat' (first
      | (refine (iFriezeK_ok hF.fr _ _ _ _ (by first | assumption | exact St.has (by assumption) (by repeat first | exact .head _ | apply List.Mem.tail | apply List.mem_append_right) | exact St.arg (by assumption) (by assumption)) rfl (by omega)).mono ?_; rintro w h' ⟨bF, RF, rfl, hRF, hLF, hn⟩; have hs' := St.callR (by assumption) hn; clear hn; conv => whnf)
      | (refine (iTriQK_ok hF.tri _ _ _ _ (by first | assumption | exact St.has (by assumption) (by repeat first | exact .head _ | apply List.Mem.tail | apply List.mem_append_right) | exact St.arg (by assumption) (by assumption)) rfl (by omega)).mono ?_; rintro w h' ⟨bT, RT, rfl, hRT, hLT, hn⟩; have hs' := St.callR (by assumption) hn; clear hn; conv => whnf)
      | (refine (codeAt_ok _ _ 2 _ (hv.keep (St.keeps (by assumption))) hl (by decide)).mono ?_; rintro w h' ⟨x2, rfl, hx2, e'⟩; subst h'; have hA := tmod_bd (x := x2) (n := n) hx2.1 (by omega); have hA2 := tmod_bd (x := x2.tmod n + 1) (n := n) (by omega) (by omega); conv => whnf)
      | (refine (codeAt_ok _ _ 3 _ (hv.keep (St.keeps (by assumption))) hl (by decide)).mono ?_; rintro w h' ⟨x3, rfl, hx3, e'⟩; subst h'; have hB := tmod_bd (x := x3) (n := n) hx3.1 (by omega); have hB2 := tmod_bd (x := x3.tmod n + 1) (n := n) (by omega) (by omega); conv => whnf)
      | (refine (isFrieze_ok RF (frz q) _ _ _ _ (St.gridAt (by assumption) (by repeat first | exact RSpot.here | apply RSpot.there | apply RSpot.app)) hRF rfl (by omega)).mono ?_; rw [hF.isf]; rintro v h' ⟨rfl, e'⟩; subst h'; conv => whnf)
      | (refine (iIsQuiddity_ok q _ _ _ _ (by first | assumption | exact St.has (by assumption) (by repeat first | exact .head _ | apply List.Mem.tail | apply List.mem_append_right) | exact St.arg (by assumption) (by assumption)) rfl (by omega)).mono ?_; rw [hF.is]; rintro v h' ⟨rfl, hk'⟩; have hs' := St.keep (by assumption) hk'; clear hk'; conv => whnf)
      | (refine (sameListsD_ok d d _ _ _ _ _ _ _ _ _ (St.gridAt (by assumption) (by repeat first | exact RSpot.here | apply RSpot.there | apply RSpot.app)) (St.gridAt (by assumption) (by repeat first | exact RSpot.here | apply RSpot.there | apply RSpot.app)) (by assumption) (by assumption) rfl rfl (by omega) (by omega) (fun x hx => by have := hdr x hx; omega) (fun x hx => by have := hdr x hx; omega)).mono ?_; rw [decide_eq_true rfl]; rintro v h' ⟨rfl, e'⟩; subst h'; conv => whnf)
      | (refine (total_ok q _ _ _ _ (by first | assumption | exact St.has (by assumption) (by repeat first | exact .head _ | apply List.Mem.tail | apply List.mem_append_right) | exact St.arg (by assumption) (by assumption)) rfl (by omega) hF.bd).mono ?_; rw [hF.sum]; rintro w h' ⟨rfl, e'⟩; subst h'; conv => whnf)
      | (refine (iFri_ok n R d _ _ _ _ _ _ (St.gridAt (by assumption) (by repeat first | exact RSpot.here | apply RSpot.there | apply RSpot.app)) hR rfl (by omega) hC ⟨by omega, by omega, by omega⟩).mono ?_; rintro v h' ⟨rfl, hk'⟩; have hs' := St.keep (by assumption) hk'; clear hk'; conv => whnf)
      | (refine Grid.rowAt (b := bF) (R := RF) (St.gridAt (by assumption) (by (repeat first | exact RSpot.here | apply RSpot.there | apply RSpot.app); done)) hRF _ rfl rfl (by omega) (hrow _ (by omega)) ?_; conv => whnf)
      | (refine Grid.numAt (b := bF) (R := RF) (St.gridAt (by assumption) (by (repeat first | exact RSpot.here | apply RSpot.there | apply RSpot.app); done)) hRF _ _ rfl rfl (by omega) (by rw [hrow _ (by omega)]; omega) ?_; conv => whnf)
      | (refine Ck.mk (by have := tmod_bd (x := x2.tmod n + 1) (n := n) (by omega) (by omega); omega) ?_; conv => whnf)
      | (refine Br.nf (hF.ent _ _ (by omega) (by omega) (by omega)) ?_; conv => whnf)
      | (refine Br.nf (hF.sym _ _ (by omega) (by omega) (by omega) (by omega)) ?_; conv => whnf)
      | (refine And.intro ?_ ?_ <;> (conv => whnf))
      | (refine AW.seqLow (T := 27) ?_; conv => whnf)
      | (refine AW.region ?_; conv => whnf)
      | (refine AW.skip ?_; conv => whnf)
      | refine AW.cond (by rfl) ?_
      | (refine AW.draw (id := 16) (.p 0 (.p 1 (.p 2 (.p 3 (.all [4] fun _ => (.p 5 (.p 6 (.p 7 (.p 8 (.all [9] fun _ => (.p 10 (.p 11 (.p 12 (.p 13 (.p 14 (.p 15 (.p 16 (.p 17 (.p 18 (.all [19] fun _ => (.p 20 (.p 21 (.p 22 (.p 23 (.p 25 (.p 26 (.p 27 (.all [24] fun _ => (.p 28 (.p 29 (.p 30 (.p 31 (.p 32 (.p 33 (.p 34 (.p 36 (.p 37 (.p 38 (.p 39 (.p 40 (.p 42 (.p 43 (.p 44 (.p 45 (.all [35, 41] fun i => bif Nat.beq i 35 then (.r 41 [46, 47, 48, 49, 50, 51, 52, 53, 54, 55, 56, 57, 58, 59, 60, 61, 62] (.p 46 (.r 47 [48, 49, 50, 51, 52, 53, 54, 55, 56, 57, 58, 59, 60, 61, 62] (.p 48 (.p 49 (.p 50 (.p 51 (.p 52 (.p 53 (.p 54 (.p 56 (.p 57 (.p 58 (.p 59 (.all [55] fun _ => (.all [60] fun _ => (.p 61 (.p 62 .done)))))))))))))))))) else (.p 46 (.all [35, 47] fun i => bif Nat.beq i 35 then (.r 47 [48, 49, 50, 51, 52, 53, 54, 55, 56, 57, 58, 59, 60, 61, 62] (.p 48 (.p 49 (.p 50 (.p 51 (.p 52 (.p 53 (.p 54 (.p 56 (.p 57 (.p 58 (.p 59 (.all [55] fun _ => (.all [60] fun _ => (.p 61 (.p 62 .done)))))))))))))))) else (.all [35] fun _ => (.p 48 (.p 49 (.p 50 (.p 51 (.p 52 (.p 53 (.p 54 (.p 56 (.p 57 (.p 58 (.p 59 (.all [55] fun _ => (.all [60] fun _ => (.p 61 (.p 62 .done))))))))))))))))))))))))))))))))))))))))))))))))))))))))))))))) (by kernel_rfl) (by kernel_rfl) ?_; conv => whnf)
      | (refine Br.ff ?_; conv => whnf)
      | refine Br.not ?_
      | (refine Br.t (beq_self_eq_true _) ?_; conv => whnf)
      | (refine Br.dt (by omega) ?_; conv => whnf)
      | (refine Br.dec (fun hc => ?_) (fun hc => ?_) <;> conv => whnf)
      | (refine Wr.i64 (by omega) ?_; conv => whnf))
    all_goals first
      | (rw [hM]; exact ⟨(Less.cons rfl (Less.nil _)), St.keeps (by assumption)⟩)
      | (clear rest; fail "stuck")
  · refine AW.seqS [_] (M := M) ?_ rest
    conv => whnf
    repeat' (first
      | (refine AW.seqLow (T := 27) ?_; conv => whnf)
      | (refine AW.region ?_; conv => whnf)
      | (refine AW.skip ?_; conv => whnf)
      | refine AW.cond (by rfl) ?_
      | (refine Br.ff ?_; conv => whnf))
    rw [hM]
    exact ⟨(Less.cons rfl (Less.nil _)), hs.keeps⟩

end Go.Proofs.Ytbicfognbbeigaa
