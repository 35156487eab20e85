/-
  Contracts of the functions that draw quiddities and friezes are proved.
  They hold for all codes of at most 1048576 bytes.
-/
import Derived.Test.YtbicfognbbeigaaC84
import Derived.Test.YtbicfognbbeigaaC86
import Derived.Test.YtbicfognbbeigaaC48
import Derived.Test.YtbicfognbbeigaaC63
set_option linter.unusedVariables false
set_option linter.unusedSimpArgs false
namespace Go.Proofs.Ytbicfognbbeigaa
open Go.Proofs.Ytbicfognbbeigaa.Ab Go.Proofs.Ytbicfognbbeigaa.Pl

/-- a polygon with diagonals was drawn -/
def TriDraw0 (H0 : H) (w : AV) (h' : H) : Prop :=
  ∃ (n : Int) (d : List (List Int)) (b C : Nat) (R : RL), w = .tup [.int .i64 n, .slice b 0 d.length C] ∧ d.length ≤ C ∧ rws R = d ∧ SmallD n d ∧ St H0 h' ((b, row (slcs R)) :: (blks R ++ []))
theorem l7Both_ok (l : List UInt8) (v : AV) (h0 : H) (hv : CellsAt h0 v (bytesAV l)) (hl : l.length ≤ 1048576) : AC env 26 [v] h0 (TriDraw0 h0) := by
  have hv2 := hv
  rcases hv2 with ⟨rfl, e⟩ | ⟨b, cp, rfl, hb⟩
  all_goals
    refine AC.enter Try.func26 Try.call26 rfl Try.ntmps26 (of_decide_eq_true (by rfl)) ?_
    repeat' (first
      | (refine (l1New_ok l _ _ hv hl).mono ?_; rintro w h' ⟨c, rfl, hc⟩; conv => whnf)
      | (refine (l7Any_ok _ _ _ _ hc).mono ?_; rintro w h' ⟨n, d, b, C, R, rfl, hC, hR, sm, hc2⟩; conv => whnf)
      | refine AW.seq ?_
      | (refine AW.region ?_; conv => whnf)
      | refine AW.block ?_
      | (refine AW.skip ?_; conv => whnf)
      | (refine AW.ret ?_; conv => whnf)
      | (refine AW.exit ?_; conv => whnf)
      | refine AW.cond (by rfl) ?_
      | (refine (l1New_ok _ _ _ (by assumption) (by omega)).mono ?_; rintro w h' ⟨c, rfl, hcur⟩; conv => whnf)
      | (refine Br.tt ?_; conv => whnf)
      | (refine Br.ff ?_; conv => whnf)
      | refine Br.not ?_
      | (refine Br.t (beq_self_eq_true _) ?_; conv => whnf)
      | (refine Br.t (by assumption) ?_; conv => whnf)
      | (refine Br.f (by assumption) ?_; conv => whnf)
      | (refine Br.dt (by omega) ?_; conv => whnf)
      | (refine Br.df (by omega) ?_; conv => whnf)
      | (refine Br.it (by omega) ?_; conv => whnf)
      | (refine Br.if (by omega) ?_; conv => whnf)
      | (refine Br.nt (by omega) ?_; conv => whnf)
      | (refine Br.nf (by omega) ?_; conv => whnf)
      | (refine Br.dec (fun hc => ?_) (fun hc => ?_) <;> conv => whnf)
      | (refine Br.ieq (fun hc => ?_) (fun hc => ?_) <;> conv => whnf)
      | (refine Br.ine (fun hc => ?_) (fun hc => ?_) <;> conv => whnf)
      | (refine Br.mk (fun hc => ?_) (fun hc => ?_) <;> conv => whnf)
      | (refine Wr.i64 (by omega) ?_; conv => whnf)
      | (refine Ck.mk (by omega) ?_; conv => whnf)
      | (refine Wr.i64 (by simp only [List.length_drop, List.length_take, List.length_append, List.length_cons, List.length_nil]; omega) ?_; conv => whnf)
      | (refine Ck.mk (by simp only [List.length_drop, List.length_take, List.length_append, List.length_cons, List.length_nil]; omega) ?_; conv => whnf)
      | (refine Ck.mk (by simp; omega) ?_; conv => whnf))
    exact ⟨n, d, b, C, R, rfl, hC, hR, sm, hc2.st⟩
theorem drawQuid_ok (l : List UInt8) (v : AV) (h0 : H) (hv : CellsAt h0 v (bytesAV l)) (hl : l.length ≤ 1048576) : AC env 5 [v] h0 (TriDraw0 h0) := by
  have hv2 := hv
  rcases hv2 with ⟨rfl, e⟩ | ⟨b, cp, rfl, hb⟩
  all_goals
    refine AC.enter Try.func5 Try.call5 rfl Try.ntmps5 (of_decide_eq_true (by rfl)) ?_
    repeat' (first
      | (refine (l7Both_ok l _ _ hv hl).mono ?_; rintro w h' ⟨n, d, b, C, R, rfl, hC, hR, sm, hs⟩; conv => whnf)
      | refine AW.seq ?_
      | (refine AW.region ?_; conv => whnf)
      | refine AW.block ?_
      | (refine AW.skip ?_; conv => whnf)
      | (refine AW.ret ?_; conv => whnf)
      | (refine AW.exit ?_; conv => whnf)
      | refine AW.cond (by rfl) ?_
      | (refine Br.tt ?_; conv => whnf)
      | (refine Br.ff ?_; conv => whnf)
      | refine Br.not ?_
      | (refine Br.t (beq_self_eq_true _) ?_; conv => whnf)
      | (refine Br.t (by assumption) ?_; conv => whnf)
      | (refine Br.f (by assumption) ?_; conv => whnf)
      | (refine Br.dt (by omega) ?_; conv => whnf)
      | (refine Br.df (by omega) ?_; conv => whnf)
      | (refine Br.it (by omega) ?_; conv => whnf)
      | (refine Br.if (by omega) ?_; conv => whnf)
      | (refine Br.nt (by omega) ?_; conv => whnf)
      | (refine Br.nf (by omega) ?_; conv => whnf)
      | (refine Br.dec (fun hc => ?_) (fun hc => ?_) <;> conv => whnf)
      | (refine Br.ieq (fun hc => ?_) (fun hc => ?_) <;> conv => whnf)
      | (refine Br.ine (fun hc => ?_) (fun hc => ?_) <;> conv => whnf)
      | (refine Br.mk (fun hc => ?_) (fun hc => ?_) <;> conv => whnf)
      | (refine Wr.i64 (by omega) ?_; conv => whnf)
      | (refine Ck.mk (by omega) ?_; conv => whnf)
      | (refine Wr.i64 (by simp only [List.length_drop, List.length_take, List.length_append, List.length_cons, List.length_nil]; omega) ?_; conv => whnf)
      | (refine Ck.mk (by simp only [List.length_drop, List.length_take, List.length_append, List.length_cons, List.length_nil]; omega) ?_; conv => whnf)
      | (refine Ck.mk (by simp; omega) ?_; conv => whnf))
    exact ⟨n, d, b, C, R, rfl, hC, hR, sm, hs⟩
theorem drawFriEntry_ok (l : List UInt8) (v : AV) (h0 : H) (hv : CellsAt h0 v (bytesAV l)) (hl : l.length ≤ 1048576) : AC env 21 [v] h0 fun w h' => ∃ (n x y : Int) (d : List (List Int)) (b C : Nat) (R : RL), w = .tup [.int .i64 n, .slice b 0 d.length C, .int .i64 x, .int .i64 y] ∧ (-1 ≤ x ∧ x ≤ 6) ∧ (0 ≤ y ∧ y ≤ 6) ∧ d.length ≤ C ∧ rws R = d ∧ SmallD n d ∧ St h0 h' ((b, row (slcs R)) :: (blks R ++ [])) := by
  have hv2 := hv
  rcases hv2 with ⟨rfl, e⟩ | ⟨b, cp, rfl, hb⟩
  all_goals
    refine AC.enter Try.func21 Try.call21 rfl Try.ntmps21 (of_decide_eq_true (by rfl)) ?_
    repeat' (first
      | (refine (l1New_ok l _ _ hv hl).mono ?_; rintro w h' ⟨c, rfl, hc⟩; conv => whnf)
      | (refine (l7Any_ok _ _ _ _ hc).mono ?_; rintro w h' ⟨n, d, b, C, R, rfl, hC, hR, sm, hc2⟩; conv => whnf)
      | (refine (l1Below_ok 8 _ _ _ _ hc2).mono ?_; rintro w h' ⟨x, rfl, hx1, hx2, hc3⟩; conv => whnf)
      | (refine (l1Below_ok 7 _ _ _ _ hc3).mono ?_; rintro w h' ⟨y, rfl, hy1, hy2, hc4⟩; conv => whnf)
      | refine AW.seq ?_
      | (refine AW.region ?_; conv => whnf)
      | refine AW.block ?_
      | (refine AW.skip ?_; conv => whnf)
      | (refine AW.ret ?_; conv => whnf)
      | (refine AW.exit ?_; conv => whnf)
      | refine AW.cond (by rfl) ?_
      | (refine (l1New_ok _ _ _ (by assumption) (by omega)).mono ?_; rintro w h' ⟨c, rfl, hcur⟩; conv => whnf)
      | (refine (l1Below_ok _ _ _ _ _ (by assumption)).mono ?_; rintro w h' ⟨xB, rfl, hxB, hxB2, hcur⟩; conv => whnf)
      | (refine Br.tt ?_; conv => whnf)
      | (refine Br.ff ?_; conv => whnf)
      | refine Br.not ?_
      | (refine Br.t (beq_self_eq_true _) ?_; conv => whnf)
      | (refine Br.t (by assumption) ?_; conv => whnf)
      | (refine Br.f (by assumption) ?_; conv => whnf)
      | (refine Br.dt (by omega) ?_; conv => whnf)
      | (refine Br.df (by omega) ?_; conv => whnf)
      | (refine Br.it (by omega) ?_; conv => whnf)
      | (refine Br.if (by omega) ?_; conv => whnf)
      | (refine Br.nt (by omega) ?_; conv => whnf)
      | (refine Br.nf (by omega) ?_; conv => whnf)
      | (refine Br.dec (fun hc => ?_) (fun hc => ?_) <;> conv => whnf)
      | (refine Br.ieq (fun hc => ?_) (fun hc => ?_) <;> conv => whnf)
      | (refine Br.ine (fun hc => ?_) (fun hc => ?_) <;> conv => whnf)
      | (refine Br.mk (fun hc => ?_) (fun hc => ?_) <;> conv => whnf)
      | (refine Wr.i64 (by omega) ?_; conv => whnf)
      | (refine Ck.mk (by omega) ?_; conv => whnf)
      | (refine Wr.i64 (by simp only [List.length_drop, List.length_take, List.length_append, List.length_cons, List.length_nil]; omega) ?_; conv => whnf)
      | (refine Ck.mk (by simp only [List.length_drop, List.length_take, List.length_append, List.length_cons, List.length_nil]; omega) ?_; conv => whnf)
      | (refine Ck.mk (by simp; omega) ?_; conv => whnf))
    exact ⟨n, _, _, d, b, C, R, rfl, by omega, by omega, hC, hR, sm, hc4.st⟩

theorem Grid.ofCur {H0 h : H} {c b : Nat} {L : List (Nat × Blk)} {R : RL} (s : CurSt H0 h c ((b, row (slcs R)) :: (blks R ++ L))) : Grid h b R := St.rows s.st
/-- a row beside the drawer, without what was there ahead of it -/
theorem CurSt.mid {H0 h : H} {c : Nat} {p : Nat × Blk} {A L : List (Nat × Blk)} (s : CurSt H0 h c (p :: (A ++ L))) : CurSt H0 h c (p :: L) := s.sub (.cons_cons _ (List.sublist_append_right _ _))
set_option maxHeartbeats 2000000 in
theorem l22Any_ok (H0 h : H) (c : Nat) (L : List (Nat × Blk)) (s : CurSt H0 h c L) : AC env 36 [.ptr c 0] h fun w h' => ∃ (b : Nat) (q : List Int), w = .slice b 0 q.length q.length ∧ q.length ≤ 10 ∧ CurSt H0 h' c ((b, row (ints q)) :: L) := by
  refine AC.enter Try.func36 Try.call36 rfl Try.ntmps36 (of_decide_eq_true (by rfl)) ?_
  repeat' (first
    | (refine (l7Any_ok _ _ _ _ s).mono ?_; rintro w h1 ⟨n, d, b, C, R, rfl, hC, hR, sm, hc2⟩; have hnb := sm.nb; have hdl := sm.len; have hql := quidF_len n d; conv => whnf)
    | (refine (sQuid_ok n R d _ _ _ _ (Grid.ofCur hc2) hR rfl (by omega) (by omega)).mono ?_; rintro v h2 ⟨bQ, rfl, hnQ⟩; have hc3 := (CurSt.callN hc2 hnQ).sub (.cons_cons _ ((List.sublist_append_right _ _).trans (List.sublist_cons_self _ _))); conv => whnf)
    | (refine (l1Once_ok 5 _ _ _ _ hc3).mono ?_; rintro w h3 ⟨xO, rfl, hc4⟩; conv => whnf)
    | (refine (l1Below_ok _ _ _ _ _ hc4).mono ?_; rintro w h4 ⟨x, rfl, hx1, hx2, hc5⟩; conv => whnf)
    | (refine NewG.cur hc5 (fun bp h' hc6 => ?_); conv => whnf)
    | (refine (l1PickInt_ok [0, 1, 2, 3, 101, -1] _ _ _ _ _ _ _ hc6 (.head _) rfl (by simp) (by simp)).mono ?_; rintro w h7 ⟨m, rfl, hm, hc7⟩; conv => whnf)
    | (refine StoreG.curI hc7 (.there .here) rfl (by omega) (fun h8 hc8 => ?_); conv => whnf)
    | refine AW.seq ?_
    | (refine AW.region ?_; conv => whnf)
    | refine AW.block ?_
    | (refine AW.skip ?_; conv => whnf)
    | (refine AW.ret ?_; conv => whnf)
    | (refine AW.exit ?_; conv => whnf)
    | refine AW.cond (by rfl) ?_
    | (refine (sQuid_ok _ _ _ _ _ _ _ (St.gridAt (by assumption) (by repeat first | exact RSpot.here | apply RSpot.there | apply RSpot.app)) (by assumption) (by first | rfl | omega) (by omega) (by omega)).mono ?_; rintro v h' ⟨bQ, rfl, hnQ⟩; have hs' := St.newCall (by assumption) hnQ; clear hnQ; conv => whnf)
    | (refine (l1Once_ok _ _ _ _ _ (by assumption)).mono ?_; rintro w h' ⟨xO, rfl, hcur⟩; conv => whnf)
    | (refine (l1Below_ok _ _ _ _ _ (by assumption)).mono ?_; rintro w h' ⟨xB, rfl, hxB, hxB2, hcur⟩; conv => whnf)
    | (refine Br.tt ?_; conv => whnf)
    | (refine Br.ff ?_; conv => whnf)
    | refine Br.not ?_
    | (refine Br.t (beq_self_eq_true _) ?_; conv => whnf)
    | (refine Br.t (by assumption) ?_; conv => whnf)
    | (refine Br.f (by assumption) ?_; conv => whnf)
    | (refine Br.dt (by omega) ?_; conv => whnf)
    | (refine Br.df (by omega) ?_; conv => whnf)
    | (refine Br.it (by omega) ?_; conv => whnf)
    | (refine Br.if (by omega) ?_; conv => whnf)
    | (refine Br.nt (by omega) ?_; conv => whnf)
    | (refine Br.nf (by omega) ?_; conv => whnf)
    | (refine Br.dec (fun hc => ?_) (fun hc => ?_) <;> conv => whnf)
    | (refine Br.ieq (fun hc => ?_) (fun hc => ?_) <;> conv => whnf)
    | (refine Br.ine (fun hc => ?_) (fun hc => ?_) <;> conv => whnf)
    | (refine Br.mk (fun hc => ?_) (fun hc => ?_) <;> conv => whnf)
    | (refine Wr.i64 (by omega) ?_; conv => whnf)
    | (refine Ck.mk (by omega) ?_; conv => whnf)
    | (refine Wr.i64 (by simp only [List.length_drop, List.length_take, List.length_append, List.length_cons, List.length_nil]; omega) ?_; conv => whnf)
    | (refine Ck.mk (by simp only [List.length_drop, List.length_take, List.length_append, List.length_cons, List.length_nil]; omega) ?_; conv => whnf)
    | (refine NewG.st (by assumption) (fun bt h' hs' => ?_); conv => whnf)
    | (refine StoreG.st1 (by assumption) (by repeat first | exact .here | apply Spot.there) rfl (fun h' hs' => ?_); conv => whnf)
    | (refine StoreG.stZ (by assumption) (by repeat first | exact .here | apply Spot.there) rfl (by first | (simp; done) | omega | (simp only [List.length_set, List.length_append, List.length_cons, List.length_nil, List.length_replicate, tab_length]; omega) | (simp; omega)) (fun h' hs' => ?_); conv => whnf)
    | (refine Ck.mk (by simp; omega) ?_; conv => whnf))
  · exact ⟨bQ, (quidF n d).set x.toNat m, by rw [List.length_set], by rw [List.length_set]; omega, hc8.sub (List.sublist_cons_self _ _)⟩
  · exact ⟨bQ, _, rfl, by omega, hc4⟩
  · exact ⟨bQ, _, rfl, by omega, hc3⟩
theorem drawFriOf_ok (l : List UInt8) (v : AV) (h0 : H) (hv : CellsAt h0 v (bytesAV l)) (hl : l.length ≤ 1048576) : AC env 17 [v] h0 fun w h' => ∃ (b : Nat) (q : List Int), w = .slice b 0 q.length q.length ∧ q.length ≤ 10 ∧ St h0 h' [(b, row (ints q))] := by
  have hv2 := hv
  rcases hv2 with ⟨rfl, e⟩ | ⟨b, cp, rfl, hb⟩
  all_goals
    refine AC.enter Try.func17 Try.call17 rfl Try.ntmps17 (of_decide_eq_true (by rfl)) ?_
    repeat' (first
      | (refine (l1New_ok l _ _ hv hl).mono ?_; rintro w h' ⟨c, rfl, hc⟩; conv => whnf)
      | (refine (l22Any_ok _ _ _ _ hc).mono ?_; rintro w h' ⟨b, q, rfl, hq, hc2⟩; conv => whnf)
      | refine AW.seq ?_
      | (refine AW.region ?_; conv => whnf)
      | refine AW.block ?_
      | (refine AW.skip ?_; conv => whnf)
      | (refine AW.ret ?_; conv => whnf)
      | (refine AW.exit ?_; conv => whnf)
      | refine AW.cond (by rfl) ?_
      | (refine (l1New_ok _ _ _ (by assumption) (by omega)).mono ?_; rintro w h' ⟨c, rfl, hcur⟩; conv => whnf)
      | (refine Br.tt ?_; conv => whnf)
      | (refine Br.ff ?_; conv => whnf)
      | refine Br.not ?_
      | (refine Br.t (beq_self_eq_true _) ?_; conv => whnf)
      | (refine Br.t (by assumption) ?_; conv => whnf)
      | (refine Br.f (by assumption) ?_; conv => whnf)
      | (refine Br.dt (by omega) ?_; conv => whnf)
      | (refine Br.df (by omega) ?_; conv => whnf)
      | (refine Br.it (by omega) ?_; conv => whnf)
      | (refine Br.if (by omega) ?_; conv => whnf)
      | (refine Br.nt (by omega) ?_; conv => whnf)
      | (refine Br.nf (by omega) ?_; conv => whnf)
      | (refine Br.dec (fun hc => ?_) (fun hc => ?_) <;> conv => whnf)
      | (refine Br.ieq (fun hc => ?_) (fun hc => ?_) <;> conv => whnf)
      | (refine Br.ine (fun hc => ?_) (fun hc => ?_) <;> conv => whnf)
      | (refine Br.mk (fun hc => ?_) (fun hc => ?_) <;> conv => whnf)
      | (refine Wr.i64 (by omega) ?_; conv => whnf)
      | (refine Ck.mk (by omega) ?_; conv => whnf)
      | (refine Wr.i64 (by simp only [List.length_drop, List.length_take, List.length_append, List.length_cons, List.length_nil]; omega) ?_; conv => whnf)
      | (refine Ck.mk (by simp only [List.length_drop, List.length_take, List.length_append, List.length_cons, List.length_nil]; omega) ?_; conv => whnf)
      | (refine Ck.mk (by simp; omega) ?_; conv => whnf))
    exact ⟨b, q, rfl, hq, hc2.st⟩
theorem frz_rows (q : List Int) (h : q.length ≤ 10) : (frz q).length ≤ 11 ∧ ∀ x ∈ frz q, x.length ≤ 10 := by
  refine ⟨by rw [frz_len]; omega, fun x hx => ?_⟩
  obtain ⟨i, hi, rfl⟩ := List.getElem_of_mem hx
  have e := frz_row q (r := i) (by rw [frz_len] at hi; omega)
  rw [show (frz q).getD i [] = (frz q)[i] by simp [List.getD, hi]] at e
  rw [e, tab_length]
  omega
/-- a frieze, or what is left of one -/
def FriDraw (H0 : H) (w : AV) (h' : H) : Prop :=
  ∃ (b : Nat) (f : List (List Int)) (R : RL), w = .slice b 0 f.length f.length ∧ rws R = f ∧ f.length ≤ 11 ∧ (∀ x ∈ f, x.length ≤ 10) ∧ St H0 h' ((b, row (slcs R)) :: (blks R ++ []))
theorem friezeR_two (q : List Int) : (friezeR q = (frz q, true) ∧ isQ q = true) ∨ friezeR q = ([], false) := by
  unfold friezeR
  split
  · rename_i h
    exact .inl ⟨rfl, h⟩
  · exact .inr rfl
/-- a number of one of the rows is written -/
theorem StoreG.curNum {H0 h : H} {c b sz n i : Nat} {p : Nat × Blk} {L : List (Nat × Blk)} {R : RL} {y : Int} {K : H → Prop} (s : CurSt H0 h c (p :: (b, row (slcs R)) :: (blks R ++ L))) (hi : i < R.length) (hs : sz = 1) (ho : n < (rl R i).length)
    (hk : ∀ h' R', R'.length = R.length → rws R' = (rws R).set i ((rl R i).set n y) → CurSt H0 h' c ((b, row (slcs R')) :: (blks R' ++ L)) → K h') : StoreG h (rb R i) (0 + mulSz n sz) (.int .i64 y) K := by
  obtain ⟨v, a, j, k, h1, h2, h3, h4⟩ := s.ex
  have h5 : St H0 h ((b, row (slcs R)) :: (blks R ++ (c, curB v j k) :: L)) := (h4.perm ((List.Perm.swap _ _ _).trans (.cons _ ((List.Perm.swap _ _ _).trans (.cons _ List.perm_middle.symm))))).tail
  refine StoreG.stR h5 hi hs ho fun h' hs' => hk h' (R.set i (rb R i, (rl R i).set n y)) (by simp) (by unfold rws; rw [List.map_set]) ⟨v, a, j, k, h1, h2, h3, ?_⟩
  exact hs'.perm ((List.Perm.cons _ List.perm_middle).trans (.swap _ _ _))
theorem sFriezeK_ok {q : List Int} {f : List (List Int)} {t : Bool} (e : friezeR q = (f, t)) (bq N C : Nat) (h0 : H) (hb : Has h0 bq (ints q)) (hN : N = q.length) (hl : N ≤ 100000000) : AC env 18 [.slice bq 0 N C] h0 fun v h' => ∃ b R, v = .tup [.slice b 0 f.length f.length, .bool t] ∧ rws R = f ∧ R.length = f.length ∧ St h0 h' ((b, row (slcs R)) :: (blks R ++ [])) := by
  have := sFriezeOf_ok q bq N C h0 hb hN hl
  rw [e] at this
  exact this
set_option maxHeartbeats 2000000 in
theorem l22Frieze_ok (l : List UInt8) (v : AV) (h0 : H) (hv : CellsAt h0 v (bytesAV l)) (hl : l.length ≤ 1048576) : AC env 42 [v] h0 (FriDraw h0) := by
  have hv2 := hv
  rcases hv2 with ⟨rfl, e⟩ | ⟨b, cp, rfl, hb⟩
  all_goals
    refine AC.enter Try.func42 Try.call42 rfl Try.ntmps42 (of_decide_eq_true (by rfl)) ?_
    repeat' (first
      | (refine (l1New_ok l _ _ hv hl).mono ?_; rintro w h' ⟨c, rfl, hc⟩; conv => whnf)
      | (refine (l22Any_ok _ _ _ _ hc).mono ?_; rintro w h' ⟨b, q, rfl, hq, hc2⟩; rcases friezeR_two q with ⟨hf, hisq⟩ | hf <;> (conv => whnf))
      | (refine (sFriezeK_ok hf _ _ _ _ (St.has hc2.st (.head _)) rfl (by omega)).mono ?_; rintro w h2 ⟨bF, R, rfl, hR, hRl, hsR⟩; have hc3 := CurSt.callR hc2 hsR; have hfr := frz_rows q hq; have hfl := frz_len q; conv => whnf)
      | (refine (l1Once_ok 5 _ _ _ _ hc3).mono ?_; rintro w h3 ⟨xO, rfl, hc4⟩; clear hc3 hc2; have hq3 := (isQ_sm hisq).1.1; conv => whnf)
      | (refine And.intro ?_ ?_ <;> (conv => whnf))
      | (refine (l1Below_ok _ _ _ _ _ (by assumption)).mono ?_; rintro w h' ⟨x, rfl, hx1, hx2, hcx⟩; obtain ⟨x, rfl⟩ := Int.eq_ofNat_of_zero_le hx1; have hx3 : 1 + x < (frz q).length := (by omega); have hrx : (rl R (1 + x)).length = q.length := (by rw [← rws_at hR, frz_row q (by omega), tab_length]); conv => whnf)
      | (refine NewG.cur (by assumption) (fun bp h' hcp => ?_); conv => whnf)
      | (refine Grid.load (n := 1 + x) (St.gridAt (CurSt.st (by assumption)) (by repeat first | exact RSpot.here | apply RSpot.there | apply RSpot.app)) rfl (by omega) ?_; conv => whnf)
      | (refine Ck.mk (by rw [hrx]; omega) ?_; conv => whnf)
      | (refine (l1PickInt_ok [0, 1, 2, -1] _ _ _ _ _ _ _ (by assumption) (by repeat first | exact .head _ | apply List.Mem.tail) rfl (by simp) (by simp)).mono ?_; rintro w h' ⟨m, rfl, hm, hcm⟩; conv => whnf)
      | (refine StoreG.curNum (R := R) (i := 1 + x) (n := 0) hcm (by omega) rfl (by omega) (fun h8 R' hRl' hR' hc8 => ?_); conv => whnf)
      | refine AW.seq ?_
      | (refine AW.region ?_; conv => whnf)
      | refine AW.block ?_
      | (refine AW.skip ?_; conv => whnf)
      | (refine AW.ret ?_; conv => whnf)
      | (refine AW.exit ?_; conv => whnf)
      | refine AW.cond (by rfl) ?_
      | (refine AW.draw (id := 4) (.p 0 (.p 1 (.p 2 (.p 3 (.p 4 (.p 9 (.all [5, 10] fun i => bif Nat.beq i 5 then (.p 6 (.p 7 (.all [8, 10] fun i => bif Nat.beq i 8 then (.all [10] fun _ => (.all [11] fun _ => (.p 12 (.all [13] fun _ => .done)))) else (.all [8, 11] fun i => bif Nat.beq i 8 then (.all [11] fun _ => (.p 12 (.all [13] fun _ => .done))) else (.r 8 [12, 13] (.p 12 (.all [13] fun _ => .done))))))) else (.all [5] fun _ => (.p 6 (.p 7 (.all [8, 11] fun i => bif Nat.beq i 8 then (.all [11] fun _ => (.p 12 (.all [13] fun _ => .done))) else (.r 8 [12, 13] (.p 12 (.all [13] fun _ => .done)))))))))))))) (by kernel_rfl) (by kernel_rfl) ?_; conv => whnf)
      | (refine (l1New_ok _ _ _ (by assumption) (by omega)).mono ?_; rintro w h' ⟨c, rfl, hcur⟩; conv => whnf)
      | (refine (sFriezeOf_ok _ _ _ _ _ (by first | assumption | exact St.has (by assumption) (by repeat first | exact .head _ | apply List.Mem.tail) | exact St.arg (by assumption) (by assumption)) (by first | rfl | omega) (by first | (simp; done) | omega | (simp only [List.length_set, List.length_append, List.length_cons, List.length_nil, List.length_replicate, tab_length]; omega) | (simp; omega))).mono ?_; rintro v h' ⟨bF, RF, rfl, hRF, hLF, hsF⟩; have hs' := St.callR (by assumption) hsF; clear hsF; conv => whnf)
      | (refine (l1Once_ok _ _ _ _ _ (by assumption)).mono ?_; rintro w h' ⟨xO, rfl, hcur⟩; conv => whnf)
      | (refine (l1Below_ok _ _ _ _ _ (by assumption)).mono ?_; rintro w h' ⟨xB, rfl, hxB, hxB2, hcur⟩; conv => whnf)
      | (refine Br.tt ?_; conv => whnf)
      | (refine Br.ff ?_; conv => whnf)
      | refine Br.not ?_
      | (refine Br.t (beq_self_eq_true _) ?_; conv => whnf)
      | (refine Br.t (by assumption) ?_; conv => whnf)
      | (refine Br.f (by assumption) ?_; conv => whnf)
      | (refine Br.dt (by omega) ?_; conv => whnf)
      | (refine Br.df (by omega) ?_; conv => whnf)
      | (refine Br.it (by omega) ?_; conv => whnf)
      | (refine Br.if (by omega) ?_; conv => whnf)
      | (refine Br.nt (by omega) ?_; conv => whnf)
      | (refine Br.nf (by omega) ?_; conv => whnf)
      | (refine Br.dec (fun hc => ?_) (fun hc => ?_) <;> conv => whnf)
      | (refine Br.ieq (fun hc => ?_) (fun hc => ?_) <;> conv => whnf)
      | (refine Br.ine (fun hc => ?_) (fun hc => ?_) <;> conv => whnf)
      | (refine Br.mk (fun hc => ?_) (fun hc => ?_) <;> conv => whnf)
      | (refine Wr.i64 (by omega) ?_; conv => whnf)
      | (refine Ck.mk (by omega) ?_; conv => whnf)
      | (refine Wr.i64 (by simp only [List.length_drop, List.length_take, List.length_append, List.length_cons, List.length_nil]; omega) ?_; conv => whnf)
      | (refine Ck.mk (by simp only [List.length_drop, List.length_take, List.length_append, List.length_cons, List.length_nil]; omega) ?_; conv => whnf)
      | (refine NewG.st (by assumption) (fun bt h' hs' => ?_); conv => whnf)
      | (refine Has.load1 (by first | assumption | exact St.has (by assumption) (by repeat first | exact .head _ | apply List.Mem.tail) | exact St.arg (by assumption) (by assumption)) ?_; conv => whnf)
      | (refine StoreG.st1 (by assumption) (by repeat first | exact .here | apply Spot.there) rfl (fun h' hs' => ?_); conv => whnf)
      | (refine StoreG.stZ (by assumption) (by repeat first | exact .here | apply Spot.there) rfl (by first | (simp; done) | omega | (simp only [List.length_set, List.length_append, List.length_cons, List.length_nil, List.length_replicate, tab_length]; omega) | (simp; omega)) (fun h' hs' => ?_); conv => whnf)
      | (refine Ck.mk (by simp; omega) ?_; conv => whnf))
    all_goals first
      | (have e8 := hc8
         refine ⟨bF, rws R', R', by rw [rws_length, hRl', hRl], rfl, by rw [rws_length]; omega, ?_, (hc8.sub (.cons_cons _ (List.Sublist.append_left (List.nil_sublist _) _))).st⟩
         rw [hR', hR]
         intro y hy
         rcases List.mem_or_eq_of_mem_set hy with hy | rfl
         · exact hfr.2 y hy
         · rw [List.length_set]; omega)
      | exact ⟨bF, frz q, R, rfl, hR, hfr.1, hfr.2, (hc4.sub (.cons_cons _ (List.Sublist.append_left (List.nil_sublist _) _))).st⟩
      | exact ⟨bF, [], R, rfl, hR, by simp, fun x hx => (nomatch hx), (hc3.sub (.cons_cons _ (List.Sublist.append_left (List.nil_sublist _) _))).st⟩
theorem drawIsFri_ok (l : List UInt8) (v : AV) (h0 : H) (hv : CellsAt h0 v (bytesAV l)) (hl : l.length ≤ 1048576) : AC env 20 [v] h0 (FriDraw h0) := by
  have hv2 := hv
  rcases hv2 with ⟨rfl, e⟩ | ⟨b, cp, rfl, hb⟩
  all_goals
    refine AC.enter Try.func20 Try.call20 rfl Try.ntmps20 (of_decide_eq_true (by rfl)) ?_
    repeat' (first
      | (refine (l22Frieze_ok l _ _ hv hl).mono ?_; rintro w h' ⟨b, f, R, rfl, hR, h1, h2, hs⟩; conv => whnf)
      | refine AW.seq ?_
      | (refine AW.region ?_; conv => whnf)
      | refine AW.block ?_
      | (refine AW.skip ?_; conv => whnf)
      | (refine AW.ret ?_; conv => whnf)
      | (refine AW.exit ?_; conv => whnf)
      | refine AW.cond (by rfl) ?_
      | (refine Br.tt ?_; conv => whnf)
      | (refine Br.ff ?_; conv => whnf)
      | refine Br.not ?_
      | (refine Br.t (beq_self_eq_true _) ?_; conv => whnf)
      | (refine Br.t (by assumption) ?_; conv => whnf)
      | (refine Br.f (by assumption) ?_; conv => whnf)
      | (refine Br.dt (by omega) ?_; conv => whnf)
      | (refine Br.df (by omega) ?_; conv => whnf)
      | (refine Br.it (by omega) ?_; conv => whnf)
      | (refine Br.if (by omega) ?_; conv => whnf)
      | (refine Br.nt (by omega) ?_; conv => whnf)
      | (refine Br.nf (by omega) ?_; conv => whnf)
      | (refine Br.dec (fun hc => ?_) (fun hc => ?_) <;> conv => whnf)
      | (refine Br.ieq (fun hc => ?_) (fun hc => ?_) <;> conv => whnf)
      | (refine Br.ine (fun hc => ?_) (fun hc => ?_) <;> conv => whnf)
      | (refine Br.mk (fun hc => ?_) (fun hc => ?_) <;> conv => whnf)
      | (refine Wr.i64 (by omega) ?_; conv => whnf)
      | (refine Ck.mk (by omega) ?_; conv => whnf)
      | (refine Wr.i64 (by simp only [List.length_drop, List.length_take, List.length_append, List.length_cons, List.length_nil]; omega) ?_; conv => whnf)
      | (refine Ck.mk (by simp only [List.length_drop, List.length_take, List.length_append, List.length_cons, List.length_nil]; omega) ?_; conv => whnf)
      | (refine Ck.mk (by simp; omega) ?_; conv => whnf))
    exact ⟨b, f, R, rfl, hR, h1, h2, hs⟩

end Go.Proofs.Ytbicfognbbeigaa
