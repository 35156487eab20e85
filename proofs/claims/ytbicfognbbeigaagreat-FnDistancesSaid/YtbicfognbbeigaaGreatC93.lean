/-
  Contracts of rotations and of neighbours of a tree are proved.
  They hold for all trees of at most eight nodes.
-/
import Derived.Test.YtbicfognbbeigaaGreatC92
set_option linter.unusedVariables false
set_option linter.unusedSimpArgs false
namespace Go.Proofs.YtbicfognbbeigaaGreat
open Go.Proofs.YtbicfognbbeigaaGreat.Ab Go.Proofs.YtbicfognbbeigaaGreat.Pl

theorem node_ok (t : BT) (i : Nat) (h0 : H) (hi : i < t.size) (hz : t.size ≤ 8) : AC env 100 [.str t.txt, .int .i64 (i : Int)] h0 fun w h' => ∃ (v : AV) (b : Nat) (S R : List (Nat × Blk)), w = .tup [v, .ptr b 0] ∧ TreeL S (.ptr b 0) (nodeB t i) ∧ (∃ c, v = .ptr c 0) ∧ (∀ S' u, TreeL S' (.ptr b 0) u → ∃ L', L'.Perm (S' ++ R) ∧ TreeL L' v (replB t i u)) ∧ St h0 h' (S ++ R) := by
  refine AC.enter Tryz.func100 Tryz.call100 rfl Tryz.ntmps100 (of_decide_eq_true (by rfl)) ?_
  repeat' (first
    | (refine (parseOwn_ok t _ hz).mono ?_; rintro w h1 ⟨v, L, rfl, m, s1⟩; obtain ⟨S, R, b, p1, p2, p3, p4⟩ := find_ok m i i h1 rfl (fun p hp => s1.is p hp) hi (by omega); have mf := m.form; have s2 := s1.perm p1; rcases mf with ⟨rfl, e0⟩ | ⟨c, rfl⟩ <;> (conv => whnf))
    | (exfalso; rw [e0] at hi; simp [BT.size] at hi)
    | (refine p4.mono ?_; rintro w h' ⟨rfl, e'⟩; subst h'; conv => whnf)
    | refine AW.seq ?_
    | (refine AW.region ?_; conv => whnf)
    | (refine AW.skip ?_; conv => whnf)
    | (refine AW.ret ?_; conv => whnf)
    | refine AW.cond (by rfl) ?_
    | (refine Br.ff ?_; conv => whnf))
  exact ⟨_, b, S, R, rfl, p2, ⟨c, rfl⟩, p3, s2⟩

theorem TreeL.invR {S : List (Nat × Blk)} {b0 : Nat} {a b y : BT} (m : TreeL S (.ptr b0 0) (.node (.node a b) y)) : ∃ b1 va vb vy A B C, S = (b0, .cells true 2 [.ptr b1 0, vy]) :: (((b1, .cells true 2 [va, vb]) :: (A ++ B)) ++ C) ∧ TreeL A va a ∧ TreeL B vb b ∧ TreeL C vy y := by
  cases m with
  | node hl hr =>
    cases hl with
    | node ha hb => exact ⟨_, _, _, _, _, _, _, rfl, ha, hb, hr⟩
theorem TreeL.invL {S : List (Nat × Blk)} {b0 : Nat} {x a b : BT} (m : TreeL S (.ptr b0 0) (.node x (.node a b))) : ∃ b1 vx va vb X A B, S = (b0, .cells true 2 [vx, .ptr b1 0]) :: (X ++ ((b1, .cells true 2 [va, vb]) :: (A ++ B))) ∧ TreeL X vx x ∧ TreeL A va a ∧ TreeL B vb b := by
  cases m with
  | node hl hr =>
    cases hr with
    | node ha hb => exact ⟨_, _, _, _, _, _, _, rfl, hl, ha, hb⟩
theorem TreeL.inv0 {S : List (Nat × Blk)} {b0 : Nat} {y : BT} (m : TreeL S (.ptr b0 0) (.node .leaf y)) : ∃ vy C, S = (b0, .cells true 2 [.nilptr, vy]) :: C := by
  cases m with
  | node hl hr =>
    cases hl
    exact ⟨_, _, rfl⟩
theorem TreeL.inv1 {S : List (Nat × Blk)} {b0 : Nat} {y : BT} (m : TreeL S (.ptr b0 0) (.node y .leaf)) : ∃ vy C, S = (b0, .cells true 2 [vy, .nilptr]) :: C := by
  cases m with
  | node hl hr =>
    cases hr
    exact ⟨_, _, rfl⟩
theorem St.turnR {h0 h : H} {p0 p1 p2 : Nat × Blk} {A B C R : List (Nat × Blk)} (s : St h0 h (p2 :: p0 :: p1 :: (A ++ (B ++ (C ++ R))))) : St h0 h ((p0 :: (A ++ (p2 :: (B ++ C)))) ++ R) := by
  have s2 := s.sub (.cons_cons _ (.cons_cons _ (List.sublist_cons_self _ _)))
  have s3 := s2.perm ((List.Perm.swap _ _ _).trans (.cons _ List.perm_middle.symm))
  simpa only [List.cons_append, List.append_assoc] using s3
theorem St.turnL {h0 h : H} {p0 p1 p2 : Nat × Blk} {A B C R : List (Nat × Blk)} (s : St h0 h (p2 :: p0 :: p1 :: (A ++ (B ++ (C ++ R))))) : St h0 h ((p0 :: ((p2 :: (A ++ B)) ++ C)) ++ R) := by
  have s2 := s.sub (.cons_cons _ (.cons_cons _ (List.sublist_cons_self _ _)))
  have s3 := s2.perm (List.Perm.swap _ _ _)
  simpa only [List.cons_append, List.append_assoc] using s3
theorem St.flatR {h0 h : H} {p0 p1 : Nat × Blk} {A B C R : List (Nat × Blk)} (s : St h0 h ((p0 :: ((p1 :: (A ++ B)) ++ C)) ++ R)) : St h0 h (p0 :: p1 :: (A ++ (B ++ (C ++ R)))) := by
  simpa only [List.cons_append, List.append_assoc] using s
theorem St.flatL {h0 h : H} {p0 p1 : Nat × Blk} {A B C R : List (Nat × Blk)} (s : St h0 h ((p0 :: (A ++ (p1 :: (B ++ C)))) ++ R)) : St h0 h (p0 :: p1 :: (A ++ (B ++ (C ++ R)))) := by
  have s2 : St h0 h (p0 :: (A ++ (p1 :: (B ++ (C ++ R))))) := by simpa only [List.cons_append, List.append_assoc] using s
  exact s2.perm (.cons _ List.perm_middle)

set_option maxHeartbeats 4000000 in
theorem iRotR_ok (t : BT) (i : Nat) (h0 : H) (hi : i < t.size) (hz : t.size ≤ 8) : AC env 60 [.str t.txt, .int .i64 (i : Int)] h0 fun w h' => w = .tup [.str (txtO (rotR t i)).1, .bool (txtO (rotR t i)).2] ∧ Keeps h0 h' := by
  obtain ⟨x, y, en, zn⟩ := nodeB_node t i hi
  have nk := node_ok t i h0 hi hz
  have ez : (BT.node x y).size = x.size + y.size + 1 := rfl
  rw [en] at nk
  cases x with
  | leaf =>
    have er : rotR t i = none := by unfold rotR; rw [en]; rfl
    rw [er]
    refine AC.enter Tryz.func60 Tryz.call60 rfl Tryz.ntmps60 (of_decide_eq_true (by rfl)) ?_
    repeat' (first
      | (refine nk.mono ?_; rintro w h1 ⟨v, b, S, R, rfl, m, ⟨c, rfl⟩, put, s1⟩; obtain ⟨vy, C, rfl⟩ := m.inv0; have mb := St.has s1 (.head _); conv => whnf)
      | (refine Has.load mb rfl ?_; conv => whnf)
      | refine AW.seq ?_
      | (refine AW.region ?_; conv => whnf)
      | (refine AW.ret ?_; conv => whnf)
      | refine AW.cond (by rfl) ?_
      | (refine Br.tt ?_; conv => whnf)
      | (refine Br.ff ?_; conv => whnf))
    all_goals exact ⟨rfl, s1.keeps⟩
  | node a b =>
    have er : rotR t i = some (replB t i (.node a (.node b y))) := by unfold rotR; rw [en]; rfl
    have ezx : (BT.node a b).size = a.size + b.size + 1 := rfl
    have sz := replB_size t i (.node a (.node b y)) hi
    rw [en] at sz
    have sz2 : (BT.node a (.node b y)).size = (BT.node (.node a b) y).size := by simp only [BT.size]; omega
    rw [er]
    refine AC.enter Tryz.func60 Tryz.call60 rfl Tryz.ntmps60 (of_decide_eq_true (by rfl)) ?_
    repeat' (first
      | (refine nk.mono ?_; rintro w h1 ⟨v, b0, S, R, rfl, m, ⟨c, rfl⟩, put, s1⟩; obtain ⟨b1, va, vb, vy, A, B, C, rfl, ha, hb, hy⟩ := m.invR; have s2 := St.flatR s1; have mb0 := St.has s2 (.head _); have mb1 := St.has s2 (.tail _ (.head _)); have ha' := ha.form; have hb' := hb.form; have hy' := hy.form; rcases ha' with ⟨rfl, _⟩ | ⟨ba, rfl⟩ <;> rcases hb' with ⟨rfl, _⟩ | ⟨bb, rfl⟩ <;> rcases hy' with ⟨rfl, _⟩ | ⟨by', rfl⟩ <;> (conv => whnf))
      | (refine Has.load mb0 rfl ?_; conv => whnf)
      | (refine Has.load mb1 rfl ?_; conv => whnf)
      | (refine StoreG.st s2 .here (of_decide_eq_true rfl) rfl (fun h2 s3 => ?_); conv => whnf)
      | (refine NewG.st s3 (fun b2 h3 s4 => ?_); conv => whnf)
      | (refine StoreG.st s4 (.there .here) (of_decide_eq_true rfl) rfl (fun h4 s5 => ?_); have s6 := St.turnR s5; obtain ⟨L', q1, q2⟩ := put _ _ (.node ha (.node hb hy)); have s7 := s6.perm q1.symm; have ti := St.trees s7 q2 (fun p hp => hp); conv => whnf)
      | (refine (text_ok _ _ _ ti (by omega)).mono ?_; rintro w h' ⟨rfl, e'⟩; subst h'; conv => whnf)
      | refine AW.seq ?_
      | (refine AW.region ?_; conv => whnf)
      | (refine AW.skip ?_; conv => whnf)
      | (refine AW.ret ?_; conv => whnf)
      | refine AW.cond (by rfl) ?_
      | (refine AW.draw (id := 4) (.p 0 (.p 1 (.p 2 (.p 7 (.p 8 (.p 9 (.p 14 (.p 15 (.p 16 (.r 3 [4, 5, 6, 18, 19, 20] (.p 4 (.p 5 (.r 6 [18, 19, 20] (.p 18 (.r 10 [11, 12, 13, 19, 20] (.p 11 (.p 12 (.r 13 [19, 20] (.p 19 (.r 17 [20] (.p 20 .done))))))))))))))))))))) (by kernel_rfl) (by kernel_rfl) ?_; conv => whnf)
      | (refine Br.ff ?_; conv => whnf))
    all_goals exact ⟨rfl, s5.keeps⟩
set_option maxHeartbeats 4000000 in
theorem iRotL_ok (t : BT) (i : Nat) (h0 : H) (hi : i < t.size) (hz : t.size ≤ 8) : AC env 61 [.str t.txt, .int .i64 (i : Int)] h0 fun w h' => w = .tup [.str (txtO (rotL t i)).1, .bool (txtO (rotL t i)).2] ∧ Keeps h0 h' := by
  obtain ⟨x, y, en, zn⟩ := nodeB_node t i hi
  have nk := node_ok t i h0 hi hz
  have ez : (BT.node x y).size = x.size + y.size + 1 := rfl
  rw [en] at nk
  cases y with
  | leaf =>
    have er : rotL t i = none := by unfold rotL; rw [en]; cases x <;> rfl
    rw [er]
    refine AC.enter Tryz.func61 Tryz.call61 rfl Tryz.ntmps61 (of_decide_eq_true (by rfl)) ?_
    repeat' (first
      | (refine nk.mono ?_; rintro w h1 ⟨v, b, S, R, rfl, m, ⟨c, rfl⟩, put, s1⟩; obtain ⟨vy, C, rfl⟩ := m.inv1; have mb := St.has s1 (.head _); conv => whnf)
      | (refine Has.load mb rfl ?_; conv => whnf)
      | refine AW.seq ?_
      | (refine AW.region ?_; conv => whnf)
      | (refine AW.ret ?_; conv => whnf)
      | refine AW.cond (by rfl) ?_
      | (refine Br.tt ?_; conv => whnf)
      | (refine Br.ff ?_; conv => whnf))
    all_goals exact ⟨rfl, s1.keeps⟩
  | node a b =>
    have er : rotL t i = some (replB t i (.node (.node x a) b)) := by unfold rotL; rw [en]; cases x <;> rfl
    have ezx : (BT.node a b).size = a.size + b.size + 1 := rfl
    have sz := replB_size t i (.node (.node x a) b) hi
    rw [en] at sz
    have sz2 : (BT.node (.node x a) b).size = (BT.node x (.node a b)).size := by simp only [BT.size]; omega
    rw [er]
    refine AC.enter Tryz.func61 Tryz.call61 rfl Tryz.ntmps61 (of_decide_eq_true (by rfl)) ?_
    repeat' (first
      | (refine nk.mono ?_; rintro w h1 ⟨v, b0, S, R, rfl, m, ⟨c, rfl⟩, put, s1⟩; obtain ⟨b1, vx, va, vb, X, A, B, rfl, hx, ha, hb⟩ := m.invL; have s2 := St.flatL s1; have mb0 := St.has s2 (.head _); have mb1 := St.has s2 (.tail _ (.head _)); have ha' := ha.form; have hb' := hb.form; have hx' := hx.form; rcases ha' with ⟨rfl, _⟩ | ⟨ba, rfl⟩ <;> rcases hb' with ⟨rfl, _⟩ | ⟨bb, rfl⟩ <;> rcases hx' with ⟨rfl, _⟩ | ⟨bx, rfl⟩ <;> (conv => whnf))
      | (refine Has.load mb0 rfl ?_; conv => whnf)
      | (refine Has.load mb1 rfl ?_; conv => whnf)
      | (refine NewG.st s2 (fun b2 h2 s3 => ?_); conv => whnf)
      | (refine StoreG.st s3 (.there .here) (of_decide_eq_true rfl) rfl (fun h3 s4 => ?_); conv => whnf)
      | (refine StoreG.st s4 (.there .here) (of_decide_eq_true rfl) rfl (fun h4 s5 => ?_); have s6 := St.turnL s5; obtain ⟨L', q1, q2⟩ := put _ _ (.node (.node hx ha) hb); have s7 := s6.perm q1.symm; have ti := St.trees s7 q2 (fun p hp => hp); conv => whnf)
      | (refine (text_ok _ _ _ ti (by omega)).mono ?_; rintro w h' ⟨rfl, e'⟩; subst h'; conv => whnf)
      | refine AW.seq ?_
      | (refine AW.region ?_; conv => whnf)
      | (refine AW.skip ?_; conv => whnf)
      | (refine AW.ret ?_; conv => whnf)
      | refine AW.cond (by rfl) ?_
      | (refine AW.draw (id := 4) (.p 0 (.p 1 (.p 2 (.p 4 (.p 5 (.p 6 (.p 11 (.p 12 (.p 13 (.r 3 [18, 19, 20] (.p 18 (.r 7 [8, 9, 10, 19, 20] (.p 8 (.p 9 (.r 10 [19, 20] (.p 19 (.r 14 [15, 16, 17, 20] (.p 15 (.p 16 (.r 17 [20] (.p 20 .done))))))))))))))))))))) (by kernel_rfl) (by kernel_rfl) ?_; conv => whnf)
      | (refine Br.ff ?_; conv => whnf))
    all_goals exact ⟨rfl, s5.keeps⟩

theorem rotations_ok (t : BT) (f : Nat) (g : Nat → Option BT) (hz : t.size ≤ 8) (hf : ∀ (i : Nat) (h0 : H), i < t.size → AC env f [.str t.txt, .int .i64 (i : Int)] h0 fun w h' => w = .tup [.str (txtO (g i)).1, .bool (txtO (g i)).2] ∧ Keeps h0 h') (h0 : H) :
    AC env 59 [.str t.txt, .func f []] h0 fun w h' => ∃ b, w = .slice b 0 ((List.range t.size).filterMap g).length ((List.range t.size).filterMap g).length ∧ New h0 h' b (strs (txts ((List.range t.size).filterMap g))) := by
  have hs := St.refl h0
  have nz : sizeO (treeOf t.txt) = t.size := by rw [treeOf_txt hz]; rfl
  refine AC.enter Tryz.func59 Tryz.call59 rfl Tryz.ntmps59 (of_decide_eq_true (by rfl)) ?_
  repeat' (first
    | refine AW.seq ?_
    | (refine AW.region ?_; conv => whnf)
    | refine AW.block ?_
    | (refine NewG.st (by assumption) (fun bt h' hs' => ?_); conv => whnf))
  obtain ⟨h1, rfl⟩ : ∃ q, q = h' := ⟨_, rfl⟩
  refine AW.loop3 (fun (v b N : Nat) => [(0, .str t.txt), (1, .func f []), (5, .slice b 0 N N), (6, .int .i64 (v : Int))]) (fun v b N h' => (v ≤ t.size ∧ N = ((List.range v).filterMap g).length) ∧ St h0 h' [(b, row (strs (txts ((List.range v).filterMap g))))]) (fun v _ _ => t.size - v) 0 _ 0
    (Less.cons rfl (Less.cons rfl (Less.cons rfl (Less.cons rfl (Less.nil _))))) ⟨⟨by omega, rfl⟩, hs'⟩ ?_
  rintro v b N h2 ⟨⟨hv, hN⟩, hs2⟩
  clear hs hs'
  have nl := fm_len g v
  by_cases hlt : v < t.size
  · cases hr : g v with
    | none =>
      have e1 := fm_none hr
      repeat' (first
        | (refine (iNodesOf_ok _ _).mono ?_; rw [nz]; rintro w h' ⟨rfl, hk⟩; have hs3 := hs2.keep hk; conv => whnf)
        | (refine (hf v _ hlt).mono ?_; rw [hr]; rintro w h' ⟨rfl, hk⟩; have hs4 := hs3.keep hk; conv => whnf)
        | refine AW.seq ?_
        | (refine AW.region ?_; conv => whnf)
        | refine AW.block ?_
        | (refine AW.skip ?_; conv => whnf)
        | refine AW.cond (by rfl) ?_
        | (refine Br.ff ?_; conv => whnf)
        | (refine Br.dt (by omega) ?_; conv => whnf)
        | (refine Wr.i64 (by omega) ?_; conv => whnf))
      exact ⟨v + 1, b, N, (Less.cons rfl (Less.cons rfl (Less.cons rfl (Less.cons rfl (Less.nil _))))), ⟨⟨by omega, by rw [e1]; exact hN⟩, by rw [e1]; exact hs4⟩, by omega⟩
    | some u =>
      have e1 := fm_some hr
      repeat' (first
        | (refine (iNodesOf_ok _ _).mono ?_; rw [nz]; rintro w h' ⟨rfl, hk⟩; have hs3 := hs2.keep hk; conv => whnf)
        | (refine (hf v _ hlt).mono ?_; rw [hr]; rintro w h' ⟨rfl, hk⟩; have hs4 := hs3.keep hk; conv => whnf)
        | (refine NewG.st hs4 (fun bx h' hs5 => ?_); conv => whnf)
        | (refine LoadsG.has (St.has hs5 (.head _)) (by simp) ?_; conv => whnf)
        | (refine AppG.stS (l := txts ((List.range v).filterMap g)) hs5 (fun b' => .there .here) (by simp; omega) (by simp; omega) (by decide) (fun b' h' hs6 => ?_); conv => whnf)
        | refine AW.seq ?_
        | (refine AW.region ?_; conv => whnf)
        | refine AW.block ?_
        | (refine AW.skip ?_; conv => whnf)
        | refine AW.cond (by rfl) ?_
        | (refine Br.tt ?_; conv => whnf)
        | (refine Br.dt (by omega) ?_; conv => whnf)
        | (refine Wr.i64 (by omega) ?_; conv => whnf))
      refine ⟨v + 1, b', N + 1, (Less.cons rfl (Less.cons rfl (Less.cons rfl (Less.cons rfl (Less.nil _))))), ⟨⟨by omega, by rw [e1, List.length_append, ← hN]; rfl⟩, ?_⟩, by omega⟩
      rw [e1, txts_append]
      exact hs6.tail
  · obtain rfl : v = t.size := by omega
    repeat' (first
      | (refine (iNodesOf_ok _ _).mono ?_; rw [nz]; rintro w h' ⟨rfl, hk⟩; have hs3 := hs2.keep hk; conv => whnf)
      | refine AW.seq ?_
      | (refine AW.region ?_; conv => whnf)
      | (refine AW.ret ?_; conv => whnf)
      | (refine AW.exit ?_; conv => whnf)
      | refine AW.cond (by rfl) ?_
      | (refine Br.df (by omega) ?_; conv => whnf))
    rw [hN]
    exact ⟨b, rfl, hs3.toNew⟩
theorem iNbrs_ok (t : BT) (h0 : H) (hz : t.size ≤ 8) : AC env 13 [.str t.txt] h0 fun w h' => ∃ b, w = .slice b 0 (nbrs t).length (nbrs t).length ∧ New h0 h' b (strs (txts (nbrs t))) := by
  have hs := St.refl h0
  have l1 := fm_len (rotR t) t.size
  have l2 := fm_len (rotL t) t.size
  refine AC.enter Tryz.func13 Tryz.call13 rfl Tryz.ntmps13 (of_decide_eq_true (by rfl)) ?_
  repeat' (first
    | (refine (rotations_ok t _ (rotR t) hz (fun i h0 hi => iRotR_ok t i h0 hi hz) _).mono ?_; rintro w h1 ⟨b1, rfl, n1⟩; have s1 := hs.newCall n1; conv => whnf)
    | (refine (rotations_ok t _ (rotL t) hz (fun i h0 hi => iRotL_ok t i h0 hi hz) _).mono ?_; rintro w h2 ⟨b2, rfl, n2⟩; have s2 := s1.newCall n2; conv => whnf)
    | (refine LoadsG.has (St.has s2 (.head _)) (by simp) ?_; conv => whnf)
    | (refine AppG.stSs (l := txts ((List.range t.size).filterMap (rotR t))) (r := txts ((List.range t.size).filterMap (rotL t))) s2 (fun b' => .there .here) (by simp) (by simp; omega) (by decide) (fun b' h' s3 => ?_); conv => whnf)
    | refine AW.seq ?_
    | (refine AW.region ?_; conv => whnf)
    | (refine AW.ret ?_; conv => whnf))
  refine ⟨b', ?_, ?_⟩
  · unfold nbrs
    rw [List.length_append]
  · have := s3.tail
    rw [← txts_append] at this
    exact this.toNew

end Go.Proofs.YtbicfognbbeigaaGreat
