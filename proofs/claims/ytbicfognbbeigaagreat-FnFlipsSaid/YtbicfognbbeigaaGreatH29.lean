/-
  Contracts of rotations and of neighbours of a tree are proved.
  They hold for all trees of at most eight nodes.
-/
import Derived.Test.YtbicfognbbeigaaGreatH19
import Derived.Test.YtbicfognbbeigaaGreatH18
set_option linter.unusedVariables false
set_option linter.unusedSimpArgs false
namespace Go.Proofs.YtbicfognbbeigaaGreat
open Go.Proofs.YtbicfognbbeigaaGreat.Ab Go.Proofs.YtbicfognbbeigaaGreat.Pl

theorem node_ok (t : BT) (i : Nat) (h0 : H) (hi : i < t.size) (hz : t.size ≤ 8) : AC env 100 [.str t.txt, .int .i64 (i : Int)] h0 fun w h' => ∃ (v : AV) (b : Nat) (S R : List (Nat × Blk)), w = .tup [v, .ptr b 0] ∧ TreeL S (.ptr b 0) (nodeB t i) ∧ (∃ c, v = .ptr c 0) ∧ (∀ S' u, TreeL S' (.ptr b 0) u → ∃ L', L'.Perm (S' ++ R) ∧ TreeL L' v (replB t i u)) ∧ St h0 h' (S ++ R) := by
  refine AC.enter Tryz.func100 Tryz.call100 rfl Tryz.ntmps100 (of_decide_eq_true (by rfl)) ?_
  repeat' (first
    | (refine (parseOwn_ok t _ hz).mono ?_; rintro w h1 ⟨v, L, rfl, m, s1⟩; obtain ⟨S, R, b, p1, p2, p3, p4⟩ := find_ok m i i h1 rfl (fun p hp => s1.is p hp) hi (by omega); have mf := m.form; have s2 := s1.perm p1; rcases mf with ⟨rfl, e0⟩ | ⟨c, rfl⟩ <;> (conv => whnf))
    | (exfalso; rw [e0] at hi; simp [BT.size] at hi)
    | (refine p4.mono ?_; rintro w h' ⟨rfl, e'⟩; subst h'; conv => whnf)
    | refine AW.seq ?_
    | (refine AW.region ?_; conv => whnf)
    | (refine AW.skip ?_; conv => whnf)
    | (refine AW.ret ?_; conv => whnf)
    | refine AW.cond (by rfl) ?_
    | (refine Br.ff ?_; conv => whnf))
  exact ⟨_, b, S, R, rfl, p2, ⟨c, rfl⟩, p3, s2⟩

theorem TreeL.invR {S : List (Nat × Blk)} {b0 : Nat} {a b y : BT} (m : TreeL S (.ptr b0 0) (.node (.node a b) y)) : ∃ b1 va vb vy A B C, S = (b0, .cells true 2 [.ptr b1 0, vy]) :: (((b1, .cells true 2 [va, vb]) :: (A ++ B)) ++ C) ∧ TreeL A va a ∧ TreeL B vb b ∧ TreeL C vy y := by
  cases m with
  | node hl hr =>
    cases hl with
    | node ha hb => exact ⟨_, _, _, _, _, _, _, rfl, ha, hb, hr⟩
theorem TreeL.invL {S : List (Nat × Blk)} {b0 : Nat} {x a b : BT} (m : TreeL S (.ptr b0 0) (.node x (.node a b))) : ∃ b1 vx va vb X A B, S = (b0, .cells true 2 [vx, .ptr b1 0]) :: (X ++ ((b1, .cells true 2 [va, vb]) :: (A ++ B))) ∧ TreeL X vx x ∧ TreeL A va a ∧ TreeL B vb b := by
  cases m with
  | node hl hr =>
    cases hr with
    | node ha hb => exact ⟨_, _, _, _, _, _, _, rfl, hl, ha, hb⟩
theorem TreeL.inv0 {S : List (Nat × Blk)} {b0 : Nat} {y : BT} (m : TreeL S (.ptr b0 0) (.node .leaf y)) : ∃ vy C, S = (b0, .cells true 2 [.nilptr, vy]) :: C := by
  cases m with
  | node hl hr =>
    cases hl
    exact ⟨_, _, rfl⟩
theorem TreeL.inv1 {S : List (Nat × Blk)} {b0 : Nat} {y : BT} (m : TreeL S (.ptr b0 0) (.node y .leaf)) : ∃ vy C, S = (b0, .cells true 2 [vy, .nilptr]) :: C := by
  cases m with
  | node hl hr =>
    cases hr
    exact ⟨_, _, rfl⟩
theorem St.turnR {h0 h : H} {p0 p1 p2 : Nat × Blk} {A B C R : List (Nat × Blk)} (s : St h0 h (p2 :: p0 :: p1 :: (A ++ (B ++ (C ++ R))))) : St h0 h ((p0 :: (A ++ (p2 :: (B ++ C)))) ++ R) := by
  have s2 := s.sub (.cons_cons _ (.cons_cons _ (List.sublist_cons_self _ _)))
  have s3 := s2.perm ((List.Perm.swap _ _ _).trans (.cons _ List.perm_middle.symm))
  simpa only [List.cons_append, List.append_assoc] using s3
theorem St.turnL {h0 h : H} {p0 p1 p2 : Nat × Blk} {A B C R : List (Nat × Blk)} (s : St h0 h (p2 :: p0 :: p1 :: (A ++ (B ++ (C ++ R))))) : St h0 h ((p0 :: ((p2 :: (A ++ B)) ++ C)) ++ R) := by
  have s2 := s.sub (.cons_cons _ (.cons_cons _ (List.sublist_cons_self _ _)))
  have s3 := s2.perm (List.Perm.swap _ _ _)
  simpa only [List.cons_append, List.append_assoc] using s3
theorem St.flatR {h0 h : H} {p0 p1 : Nat × Blk} {A B C R : List (Nat × Blk)} (s : St h0 h ((p0 :: ((p1 :: (A ++ B)) ++ C)) ++ R)) : St h0 h (p0 :: p1 :: (A ++ (B ++ (C ++ R)))) := by
  simpa only [List.cons_append, List.append_assoc] using s
theorem St.flatL {h0 h : H} {p0 p1 : Nat × Blk} {A B C R : List (Nat × Blk)} (s : St h0 h ((p0 :: (A ++ (p1 :: (B ++ C)))) ++ R)) : St h0 h (p0 :: p1 :: (A ++ (B ++ (C ++ R)))) := by
  have s2 : St h0 h (p0 :: (A ++ (p1 :: (B ++ (C ++ R))))) := by simpa only [List.cons_append, List.append_assoc] using s
  exact s2.perm (.cons _ List.perm_middle)

set_option maxHeartbeats 4000000 in
theorem iRotR_ok (t : BT) (i : Nat) (h0 : H) (hi : i < t.size) (hz : t.size ≤ 8) : AC env 60 [.str t.txt, .int .i64 (i : Int)] h0 fun w h' => w = .tup [.str (txtO (rotR t i)).1, .bool (txtO (rotR t i)).2] ∧ Keeps h0 h' := by
  obtain ⟨x, y, en, zn⟩ := nodeB_node t i hi
  have nk := node_ok t i h0 hi hz
  have ez : (BT.node x y).size = x.size + y.size + 1 := rfl
  rw [en] at nk
  cases x with
  | leaf =>
    have er : rotR t i = none := by unfold rotR; rw [en]; rfl
    rw [er]
    refine AC.enter Tryz.func60 Tryz.call60 rfl Tryz.ntmps60 (of_decide_eq_true (by rfl)) ?_
    repeat' (first
      | (refine nk.mono ?_; rintro w h1 ⟨v, b, S, R, rfl, m, ⟨c, rfl⟩, put, s1⟩; obtain ⟨vy, C, rfl⟩ := m.inv0; have mb := St.has s1 (.head _); conv => whnf)
      | (refine Has.load mb rfl ?_; conv => whnf)
      | refine AW.seq ?_
      | (refine AW.region ?_; conv => whnf)
      | (refine AW.ret ?_; conv => whnf)
      | refine AW.cond (by rfl) ?_
      | (refine Br.tt ?_; conv => whnf)
      | (refine Br.ff ?_; conv => whnf))
    all_goals exact ⟨rfl, s1.keeps⟩
  | node a b =>
    have er : rotR t i = some (replB t i (.node a (.node b y))) := by unfold rotR; rw [en]; rfl
    have ezx : (BT.node a b).size = a.size + b.size + 1 := rfl
    have sz := replB_size t i (.node a (.node b y)) hi
    rw [en] at sz
    have sz2 : (BT.node a (.node b y)).size = (BT.node (.node a b) y).size := by simp only [BT.size]; omega
    rw [er]
    refine AC.enter Tryz.func60 Tryz.call60 rfl Tryz.ntmps60 (of_decide_eq_true (by rfl)) ?_
    repeat' (first
      | (refine nk.mono ?_; rintro w h1 ⟨v, b0, S, R, rfl, m, ⟨c, rfl⟩, put, s1⟩; obtain ⟨b1, va, vb, vy, A, B, C, rfl, ha, hb, hy⟩ := m.invR; have s2 := St.flatR s1; have mb0 := St.has s2 (.head _); have mb1 := St.has s2 (.tail _ (.head _)); have ha' := ha.form; have hb' := hb.form; have hy' := hy.form; rcases ha' with ⟨rfl, _⟩ | ⟨ba, rfl⟩ <;> rcases hb' with ⟨rfl, _⟩ | ⟨bb, rfl⟩ <;> rcases hy' with ⟨rfl, _⟩ | ⟨by', rfl⟩ <;> (conv => whnf))
      | (refine Has.load mb0 rfl ?_; conv => whnf)
      | (refine Has.load mb1 rfl ?_; conv => whnf)
      | (refine StoreG.st s2 .here (of_decide_eq_true rfl) rfl (fun h2 s3 => ?_); conv => whnf)
      | (refine NewG.st s3 (fun b2 h3 s4 => ?_); conv => whnf)
      | (refine StoreG.st s4 (.there .here) (of_decide_eq_true rfl) rfl (fun h4 s5 => ?_); have s6 := St.turnR s5; obtain ⟨L', q1, q2⟩ := put _ _ (.node ha (.node hb hy)); have s7 := s6.perm q1.symm; have ti := St.trees s7 q2 (fun p hp => hp); conv => whnf)
      | (refine (text_ok _ _ _ ti (by omega)).mono ?_; rintro w h' ⟨rfl, e'⟩; subst h'; conv => whnf)
      | refine AW.seq ?_
      | (refine AW.region ?_; conv => whnf)
      | (refine AW.skip ?_; conv => whnf)
      | (refine AW.ret ?_; conv => whnf)
      | refine AW.cond (by rfl) ?_
      | (refine AW.draw (id := 4) (.p 0 (.p 1 (.p 2 (.p 7 (.p 8 (.p 9 (.p 14 (.p 15 (.p 16 (.r 3 [4, 5, 6, 18, 19, 20] (.p 4 (.p 5 (.r 6 [18, 19, 20] (.p 18 (.r 10 [11, 12, 13, 19, 20] (.p 11 (.p 12 (.r 13 [19, 20] (.p 19 (.r 17 [20] (.p 20 .done))))))))))))))))))))) (by kernel_rfl) (by kernel_rfl) ?_; conv => whnf)
      | (refine Br.ff ?_; conv => whnf))
    all_goals exact ⟨rfl, s5.keeps⟩
set_option maxHeartbeats 4000000 in
theorem iRotL_ok (t : BT) (i : Nat) (h0 : H) (hi : i < t.size) (hz : t.size ≤ 8) : AC env 61 [.str t.txt, .int .i64 (i : Int)] h0 fun w h' => w = .tup [.str (txtO (rotL t i)).1, .bool (txtO (rotL t i)).2] ∧ Keeps h0 h' := by
  obtain ⟨x, y, en, zn⟩ := nodeB_node t i hi
  have nk := node_ok t i h0 hi hz
  have ez : (BT.node x y).size = x.size + y.size + 1 := rfl
  rw [en] at nk
  cases y with
  | leaf =>
    have er : rotL t i = none := by unfold rotL; rw [en]; cases x <;> rfl
    rw [er]
    refine AC.enter Tryz.func61 Tryz.call61 rfl Tryz.ntmps61 (of_decide_eq_true (by rfl)) ?_
    repeat' (first
      | (refine nk.mono ?_; rintro w h1 ⟨v, b, S, R, rfl, m, ⟨c, rfl⟩, put, s1⟩; obtain ⟨vy, C, rfl⟩ := m.inv1; have mb := St.has s1 (.head _); conv => whnf)
      | (refine Has.load mb rfl ?_; conv => whnf)
      | refine AW.seq ?_
      | (refine AW.region ?_; conv => whnf)
      | (refine AW.ret ?_; conv => whnf)
      | refine AW.cond (by rfl) ?_
      | (refine Br.tt ?_; conv => whnf)
      | (refine Br.ff ?_; conv => whnf))
    all_goals exact ⟨rfl, s1.keeps⟩
  | node a b =>
    have er : rotL t i = some (replB t i (.node (.node x a) b)) := by unfold rotL; rw [en]; cases x <;> rfl
    have ezx : (BT.node a b).size = a.size + b.size + 1 := rfl
    have sz := replB_size t i (.node (.node x a) b) hi
    rw [en] at sz
    have sz2 : (BT.node (.node x a) b).size = (BT.node x (.node a b)).size := by simp only [BT.size]; omega
    rw [er]
    refine AC.enter Tryz.func61 Tryz.call61 rfl Tryz.ntmps61 (of_decide_eq_true (by rfl)) ?_
    repeat' (first
      | (refine nk.mono ?_; rintro w h1 ⟨v, b0, S, R, rfl, m, ⟨c, rfl⟩, put, s1⟩; obtain ⟨b1, vx, va, vb, X, A, B, rfl, hx, ha, hb⟩ := m.invL; have s2 := St.flatL s1; have mb0 := St.has s2 (.head _); have mb1 := St.has s2 (.tail _ (.head _)); have ha' := ha.form; have hb' := hb.form; have hx' := hx.form; rcases ha' with ⟨rfl, _⟩ | ⟨ba, rfl⟩ <;> rcases hb' with ⟨rfl, _⟩ | ⟨bb, rfl⟩ <;> rcases hx' with ⟨rfl, _⟩ | ⟨bx, rfl⟩ <;> (conv => whnf))
      | (refine Has.load mb0 rfl ?_; conv => whnf)
      | (refine Has.load mb1 rfl ?_; conv => whnf)
      | (refine NewG.st s2 (fun b2 h2 s3 => ?_); conv => whnf)
      | (refine StoreG.st s3 (.there .here) (of_decide_eq_true rfl) rfl (fun h3 s4 => ?_); conv => whnf)
      | (refine StoreG.st s4 (.there .here) (of_decide_eq_true rfl) rfl (fun h4 s5 => ?_); have s6 := St.turnL s5; obtain ⟨L', q1, q2⟩ := put _ _ (.node (.node hx ha) hb); have s7 := s6.perm q1.symm; have ti := St.trees s7 q2 (fun p hp => hp); conv => whnf)
      | (refine (text_ok _ _ _ ti (by omega)).mono ?_; rintro w h' ⟨rfl, e'⟩; subst h'; conv => whnf)
      | refine AW.seq ?_
      | (refine AW.region ?_; conv => whnf)
      | (refine AW.skip ?_; conv => whnf)
      | (refine AW.ret ?_; conv => whnf)
      | refine AW.cond (by rfl) ?_
      | (refine AW.draw (id := 4) (.p 0 (.p 1 (.p 2 (.p 4 (.p 5 (.p 6 (.p 11 (.p 12 (.p 13 (.r 3 [18, 19, 20] (.p 18 (.r 7 [8, 9, 10, 19, 20] (.p 8 (.p 9 (.r 10 [19, 20] (.p 19 (.r 14 [15, 16, 17, 20] (.p 15 (.p 16 (.r 17 [20] (.p 20 .done))))))))))))))))))))) (by kernel_rfl) (by kernel_rfl) ?_; conv => whnf)
      | (refine Br.ff ?_; conv => whnf))
    all_goals exact ⟨rfl, s5.keeps⟩

theorem rotations_ok (t : BT) (f : Nat) (g : Nat → Option BT) (hz : t.size ≤ 8) (hf : ∀ (i : Nat) (h0 : H), i < t.size → AC env f [.str t.txt, .int .i64 (i : Int)] h0 fun w h' => w = .tup [.str (txtO (g i)).1, .bool (txtO (g i)).2] ∧ Keeps h0 h') (h0 : H) :
    AC env 59 [.str t.txt, .func f []] h0 fun w h' => ∃ b, w = .slice b 0 ((List.range t.size).filterMap g).length ((List.range t.size).filterMap g).length ∧ New h0 h' b (strs (txts ((List.range t.size).filterMap g))) := by
  have hs := St.refl h0
  have nz : sizeO (treeOf t.txt) = t.size := by rw [treeOf_txt hz]; rfl
  refine AC.enter Tryz.func59 Tryz.call59 rfl Tryz.ntmps59 (of_decide_eq_true (by rfl)) ?_
  repeat' (first
    | refine AW.seq ?_
    | (refine AW.region ?_; conv => whnf)
    | refine AW.block ?_
    | (refine NewG.st (by assumption) (fun bt h' hs' => ?_); conv => whnf))
  obtain ⟨h1, rfl⟩ : ∃ q, q = h' := ⟨_, rfl⟩
  refine AW.loop3 (fun (v b N : Nat) => [(0, .str t.txt), (1, .func f []), (5, .slice b 0 N N), (6, .int .i64 (v : Int))]) (fun v b N h' => (v ≤ t.size ∧ N = ((List.range v).filterMap g).length) ∧ St h0 h' [(b, row (strs (txts ((List.range v).filterMap g))))]) (fun v _ _ => t.size - v) 0 _ 0
    (Less.cons rfl (Less.cons rfl (Less.cons rfl (Less.cons rfl (Less.nil _))))) ⟨⟨by omega, rfl⟩, hs'⟩ ?_
  rintro v b N h2 ⟨⟨hv, hN⟩, hs2⟩
  clear hs hs'
  have nl := fm_len g v
  by_cases hlt : v < t.size
  · cases hr : g v with
    | none =>
      have e1 := fm_none hr
      repeat' (first
        | (refine (iNodesOf_ok _ _).mono ?_; rw [nz]; rintro w h' ⟨rfl, hk⟩; have hs3 := hs2.keep hk; conv => whnf)
        | (refine (hf v _ hlt).mono ?_; rw [hr]; rintro w h' ⟨rfl, hk⟩; have hs4 := hs3.keep hk; conv => whnf)
        | refine AW.seq ?_
        | (refine AW.region ?_; conv => whnf)
        | refine AW.block ?_
        | (refine AW.skip ?_; conv => whnf)
        | refine AW.cond (by rfl) ?_
        | (refine Br.ff ?_; conv => whnf)
        | (refine Br.dt (by omega) ?_; conv => whnf)
        | (refine Wr.i64 (by omega) ?_; conv => whnf))
      exact ⟨v + 1, b, N, (Less.cons rfl (Less.cons rfl (Less.cons rfl (Less.cons rfl (Less.nil _))))), ⟨⟨by omega, by rw [e1]; exact hN⟩, by rw [e1]; exact hs4⟩, by omega⟩
    | some u =>
      have e1 := fm_some hr
      repeat' (first
        | (refine (iNodesOf_ok _ _).mono ?_; rw [nz]; rintro w h' ⟨rfl, hk⟩; have hs3 := hs2.keep hk; conv => whnf)
        | (refine (hf v _ hlt).mono ?_; rw [hr]; rintro w h' ⟨rfl, hk⟩; have hs4 := hs3.keep hk; conv => whnf)
        | (refine NewG.st hs4 (fun bx h' hs5 => ?_); conv => whnf)
        | (refine LoadsG.has (St.has hs5 (.head _)) (by simp) ?_; conv => whnf)
        | (refine AppG.stS (l := txts ((List.range v).filterMap g)) hs5 (fun b' => .there .here) (by simp; omega) (by simp; omega) (by decide) (fun b' h' hs6 => ?_); conv => whnf)
        | refine AW.seq ?_
        | (refine AW.region ?_; conv => whnf)
        | refine AW.block ?_
        | (refine AW.skip ?_; conv => whnf)
        | refine AW.cond (by rfl) ?_
        | (refine Br.tt ?_; conv => whnf)
        | (refine Br.dt (by omega) ?_; conv => whnf)
        | (refine Wr.i64 (by omega) ?_; conv => whnf))
      refine ⟨v + 1, b', N + 1, (Less.cons rfl (Less.cons rfl (Less.cons rfl (Less.cons rfl (Less.nil _))))), ⟨⟨by omega, by rw [e1, List.length_append, ← hN]; rfl⟩, ?_⟩, by omega⟩
      rw [e1, txts_append]
      exact hs6.tail
  · obtain rfl : v = t.size := by omega
    repeat' (first
      | (refine (iNodesOf_ok _ _).mono ?_; rw [nz]; rintro w h' ⟨rfl, hk⟩; have hs3 := hs2.keep hk; conv => whnf)
      | refine AW.seq ?_
      | (refine AW.region ?_; conv => whnf)
      | (refine AW.ret ?_; conv => whnf)
      | (refine AW.exit ?_; conv => whnf)
      | refine AW.cond (by rfl) ?_
      | (refine Br.df (by omega) ?_; conv => whnf))
    rw [hN]
    exact ⟨b, rfl, hs3.toNew⟩
theorem iNbrs_ok (t : BT) (h0 : H) (hz : t.size ≤ 8) : AC env 13 [.str t.txt] h0 fun w h' => ∃ b, w = .slice b 0 (nbrs t).length (nbrs t).length ∧ New h0 h' b (strs (txts (nbrs t))) := by
  have hs := St.refl h0
  have l1 := fm_len (rotR t) t.size
  have l2 := fm_len (rotL t) t.size
  refine AC.enter Tryz.func13 Tryz.call13 rfl Tryz.ntmps13 (of_decide_eq_true (by rfl)) ?_
  repeat' (first
    | (refine (rotations_ok t _ (rotR t) hz (fun i h0 hi => iRotR_ok t i h0 hi hz) _).mono ?_; rintro w h1 ⟨b1, rfl, n1⟩; have s1 := hs.newCall n1; conv => whnf)
    | (refine (rotations_ok t _ (rotL t) hz (fun i h0 hi => iRotL_ok t i h0 hi hz) _).mono ?_; rintro w h2 ⟨b2, rfl, n2⟩; have s2 := s1.newCall n2; conv => whnf)
    | (refine LoadsG.has (St.has s2 (.head _)) (by simp) ?_; conv => whnf)
    | (refine AppG.stSs (l := txts ((List.range t.size).filterMap (rotR t))) (r := txts ((List.range t.size).filterMap (rotL t))) s2 (fun b' => .there .here) (by simp) (by simp; omega) (by decide) (fun b' h' s3 => ?_); conv => whnf)
    | refine AW.seq ?_
    | (refine AW.region ?_; conv => whnf)
    | (refine AW.ret ?_; conv => whnf))
  refine ⟨b', ?_, ?_⟩
  · unfold nbrs
    rw [List.length_append]
  · have := s3.tail
    rw [← txts_append] at this
    exact this.toNew

end Go.Proofs.YtbicfognbbeigaaGreat

/-
  Contracts of the reference's search by breadth and of ways of rotations are proved.
  They hold for all texts.
-/
set_option linter.unusedVariables false
set_option linter.unusedSimpArgs false
namespace Go.Proofs.YtbicfognbbeigaaGreat
open Go.Proofs.YtbicfognbbeigaaGreat.Ab Go.Proofs.YtbicfognbbeigaaGreat.Pl

/-- texts of trees by their numbers -/
def txI (n : Nat) (S : List Nat) : List (List UInt8) := txts (S.map (tr n))
@[simp] theorem txI_length (n : Nat) (S : List Nat) : (txI n S).length = S.length := by simp [txI]
theorem txI_append (n : Nat) (A B : List Nat) : txI n (A ++ B) = txI n A ++ txI n B := by simp [txI, txts]
theorem txI_get {n : Nat} {S : List Nat} {k : Nat} (h : k < S.length) : (strs (txI n S))[k]? = some (.str (tr n (S.getD k 0)).txt) := by
  unfold strs txI txts
  rw [List.getElem?_map, List.getElem?_map, List.getElem?_map, List.getElem?_eq_getElem h]
  simp only [Option.map_some, List.getD, List.getElem?_eq_getElem h, Option.getD_some]
def inC (n : Nat) (S : List Nat) : Prop := ∀ x ∈ S, x < (trs n).length
theorem inC.get {n : Nat} {S : List Nat} (h : inC n S) {k : Nat} (hk : k < S.length) : S.getD k 0 < (trs n).length := by
  have e : S.getD k 0 = S[k] := by simp only [List.getD, List.getElem?_eq_getElem hk, Option.getD_some]
  rw [e]
  exact h _ (List.getElem_mem hk)
theorem mem_txI {n : Nat} (hn : n ≤ 5) {S : List Nat} (hS : inC n S) {y : Nat} (hy : y < (trs n).length) : (tr n y).txt ∈ txI n S ↔ y ∈ S := by
  unfold txI txts
  rw [List.map_map]
  refine ⟨fun h => ?_, fun h => List.mem_map.2 ⟨y, h, rfl⟩⟩
  obtain ⟨z, hz, e⟩ := List.mem_map.1 h
  have := (tr_txt hn (hS z hz) hy).1 e
  rwa [← this]
set_option maxRecDepth 100000 in
theorem trs_small : (List.range 6).all (fun n => decide ((trs n).length ≤ 42)) = true := by decide +kernel
theorem trs_le {n : Nat} (hn : n ≤ 5) : (trs n).length ≤ 42 := of_decide_eq_true (List.all_eq_true.1 trs_small n (List.mem_range.2 (by omega)))

/-! what the search keeps -/
structure SOk (n : Nat) (s : List Nat × List Int) : Prop where
  mem : inC n s.1
  len : s.2.length = s.1.length
theorem SOk.add {n i x : Nat} {s : List Nat × List Int} (h : SOk n s) (hx : x < (trs n).length) : SOk n (addS i s x) := by
  unfold addS
  split
  · exact h
  · refine ⟨fun y hy => ?_, by simp [h.len]⟩
    rcases List.mem_append.1 hy with hy | hy
    · exact h.mem y hy
    · cases List.mem_singleton.1 hy
      exact hx
theorem SOk.fold {n i : Nat} : ∀ {l : List Nat} {s : List Nat × List Int}, SOk n s → (∀ x ∈ l, x < (trs n).length) → SOk n (l.foldl (addS i) s)
  | [], _, h, _ => h
  | x :: l, s, h, hl => by
    show SOk n (l.foldl (addS i) (addS i s x))
    exact SOk.fold (l := l) (s := addS i s x) (h.add (hl x (.head _))) fun y hy => hl y (.tail _ hy)
theorem nbI_in {n i : Nat} (hn : n ≤ 5) (hi : i < (trs n).length) : ∀ x ∈ nbI n i, x < (trs n).length := (nb_ok hn hi).lt
theorem addS_len (i : Nat) (s : List Nat × List Int) (x : Nat) : s.1.length ≤ (addS i s x).1.length := by
  unfold addS
  split <;> simp
theorem fold_lenS (i : Nat) : ∀ (l : List Nat) (s : List Nat × List Int), s.1.length ≤ (l.foldl (addS i) s).1.length
  | [], s => Nat.le_refl _
  | x :: l, s => Nat.le_trans (addS_len i s x) (fold_lenS i l _)
theorem rowTo_len (n i : Nat) (s : List Nat × List Int) (k : Nat) : s.1.length ≤ (rowTo n i s k).1.length ∧ (rowTo n i s k).1.length ≤ (rowS n i s).1.length := by
  refine ⟨fold_lenS i _ s, ?_⟩
  unfold rowTo rowS
  conv => rhs; rw [← List.take_append_drop k (nbI n (s.1.getD i 0)), List.foldl_append]
  exact fold_lenS i _ _
theorem bfs_mono (n a : Nat) : ∀ (j k : Nat), (bfs n a k).1.length ≤ (bfs n a (k + j)).1.length
  | 0, k => Nat.le_refl _
  | j + 1, k => Nat.le_trans (bfs_mono n a j k) (fold_lenS _ _ _)
structure BfsOk (n a : Nat) : Prop where
  more : ∀ k, k < (trs n).length → k < (bfs n a k).1.length
  all : (bfs n a (trs n).length).1.length = (trs n).length
  has : ∀ b, b < (trs n).length → b ∈ (bfs n a (trs n).length).1
  down : ∀ j, j < (trs n).length → (bfs n a (trs n).length).2.getD j 0 < j ∧ -1 ≤ (bfs n a (trs n).length).2.getD j 0
theorem bfs_ok {n a : Nat} (hn : n ≤ 5) (ha : a < (trs n).length) : BfsOk n a := by
  have c := List.all_eq_true.1 (List.all_eq_true.1 bfs_fine n (List.mem_range.2 (by omega))) a (List.mem_range.2 ha)
  unfold bfsOk at c
  rw [Bool.and_eq_true, Bool.and_eq_true, Bool.and_eq_true, decide_eq_true_iff] at c
  obtain ⟨c1, ⟨c2, c3⟩, c4⟩ := c
  exact ⟨fun k hk => of_decide_eq_true (List.all_eq_true.1 c1 k (List.mem_range.2 hk)), c2, fun b hb => by
    have := List.all_eq_true.1 c3 b (List.mem_range.2 hb)
    simpa using this, fun j hj => of_decide_eq_true (List.all_eq_true.1 c4 j (List.mem_range.2 hj))⟩
theorem bfs_S {n a : Nat} (hn : n ≤ 5) (ha : a < (trs n).length) : ∀ k, k ≤ (trs n).length → SOk n (bfs n a k)
  | 0, _ => ⟨fun x hx => by cases List.mem_singleton.1 hx; exact ha, rfl⟩
  | k + 1, hk => by
    have ih := bfs_S hn ha k (by omega)
    have m := (bfs_ok hn ha).more k (by omega)
    exact ih.fold (nbI_in hn (ih.mem.get m))
theorem bfs_le {n a k : Nat} (hn : n ≤ 5) (ha : a < (trs n).length) (hk : k ≤ (trs n).length) : (bfs n a k).1.length ≤ (trs n).length := by
  have := bfs_mono n a ((trs n).length - k) k
  rw [show k + ((trs n).length - k) = (trs n).length by omega, (bfs_ok hn ha).all] at this
  exact this
theorem rowTo_S {n i k : Nat} {s : List Nat × List Int} (hn : n ≤ 5) (h : SOk n s) (hi : i < s.1.length) : SOk n (rowTo n i s k) :=
  h.fold fun x hx => nbI_in hn (h.mem.get hi) x (List.mem_of_mem_take hx)

set_option maxHeartbeats 4000000 in
theorem sSearch_ok (n a : Nat) (h0 : H) (hn : n ≤ 5) (ha : a < (trs n).length) : AC env 75 [.str (tr n a).txt] h0 fun w h' => ∃ b c, w = .tup [.slice b 0 (trs n).length (trs n).length, .slice c 0 (trs n).length (trs n).length] ∧ St h0 h' [(b, row (strs (txI n (bfs n a (trs n).length).1))), (c, row (ints (bfs n a (trs n).length).2))] := by
  have hs := St.refl h0
  have bk := bfs_ok hn ha
  have c42 := trs_le hn
  refine AC.enter Tryz.func75 Tryz.call75 rfl Tryz.ntmps75 (of_decide_eq_true (by rfl)) ?_
  repeat' (first
    | (refine NewG.st (by assumption) (fun bt h' hs' => ?_); conv => whnf)
    | refine AW.seq ?_
    | (refine AW.region ?_; conv => whnf)
    | refine AW.block ?_
    | (refine NewG.st (by assumption) (fun bt h' hs' => ?_); conv => whnf))
  rename_i bs hA hsA
  obtain ⟨h1, rfl⟩ : ∃ q, q = h' := ⟨_, rfl⟩
  have hsB : St h0 h1 [(bs, row (strs (txI n (bfs n a 0).1))), (bt, row (ints (bfs n a 0).2))] := hs'.perm (.swap _ _ _)
  clear hs' hsA hs
  refine AW.loop4 (fun (i bs bf N : Nat) => [(4, .slice bs 0 N N), (5, .slice bf 0 N N), (6, .int .i64 (i : Int))]) (fun i bs bf N h' => (i ≤ (trs n).length ∧ N = (bfs n a i).1.length) ∧ St h0 h' [(bs, row (strs (txI n (bfs n a i).1))), (bf, row (ints (bfs n a i).2))]) (fun i _ _ _ => (trs n).length - i) 0 bs bt 1
    (Less.cons rfl (Less.cons rfl (Less.cons rfl (Less.nil _)))) ⟨⟨by omega, rfl⟩, hsB⟩ ?_
  clear hsB
  rintro i bs bf N h2 ⟨⟨hi, hN⟩, hs2⟩
  have le := bfs_le hn ha hi
  have sk := bfs_S hn ha i hi
  by_cases hlt : i < (trs n).length
  · have mo := bk.more i hlt
    have le2 := bfs_le hn ha (k := i + 1) (by omega)
    have e2 : (bfs n a (i + 1)) = rowS n i (bfs n a i) := rfl
    rw [e2] at le2
    obtain ⟨s, hsd⟩ : ∃ s, s = bfs n a i := ⟨_, rfl⟩
    rw [← hsd] at hN hs2 le sk mo le2 e2
    have xC := sk.mem.get mo
    have nk := nb_ok hn xC
    obtain ⟨x, hx⟩ : ∃ x, x = s.1.getD i 0 := ⟨_, rfl⟩
    rw [← hx] at xC nk
    have nl : (nbrs (tr n x)).length = (nbI n x).length := by rw [nk.nb, List.length_map]
    have nt : txts (nbrs (tr n x)) = txI n (nbI n x) := by rw [nk.nb]; rfl
    have nb10 := nbrs_len (tr n x)
    have nsz := nk.size
    repeat' (first
      | (refine Has.loadAt (v := .str (tr n x).txt) (St.has hs2 (.head _)) rfl (by rw [hx]; exact txI_get mo) ?_; conv => whnf)
      | (refine (sNbrs_ok (tr n x) _ (by omega)).mono ?_; rw [nl, nt]; rintro w h3 ⟨bn, rfl, hnn⟩; have hs3 := hs2.newCall hnn; conv => whnf)
      | refine AW.seq ?_
      | (refine AW.region ?_; conv => whnf)
      | refine AW.block ?_
      | (refine AW.skip ?_; conv => whnf)
      | refine AW.cond (by rfl) ?_
      | (refine Br.dt (by omega) ?_; conv => whnf)
      | (refine Ck.mk (by omega) ?_; conv => whnf))
    clear hs2 hnn
    have e0 : rowTo n i s 0 = s := rfl
    refine AW.loop4 (fun (k bs bf N : Nat) => [(4, .slice bs 0 N N), (5, .slice bf 0 N N), (6, .int .i64 (i : Int)), (7, .slice bn 0 (nbI n x).length (nbI n x).length), (8, .int .i64 (k : Int))]) (fun k bs bf N h' => (k ≤ (nbI n x).length ∧ N = (rowTo n i s k).1.length) ∧ St h0 h' [(bn, row (strs (txI n (nbI n x)))), (bs, row (strs (txI n (rowTo n i s k).1))), (bf, row (ints (rowTo n i s k).2))]) (fun k _ _ _ => (nbI n x).length - k) 0 bs bf N
      (Less.cons rfl (Less.cons rfl (Less.cons rfl (Less.cons rfl (Less.cons rfl (Less.nil _)))))) ⟨⟨by omega, hN⟩, hs3⟩ ?_
    clear hs3 hN
    rintro k bs bf N h4 ⟨⟨hk, hN⟩, hs4⟩
    have rl := rowTo_len n i s k
    have rS := rowTo_S (k := k) hn sk mo
    by_cases hlt2 : k < (nbI n x).length
    · obtain ⟨y, hy⟩ : ∃ y, y = (nbI n x).getD k 0 := ⟨_, rfl⟩
      have yC : y < (trs n).length := by
        rw [hy]
        exact inC.get (S := nbI n x) (fun z hz => nk.lt z hz) hlt2
      have e1 : rowTo n i s (k + 1) = addS i (rowTo n i s k) y := by
        have := rowTo_succ (n := n) (i := i) (s := s) (k := k) (by rw [← hx]; exact hlt2)
        rw [this, ← hx, hy]
      have mm := mem_txI hn rS.mem yC
      have hl : ((rowTo n i s k).1.map (tr n)).length = (rowTo n i s k).1.length := List.length_map _
      by_cases hit : y ∈ (rowTo n i s k).1
      · have hd : decide ((tr n y).txt ∈ txts ((rowTo n i s k).1.map (tr n))) = true := decide_eq_true (mm.2 hit)
        have e3 : addS i (rowTo n i s k) y = rowTo n i s k := if_pos hit
        repeat' (first
          | (refine Has.loadAt (v := .str (tr n y).txt) (St.has hs4 (.head _)) rfl (by rw [hy]; exact txI_get hlt2) ?_; conv => whnf)
          | (refine (l15Has_ok ((rowTo n i s k).1.map (tr n)) (tr n y) _ _ _ _ (St.has hs4 (.tail _ (.head _))) (by omega) (by omega)).mono ?_; rw [hd]; rintro w h' ⟨rfl, e'⟩; subst h'; conv => whnf)
          | refine AW.seq ?_
          | (refine AW.region ?_; conv => whnf)
          | refine AW.block ?_
          | (refine AW.skip ?_; conv => whnf)
          | refine AW.cond (by rfl) ?_
          | (refine Br.ff ?_; conv => whnf)
          | (refine Br.dt (by omega) ?_; conv => whnf)
          | (refine Wr.i64 (by omega) ?_; conv => whnf)
          | (refine Ck.mk (by omega) ?_; conv => whnf))
        exact ⟨k + 1, bs, bf, N, (Less.cons rfl (Less.cons rfl (Less.cons rfl (Less.cons rfl (Less.cons rfl (Less.nil _)))))), ⟨⟨by omega, by rw [e1, e3]; exact hN⟩, by rw [e1, e3]; exact hs4⟩, by omega⟩
      · have hd : decide ((tr n y).txt ∈ txts ((rowTo n i s k).1.map (tr n))) = false := decide_eq_false fun h => hit (mm.1 h)
        have e3 : addS i (rowTo n i s k) y = ((rowTo n i s k).1 ++ [y], (rowTo n i s k).2 ++ [(i : Int)]) := if_neg hit
        have t1 : txI n ((rowTo n i s k).1 ++ [y]) = txI n (rowTo n i s k).1 ++ [(tr n y).txt] := txI_append n _ _
        have rl2 := rS.len
        repeat' (first
          | (refine Has.loadAt (v := .str (tr n y).txt) (St.has (by assumption) (by repeat first | exact .head _ | apply List.Mem.tail)) rfl (by rw [hy]; exact txI_get hlt2) ?_; conv => whnf)
          | (refine (l15Has_ok ((rowTo n i s k).1.map (tr n)) (tr n y) _ _ _ _ (St.has hs4 (.tail _ (.head _))) (by omega) (by omega)).mono ?_; rw [hd]; rintro w h' ⟨rfl, e'⟩; subst h'; conv => whnf)
          | (refine NewG.st (by assumption) (fun bq h' hs' => ?_); conv => whnf)
          | (refine LoadsG.has (St.has (by assumption) (.head _)) (by simp) ?_; conv => whnf)
          | (refine AppG.stS (l := txI n (rowTo n i s k).1) (y := (tr n y).txt) (by assumption) (fun b' => .there (.there .here)) (by simp; omega) (by simp; omega) (by decide) (fun bs' h' hs' => ?_); have hs5 := hs'.tail; clear hs'; conv => whnf)
          | (refine AppG.stZ (l := (rowTo n i s k).2) (y := (i : Int)) (by assumption) (fun b' => .there (.there (.there .here))) (by omega) (by omega) (by decide) (fun bf' h' hs' => ?_); have hs6 := hs'.tail; clear hs'; conv => whnf)
          | refine AW.seq ?_
          | (refine AW.region ?_; conv => whnf)
          | refine AW.block ?_
          | (refine AW.skip ?_; conv => whnf)
          | refine AW.cond (by rfl) ?_
          | (refine Br.tt ?_; conv => whnf)
          | (refine Br.dt (by omega) ?_; conv => whnf)
          | (refine Wr.i64 (by omega) ?_; conv => whnf)
          | (refine Ck.mk (by omega) ?_; conv => whnf))
        exact ⟨k + 1, bs', bf', N + 1, (Less.cons rfl (Less.cons rfl (Less.cons rfl (Less.cons rfl (Less.cons rfl (Less.nil _)))))), ⟨⟨by omega, by rw [e1, e3, hN]; simp⟩, by rw [e1, e3, t1]; exact hs6⟩, by omega⟩
    · obtain rfl : k = (nbI n x).length := by omega
      have e1 : rowTo n i s (nbI n x).length = rowS n i s := by rw [hx]; exact rowTo_all n i s
      rw [e1] at hN hs4
      repeat' (first
        | refine AW.seq ?_
        | (refine AW.region ?_; conv => whnf)
        | (refine AW.exit ?_; conv => whnf)
        | refine AW.cond (by rfl) ?_
        | (refine Br.df (by omega) ?_; conv => whnf)
        | (refine Wr.i64 (by omega) ?_; conv => whnf))
      exact ⟨i + 1, bs, bf, N, (Less.cons rfl (Less.cons rfl (Less.cons rfl (Less.nil _)))), ⟨⟨by omega, by rw [e2]; exact hN⟩, by rw [e2]; exact hs4.tail⟩, by omega⟩
  · obtain rfl : i = (trs n).length := by omega
    rw [bk.all] at hN
    subst hN
    repeat' (first
      | refine AW.seq ?_
      | (refine AW.region ?_; conv => whnf)
      | (refine AW.ret ?_; conv => whnf)
      | (refine AW.exit ?_; conv => whnf)
      | refine AW.cond (by rfl) ?_
      | (refine Br.df (by omega) ?_; conv => whnf))
    exact ⟨bs, bf, rfl, hs2⟩

end Go.Proofs.YtbicfognbbeigaaGreat
