/-
  Contracts of rotations to the left and of all neighbours of a tree, by the reference, are proved.
  They hold for all trees of at most eight nodes.
-/
import Derived.Test.YthadkebcjlpkhaaC89
set_option linter.unusedVariables false
set_option linter.unusedSimpArgs false
namespace Go.Proofs.Ythadkebcjlpkhaa
open Go.Proofs.Ythadkebcjlpkhaa.Ab Go.Proofs.Ythadkebcjlpkhaa.Pl

set_option maxHeartbeats 1000000 in
theorem sRotL_ok (t : BT) (v : Nat) (h0 : H) (hv : v < t.size) (hz : t.size ≤ 8) : AC env 46 [.str t.txt, .int .i64 (v : Int)] h0 fun w h' => w = .tup [.str (txtO (rotL t v)).1, .bool (txtO (rotL t v)).2] ∧ h' = h0 := by
  have nz : sizeO (treeOf t.txt) = t.size := by rw [treeOf_txt hz]; rfl
  obtain ⟨x, y, en, zn⟩ := nodeB_node t v hv
  have nd := fun h0 => l16Node_ok t t.txt v v h0 rfl rfl hv (by omega)
  have ez : (BT.node x y).size = x.size + y.size + 1 := rfl
  rw [en] at nd
  obtain ⟨T, hT⟩ : ∃ T, T = (BT.node x y).txt := ⟨_, rfl⟩
  rw [← hT] at nd
  obtain ⟨tl, p1, p2, p3⟩ := txt_parts hT
  have lx := x.txt_length
  have ly := y.txt_length
  obtain ⟨q1, q2⟩ := txt_cut hT
  have l1 : (T.take ((1 + x.txt.length : Nat) : Int).toNat).length = 1 + x.txt.length := by rw [List.length_take]; omega
  have e1 := fun h0 => end1_ok hT (by omega) h0
  cases y with
  | leaf =>
    have er : rotL t v = none := by unfold rotL; rw [en]; cases x <;> rfl
    have q3 : (BT.leaf.txt == [46]) = true := rfl
    rw [er]
    refine AC.enter Try.func46 Try.call46 rfl Try.ntmps46 (of_decide_eq_true (by rfl)) ?_
    repeat' (first
      | (refine (sNodesOf_ok _ _).mono ?_; rw [nz]; rintro w h' ⟨rfl, e'⟩; subst h'; conv => whnf)
      | (refine (nd _).mono ?_; rintro w h' ⟨rfl, e'⟩; subst h'; conv => whnf)
      | (refine (e1 _).mono ?_; rintro w h' ⟨rfl, e'⟩; subst h'; conv => whnf)
      | (rw [q2]; conv => whnf)
      | (refine Br.t q3 ?_; conv => whnf)
      | refine AW.seq ?_
      | (refine AW.region ?_; conv => whnf)
      | (refine AW.skip ?_; conv => whnf)
      | (refine AW.ret ?_; conv => whnf)
      | refine AW.cond (by rfl) ?_
      | (refine (l1In_ok _ _ _ _).mono ?_; rintro v h' ⟨rfl, e'⟩; subst h'; conv => whnf)
      | refine Br.not ?_
      | (refine Br.dt (by omega) ?_; conv => whnf)
      | (refine Wr.i64 (by omega) ?_; conv => whnf)
      | (refine Ck.mk (by omega) ?_; conv => whnf))
    all_goals exact ⟨rfl, rfl⟩
  | node a b =>
    have ezy : (BT.node a b).size = a.size + b.size + 1 := rfl
    have er : rotL t v = some (replB t v (.node (.node x a) b)) := by unfold rotL; rw [en]; cases x <;> rfl
    rw [er]
    obtain ⟨X, hX⟩ : ∃ X, X = (BT.node a b).txt := ⟨_, rfl⟩
    have xl : X.length = (BT.node a b).txt.length := by rw [hX]
    rw [← hX] at q2
    obtain ⟨tl2, p12, p22, p32⟩ := txt_parts hX
    have la := a.txt_length
    have lb := b.txt_length
    obtain ⟨q3, q4⟩ := txt_cut hX
    have e2 := fun h0 => end1_ok hX (by omega) h0
    have ne := txt_ne hX
    have l2 : (X.take ((1 + a.txt.length : Nat) : Int).toNat).length = 1 + a.txt.length := by rw [List.length_take]; omega
    have ey : (BT.node (.node x a) b).size ≤ 1000 := by simp only [BT.size]; omega
    have ew : [40, 40] ++ x.txt ++ a.txt ++ [41] ++ b.txt ++ [41] = (BT.node (.node x a) b).txt := by simp [BT.txt]
    have rp := fun h0 => l16Replace_ok (.node (.node x a) b) t t.txt v v h0 rfl rfl hv (by omega) ey
    rw [← ew] at rp
    refine AC.enter Try.func46 Try.call46 rfl Try.ntmps46 (of_decide_eq_true (by rfl)) ?_
    repeat' (first
      | (refine (sNodesOf_ok _ _).mono ?_; rw [nz]; rintro w h' ⟨rfl, e'⟩; subst h'; conv => whnf)
      | (refine (nd _).mono ?_; rintro w h' ⟨rfl, e'⟩; subst h'; conv => whnf)
      | (refine (e1 _).mono ?_; rintro w h' ⟨rfl, e'⟩; subst h'; conv => whnf)
      | (refine (e2 _).mono ?_; rintro w h' ⟨rfl, e'⟩; subst h'; conv => whnf)
      | (refine (rp _).mono ?_; rintro w h' ⟨rfl, e'⟩; subst h'; conv => whnf)
      | (rw [q1]; conv => whnf)
      | (rw [q2]; conv => whnf)
      | (rw [q3]; conv => whnf)
      | (rw [q4]; conv => whnf)
      | (refine Br.f ne ?_; conv => whnf)
      | refine AW.seq ?_
      | (refine AW.region ?_; conv => whnf)
      | (refine AW.skip ?_; conv => whnf)
      | (refine AW.ret ?_; conv => whnf)
      | refine AW.cond (by rfl) ?_
      | (refine AW.draw (id := 9) (.p 0 (.p 1 (.p 2 (.p 3 (.p 4 (.p 5 (.p 6 (.p 7 (.p 8 (.p 9 (.p 10 (.p 11 (.p 12 (.p 13 (.p 14 (.p 15 (.p 16 (.p 17 .done)))))))))))))))))) (by kernel_rfl) (by kernel_rfl) ?_; conv => whnf)
      | (refine (l1In_ok _ _ _ _).mono ?_; rintro v h' ⟨rfl, e'⟩; subst h'; conv => whnf)
      | refine Br.not ?_
      | (refine Br.dt (by omega) ?_; conv => whnf)
      | (refine Wr.i64 (by omega) ?_; conv => whnf)
      | (refine Ck.mk (by omega) ?_; conv => whnf)
      | (refine Ck.mk (by simp only [List.length_drop, List.length_take, List.length_append, List.length_cons, List.length_nil]; omega) ?_; conv => whnf))
    all_goals exact ⟨rfl, rfl⟩

/-- texts of trees -/
def txts (l : List BT) : List (List UInt8) := l.map BT.txt
theorem txts_append (a b : List BT) : txts (a ++ b) = txts a ++ txts b := List.map_append
@[simp] theorem txts_length (l : List BT) : (txts l).length = l.length := List.length_map _
theorem fm_some {f : Nat → Option BT} {v : Nat} {u : BT} (h : f v = some u) : (List.range (v + 1)).filterMap f = (List.range v).filterMap f ++ [u] := by
  rw [List.range_succ, List.filterMap_append]
  simp [h]
theorem fm_none {f : Nat → Option BT} {v : Nat} (h : f v = none) : (List.range (v + 1)).filterMap f = (List.range v).filterMap f := by
  rw [List.range_succ, List.filterMap_append]
  simp [h]
theorem fm_len (f : Nat → Option BT) (v : Nat) : ((List.range v).filterMap f).length ≤ v := by
  have := List.length_filterMap_le f (List.range v)
  rwa [List.length_range] at this
set_option maxHeartbeats 2000000 in
theorem sNbrs_ok (t : BT) (h0 : H) (hz : t.size ≤ 8) : AC env 38 [.str t.txt] h0 fun w h' => ∃ b, w = .slice b 0 (nbrs t).length (nbrs t).length ∧ New h0 h' b (strs (txts (nbrs t))) := by
  have hs := St.refl h0
  have nz : sizeO (treeOf t.txt) = t.size := by rw [treeOf_txt hz]; rfl
  refine AC.enter Try.func38 Try.call38 rfl Try.ntmps38 (of_decide_eq_true (by rfl)) ?_
  repeat' (first
    | refine AW.seq ?_
    | (refine AW.region ?_; conv => whnf)
    | refine AW.block ?_
    | (refine NewG.st (by assumption) (fun bt h' hs' => ?_); conv => whnf))
  obtain ⟨h1, rfl⟩ : ∃ q, q = h' := ⟨_, rfl⟩
  refine AW.loop3 (fun (v b N : Nat) => [(0, .str t.txt), (3, .slice b 0 N N), (4, .int .i64 (v : Int))]) (fun v b N h' => (v ≤ t.size ∧ N = ((List.range v).filterMap (rotR t)).length) ∧ St h0 h' [(b, row (strs (txts ((List.range v).filterMap (rotR t)))))]) (fun v _ _ => t.size - v) 0 _ 0
    (Less.cons rfl (Less.cons rfl (Less.cons rfl (Less.nil _)))) ⟨⟨by omega, rfl⟩, hs'⟩ ?_
  rintro v b N h2 ⟨⟨hv, hN⟩, hs2⟩
  clear hs hs'
  have nl := fm_len (rotR t) v
  by_cases hlt : v < t.size
  · cases hr : rotR t v with
    | none =>
      have e1 := fm_none hr
      repeat' (first
        | (refine (sNodesOf_ok _ _).mono ?_; rw [nz]; rintro w h' ⟨rfl, e'⟩; subst h'; conv => whnf)
        | (refine (sRotR_ok t v _ hlt hz).mono ?_; rw [hr]; rintro w h' ⟨rfl, e'⟩; subst h'; conv => whnf)
        | refine AW.seq ?_
        | (refine AW.region ?_; conv => whnf)
        | refine AW.block ?_
        | (refine AW.skip ?_; conv => whnf)
        | refine AW.cond (by rfl) ?_
        | (refine Br.ff ?_; conv => whnf)
        | (refine Br.dt (by omega) ?_; conv => whnf)
        | (refine Wr.i64 (by omega) ?_; conv => whnf))
      exact ⟨v + 1, b, N, (Less.cons rfl (Less.cons rfl (Less.cons rfl (Less.nil _)))), ⟨⟨by omega, by rw [e1]; exact hN⟩, by rw [e1]; exact hs2⟩, by omega⟩
    | some u =>
      have e1 := fm_some hr
      repeat' (first
        | (refine (sNodesOf_ok _ _).mono ?_; rw [nz]; rintro w h' ⟨rfl, e'⟩; subst h'; conv => whnf)
        | (refine (sRotR_ok t v _ hlt hz).mono ?_; rw [hr]; rintro w h' ⟨rfl, e'⟩; subst h'; conv => whnf)
        | (refine NewG.st hs2 (fun bx h' hs3 => ?_); conv => whnf)
        | (refine LoadsG.has (St.has (by assumption) (.head _)) (by simp) ?_; conv => whnf)
        | (refine AppG.stS (l := txts ((List.range v).filterMap (rotR t))) (by assumption) (fun b' => .there .here) (by simp; omega) (by simp; omega) (by decide) (fun b' h' hs4 => ?_); conv => whnf)
        | refine AW.seq ?_
        | (refine AW.region ?_; conv => whnf)
        | refine AW.block ?_
        | (refine AW.skip ?_; conv => whnf)
        | refine AW.cond (by rfl) ?_
        | (refine Br.tt ?_; conv => whnf)
        | (refine Br.dt (by omega) ?_; conv => whnf)
        | (refine Wr.i64 (by omega) ?_; conv => whnf))
      refine ⟨v + 1, b', N + 1, (Less.cons rfl (Less.cons rfl (Less.cons rfl (Less.nil _)))), ⟨⟨by omega, by rw [e1, List.length_append, ← hN]; rfl⟩, ?_⟩, by omega⟩
      rw [e1, txts_append]
      exact hs4.tail
  · obtain rfl : v = t.size := by omega
    repeat' (first
      | (refine (sNodesOf_ok _ _).mono ?_; rw [nz]; rintro w h' ⟨rfl, e'⟩; subst h'; conv => whnf)
      | refine AW.seq ?_
      | (refine AW.region ?_; conv => whnf)
      | refine AW.block ?_
      | (refine AW.exit ?_; conv => whnf)
      | refine AW.cond (by rfl) ?_
      | (refine Br.df (by omega) ?_; conv => whnf))
    obtain ⟨A, hA⟩ : ∃ A, A = (List.range t.size).filterMap (rotR t) := ⟨_, rfl⟩
    rw [← hA] at hs2 hN nl
    refine AW.loop3 (fun (v b N : Nat) => [(0, .str t.txt), (3, .slice b 0 N N), (7, .int .i64 (v : Int))]) (fun v b N h' => (v ≤ t.size ∧ N = A.length + ((List.range v).filterMap (rotL t)).length) ∧ St h0 h' [(b, row (strs (txts (A ++ (List.range v).filterMap (rotL t)))))]) (fun v _ _ => t.size - v) 0 b N
      (Less.cons rfl (Less.cons rfl (Less.cons rfl (Less.nil _)))) ⟨⟨by omega, hN⟩, by rw [List.range_zero, List.filterMap_nil, List.append_nil]; exact hs2⟩ ?_
    clear hs2 hv hlt hN
    rintro v b N h2 ⟨⟨hv, hN⟩, hs2⟩
    have nl2 := fm_len (rotL t) v
    by_cases hlt : v < t.size
    · cases hr : rotL t v with
      | none =>
        have e1 := fm_none hr
        repeat' (first
          | (refine (sNodesOf_ok _ _).mono ?_; rw [nz]; rintro w h' ⟨rfl, e'⟩; subst h'; conv => whnf)
          | (refine (sRotL_ok t v _ hlt hz).mono ?_; rw [hr]; rintro w h' ⟨rfl, e'⟩; subst h'; conv => whnf)
          | refine AW.seq ?_
          | (refine AW.region ?_; conv => whnf)
          | refine AW.block ?_
          | (refine AW.skip ?_; conv => whnf)
          | refine AW.cond (by rfl) ?_
          | (refine Br.ff ?_; conv => whnf)
          | (refine Br.dt (by omega) ?_; conv => whnf)
          | (refine Wr.i64 (by omega) ?_; conv => whnf))
        exact ⟨v + 1, b, N, (Less.cons rfl (Less.cons rfl (Less.cons rfl (Less.nil _)))), ⟨⟨by omega, by rw [e1]; exact hN⟩, by rw [e1]; exact hs2⟩, by omega⟩
      | some u =>
        have e1 := fm_some hr
        repeat' (first
          | (refine (sNodesOf_ok _ _).mono ?_; rw [nz]; rintro w h' ⟨rfl, e'⟩; subst h'; conv => whnf)
          | (refine (sRotL_ok t v _ hlt hz).mono ?_; rw [hr]; rintro w h' ⟨rfl, e'⟩; subst h'; conv => whnf)
          | (refine NewG.st hs2 (fun bx h' hs3 => ?_); conv => whnf)
          | (refine LoadsG.has (St.has (by assumption) (.head _)) (by simp) ?_; conv => whnf)
          | (refine AppG.stS (l := txts (A ++ (List.range v).filterMap (rotL t))) (by assumption) (fun b' => .there .here) (by simp; omega) (by simp; omega) (by decide) (fun b' h' hs4 => ?_); conv => whnf)
          | refine AW.seq ?_
          | (refine AW.region ?_; conv => whnf)
          | refine AW.block ?_
          | (refine AW.skip ?_; conv => whnf)
          | refine AW.cond (by rfl) ?_
          | (refine Br.tt ?_; conv => whnf)
          | (refine Br.dt (by omega) ?_; conv => whnf)
          | (refine Wr.i64 (by omega) ?_; conv => whnf))
        refine ⟨v + 1, b', N + 1, (Less.cons rfl (Less.cons rfl (Less.cons rfl (Less.nil _)))), ⟨⟨by omega, by rw [e1, List.length_append, hN]; simp only [List.length_cons, List.length_nil]; omega⟩, ?_⟩, by omega⟩
        rw [e1, ← List.append_assoc, txts_append]
        exact hs4.tail
    · obtain rfl : v = t.size := by omega
      have en : A.length + ((List.range t.size).filterMap (rotL t)).length = (nbrs t).length := by rw [hA]; exact List.length_append.symm
      have ea : A ++ (List.range t.size).filterMap (rotL t) = nbrs t := by rw [hA]; rfl
      repeat' (first
        | (refine (sNodesOf_ok _ _).mono ?_; rw [nz]; rintro w h' ⟨rfl, e'⟩; subst h'; conv => whnf)
        | refine AW.seq ?_
        | (refine AW.region ?_; conv => whnf)
        | (refine AW.ret ?_; conv => whnf)
        | (refine AW.exit ?_; conv => whnf)
        | refine AW.cond (by rfl) ?_
        | (refine Br.df (by omega) ?_; conv => whnf))
      rw [ea] at hs2
      rw [hN, en]
      exact ⟨b, rfl, hs2.toNew⟩
theorem l15Has_ok (l : List BT) (u : BT) (b N C : Nat) (h0 : H) (hb : Has h0 b (strs (txts l))) (hN : N = l.length) (hl : N ≤ 100000) : AC env 39 [.slice b 0 N C, .str u.txt] h0 fun w h' => w = .bool (decide (u.txt ∈ txts l)) ∧ h' = h0 := by
  refine AC.enter Try.func39 Try.call39 rfl Try.ntmps39 (of_decide_eq_true (by rfl)) ?_
  repeat' (first
    | refine AW.seq ?_
    | (refine AW.region ?_; conv => whnf)
    | refine AW.block ?_)
  refine AW.loop1 (fun (k : Nat) => [(0, .slice b 0 N C), (1, .str u.txt), (5, .int .i64 (k : Int))]) (fun k h' => (k ≤ N ∧ ∀ j, j < k → (txts l).getD j [] ≠ u.txt) ∧ h' = h0) (fun k => N - k) 0 (Less.cons rfl (Less.cons rfl (Less.cons rfl (Less.nil _)))) ⟨⟨by omega, fun j hj => by omega⟩, rfl⟩ ?_
  rintro k h' ⟨⟨hk, he⟩, rfl⟩
  by_cases hlt : k < N
  · have ek : ((k : Nat) : Int).toNat = k := Int.toNat_natCast k
    by_cases hit : (txts l).getD k [] = u.txt
    · have hq : ((txts l).getD ((k : Nat) : Int).toNat [] == u.txt) = true := by rw [ek, hit]; exact beq_self_eq_true _
      repeat' (first
        | (refine Has.loadS hb rfl (by simp; omega) ?_; conv => whnf)
        | (refine Br.t hq ?_; conv => whnf)
        | refine AW.seq ?_
        | (refine AW.region ?_; conv => whnf)
        | refine AW.block ?_
        | (refine AW.skip ?_; conv => whnf)
        | (refine AW.ret ?_; conv => whnf)
        | refine AW.cond (by rfl) ?_
        | (refine Br.dt (by omega) ?_; conv => whnf)
        | (refine Ck.mk (by omega) ?_; conv => whnf))
      refine ⟨?_, rfl⟩
      have hm : u.txt ∈ txts l := by
        rw [← hit]
        have hk2 : k < (txts l).length := by simp; omega
        rw [show (txts l).getD k [] = (txts l)[k] by simp only [List.getD, List.getElem?_eq_getElem hk2, Option.getD_some]]
        exact List.getElem_mem hk2
      rw [decide_eq_true hm]
    · have hq : ((txts l).getD ((k : Nat) : Int).toNat [] == u.txt) = false := by rw [ek]; exact beq_eq_false_iff_ne.2 hit
      repeat' (first
        | (refine Has.loadS hb rfl (by simp; omega) ?_; conv => whnf)
        | (refine Br.f hq ?_; conv => whnf)
        | refine AW.seq ?_
        | (refine AW.region ?_; conv => whnf)
        | refine AW.block ?_
        | (refine AW.skip ?_; conv => whnf)
        | refine AW.cond (by rfl) ?_
        | (refine Br.dt (by omega) ?_; conv => whnf)
        | (refine Wr.i64 (by omega) ?_; conv => whnf)
        | (refine Ck.mk (by omega) ?_; conv => whnf))
      refine ⟨k + 1, (Less.cons rfl (Less.cons rfl (Less.cons rfl (Less.nil _)))), ⟨⟨by omega, fun j hj => ?_⟩, rfl⟩, by omega⟩
      by_cases c : j = k
      · rw [c]; exact hit
      · exact he j (by omega)
  · obtain rfl : k = N := by omega
    repeat' (first
      | refine AW.seq ?_
      | (refine AW.region ?_; conv => whnf)
      | (refine AW.ret ?_; conv => whnf)
      | (refine AW.exit ?_; conv => whnf)
      | refine AW.cond (by rfl) ?_
      | (refine Br.df (by omega) ?_; conv => whnf))
    refine ⟨?_, rfl⟩
    have hm : u.txt ∉ txts l := fun hm => by
      obtain ⟨j, hj, e⟩ := List.getElem_of_mem hm
      refine he j (by simp at hj; omega) ?_
      rw [← e]
      simp only [List.getD, List.getElem?_eq_getElem hj, Option.getD_some]
    rw [decide_eq_false hm]

end Go.Proofs.Ythadkebcjlpkhaa

/-
  Contracts of trees of one's own in memory, of their texts and of a node with a number are proved.
  They hold for all trees of at most a thousand nodes.
-/
set_option linter.unusedVariables false
set_option linter.unusedSimpArgs false
namespace Go.Proofs.Ythadkebcjlpkhaa
open Go.Proofs.Ythadkebcjlpkhaa.Ab Go.Proofs.Ythadkebcjlpkhaa.Pl

/-- a tree in memory, each node a block of its own -/
inductive TreeL : List (Nat × Blk) → AV → BT → Prop where
  | leaf : TreeL [] .nilptr .leaf
  | node {b : Nat} {x y : AV} {l r : BT} {A B : List (Nat × Blk)} (hl : TreeL A x l) (hr : TreeL B y r) : TreeL ((b, .cells true 2 [x, y]) :: (A ++ B)) (.ptr b 0) (.node l r)
theorem TreeL.form {L : List (Nat × Blk)} {v : AV} {t : BT} (m : TreeL L v t) : (v = .nilptr ∧ t = .leaf) ∨ ∃ b, v = .ptr b 0 := by
  cases m with
  | leaf => exact .inl ⟨rfl, rfl⟩
  | node _ _ => exact .inr ⟨_, rfl⟩
theorem TreeL.inn {L : List (Nat × Blk)} {v : AV} {t : BT} {h : H} (m : TreeL L v t) (hl : ∀ p ∈ L, h p.1 = some p.2) : TreeIn h v t := by
  induction m with
  | leaf => exact .leaf
  | node _ _ ih1 ih2 => exact .node ⟨true, 2, hl _ (.head _)⟩ (ih1 fun p hp => hl p (.tail _ (List.mem_append_left _ hp))) (ih2 fun p hp => hl p (.tail _ (List.mem_append_right _ hp)))
theorem St.trees {h0 h : H} {L M : List (Nat × Blk)} {v : AV} {t : BT} (s : St h0 h L) (m : TreeL M v t) (hm : ∀ p ∈ M, p ∈ L) : TreeIn h v t := m.inn fun p hp => s.is p (hm p hp)

/-- what reading a tree gives: blocks of one's own -/
def RdOwn (s : List UInt8) (o : Option (BT × List UInt8)) (h0 : H) (w : AV) (h' : H) : Prop := match o with
  | none => w = .tup [.nilptr, .int .i64 (-1)] ∧ Keeps h0 h'
  | some p => ∃ v L, w = .tup [v, .int .i64 (s.length - p.2.length : Nat)] ∧ TreeL L v p.1 ∧ St h0 h' L
theorem RdOwn.none {s : List UInt8} {h0 h' : H} {w : AV} (r : RdOwn s none h0 w h') : w = .tup [.nilptr, .int .i64 (-1)] ∧ Keeps h0 h' := r
theorem RdOwn.some {s : List UInt8} {h0 h' : H} {w : AV} {p : Nat} {t : BT} (hp : p ≤ s.length) (r : RdOwn s (some (t, s.drop p)) h0 w h') : ∃ v L, w = .tup [v, .int .i64 (p : Nat)] ∧ TreeL L v t ∧ St h0 h' L := by
  obtain ⟨v, L, e, m, k⟩ := r
  refine ⟨v, L, ?_, m, k⟩
  rw [e]
  simp only [List.length_drop]
  rw [show s.length - (s.length - p) = p by omega]
theorem RdOwn.mkNone {s : List UInt8} {h0 h' : H} {o : Option (BT × List UInt8)} (e : o = .none) (k : Keeps h0 h') : RdOwn s o h0 (.tup [.nilptr, .int .i64 (-1)]) h' := by
  subst e
  exact ⟨rfl, k⟩
theorem RdOwn.mkSome {s : List UInt8} {h0 h' : H} {o : Option (BT × List UInt8)} {p : Nat} {i : Int} {t : BT} {v : AV} {L : List (Nat × Blk)} (e : o = .some (t, s.drop p)) (hp : p ≤ s.length) (hi : i = p) (m : TreeL L v t) (k : St h0 h' L) : RdOwn s o h0 (.tup [v, .int .i64 i]) h' := by
  subst e hi
  refine ⟨v, L, ?_, m, k⟩
  simp only [List.length_drop]
  rw [show s.length - (s.length - p) = p by omega]





end Go.Proofs.Ythadkebcjlpkhaa
