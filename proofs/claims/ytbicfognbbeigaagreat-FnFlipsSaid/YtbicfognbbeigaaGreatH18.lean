/-
  Contracts of rotations to the left and of all neighbours of a tree, by the reference, are proved.
  They hold for all trees of at most eight nodes.
-/
import Derived.Test.YtbicfognbbeigaaGreatC89
import Derived.Test.YtbicfognbbeigaaGreatC84
set_option linter.unusedVariables false
set_option linter.unusedSimpArgs false
namespace Go.Proofs.YtbicfognbbeigaaGreat
open Go.Proofs.YtbicfognbbeigaaGreat.Ab Go.Proofs.YtbicfognbbeigaaGreat.Pl

set_option maxHeartbeats 1000000 in
theorem sRotL_ok (t : BT) (v : Nat) (h0 : H) (hv : v < t.size) (hz : t.size ≤ 8) : AC env 114 [.str t.txt, .int .i64 (v : Int)] h0 fun w h' => w = .tup [.str (txtO (rotL t v)).1, .bool (txtO (rotL t v)).2] ∧ h' = h0 := by
  have nz : sizeO (treeOf t.txt) = t.size := by rw [treeOf_txt hz]; rfl
  obtain ⟨x, y, en, zn⟩ := nodeB_node t v hv
  have nd := fun h0 => l16Node_ok t t.txt v v h0 rfl rfl hv (by omega)
  have ez : (BT.node x y).size = x.size + y.size + 1 := rfl
  rw [en] at nd
  obtain ⟨T, hT⟩ : ∃ T, T = (BT.node x y).txt := ⟨_, rfl⟩
  rw [← hT] at nd
  obtain ⟨tl, p1, p2, p3⟩ := txt_parts hT
  have lx := x.txt_length
  have ly := y.txt_length
  obtain ⟨q1, q2⟩ := txt_cut hT
  have l1 : (T.take ((1 + x.txt.length : Nat) : Int).toNat).length = 1 + x.txt.length := by rw [List.length_take]; omega
  have e1 := fun h0 => end1_ok hT (by omega) h0
  cases y with
  | leaf =>
    have er : rotL t v = none := by unfold rotL; rw [en]; cases x <;> rfl
    have q3 : (BT.leaf.txt == [46]) = true := rfl
    rw [er]
    refine AC.enter Tryz.func114 Tryz.call114 rfl Tryz.ntmps114 (of_decide_eq_true (by rfl)) ?_
    repeat' (first
      | (refine (sNodesOf_ok _ _).mono ?_; rw [nz]; rintro w h' ⟨rfl, e'⟩; subst h'; conv => whnf)
      | (refine (nd _).mono ?_; rintro w h' ⟨rfl, e'⟩; subst h'; conv => whnf)
      | (refine (e1 _).mono ?_; rintro w h' ⟨rfl, e'⟩; subst h'; conv => whnf)
      | (rw [q2]; conv => whnf)
      | (refine Br.t q3 ?_; conv => whnf)
      | refine AW.seq ?_
      | (refine AW.region ?_; conv => whnf)
      | (refine AW.skip ?_; conv => whnf)
      | (refine AW.ret ?_; conv => whnf)
      | refine AW.cond (by rfl) ?_
      | (refine (l1In_ok _ _ _ _).mono ?_; rintro v h' ⟨rfl, e'⟩; subst h'; conv => whnf)
      | refine Br.not ?_
      | (refine Br.dt (by omega) ?_; conv => whnf)
      | (refine Wr.i64 (by omega) ?_; conv => whnf)
      | (refine Ck.mk (by omega) ?_; conv => whnf))
    all_goals exact ⟨rfl, rfl⟩
  | node a b =>
    have ezy : (BT.node a b).size = a.size + b.size + 1 := rfl
    have er : rotL t v = some (replB t v (.node (.node x a) b)) := by unfold rotL; rw [en]; cases x <;> rfl
    rw [er]
    obtain ⟨X, hX⟩ : ∃ X, X = (BT.node a b).txt := ⟨_, rfl⟩
    have xl : X.length = (BT.node a b).txt.length := by rw [hX]
    rw [← hX] at q2
    obtain ⟨tl2, p12, p22, p32⟩ := txt_parts hX
    have la := a.txt_length
    have lb := b.txt_length
    obtain ⟨q3, q4⟩ := txt_cut hX
    have e2 := fun h0 => end1_ok hX (by omega) h0
    have ne := txt_ne hX
    have l2 : (X.take ((1 + a.txt.length : Nat) : Int).toNat).length = 1 + a.txt.length := by rw [List.length_take]; omega
    have ey : (BT.node (.node x a) b).size ≤ 1000 := by simp only [BT.size]; omega
    have ew : [40, 40] ++ x.txt ++ a.txt ++ [41] ++ b.txt ++ [41] = (BT.node (.node x a) b).txt := by simp [BT.txt]
    have rp := fun h0 => l16Replace_ok (.node (.node x a) b) t t.txt v v h0 rfl rfl hv (by omega) ey
    rw [← ew] at rp
    refine AC.enter Tryz.func114 Tryz.call114 rfl Tryz.ntmps114 (of_decide_eq_true (by rfl)) ?_
    repeat' (first
      | (refine (sNodesOf_ok _ _).mono ?_; rw [nz]; rintro w h' ⟨rfl, e'⟩; subst h'; conv => whnf)
      | (refine (nd _).mono ?_; rintro w h' ⟨rfl, e'⟩; subst h'; conv => whnf)
      | (refine (e1 _).mono ?_; rintro w h' ⟨rfl, e'⟩; subst h'; conv => whnf)
      | (refine (e2 _).mono ?_; rintro w h' ⟨rfl, e'⟩; subst h'; conv => whnf)
      | (refine (rp _).mono ?_; rintro w h' ⟨rfl, e'⟩; subst h'; conv => whnf)
      | (rw [q1]; conv => whnf)
      | (rw [q2]; conv => whnf)
      | (rw [q3]; conv => whnf)
      | (rw [q4]; conv => whnf)
      | (refine Br.f ne ?_; conv => whnf)
      | refine AW.seq ?_
      | (refine AW.region ?_; conv => whnf)
      | (refine AW.skip ?_; conv => whnf)
      | (refine AW.ret ?_; conv => whnf)
      | refine AW.cond (by rfl) ?_
      | (refine AW.draw (id := 9) (.p 0 (.p 1 (.p 2 (.p 3 (.p 4 (.p 5 (.p 6 (.p 7 (.p 8 (.p 9 (.p 10 (.p 11 (.p 12 (.p 13 (.p 14 (.p 15 (.p 16 (.p 17 .done)))))))))))))))))) (by kernel_rfl) (by kernel_rfl) ?_; conv => whnf)
      | (refine (l1In_ok _ _ _ _).mono ?_; rintro v h' ⟨rfl, e'⟩; subst h'; conv => whnf)
      | refine Br.not ?_
      | (refine Br.dt (by omega) ?_; conv => whnf)
      | (refine Wr.i64 (by omega) ?_; conv => whnf)
      | (refine Ck.mk (by omega) ?_; conv => whnf)
      | (refine Ck.mk (by simp only [List.length_drop, List.length_take, List.length_append, List.length_cons, List.length_nil]; omega) ?_; conv => whnf))
    all_goals exact ⟨rfl, rfl⟩

/-- texts of trees -/
def txts (l : List BT) : List (List UInt8) := l.map BT.txt
theorem txts_append (a b : List BT) : txts (a ++ b) = txts a ++ txts b := List.map_append
@[simp] theorem txts_length (l : List BT) : (txts l).length = l.length := List.length_map _
theorem fm_some {f : Nat → Option BT} {v : Nat} {u : BT} (h : f v = some u) : (List.range (v + 1)).filterMap f = (List.range v).filterMap f ++ [u] := by
  rw [List.range_succ, List.filterMap_append]
  simp [h]
theorem fm_none {f : Nat → Option BT} {v : Nat} (h : f v = none) : (List.range (v + 1)).filterMap f = (List.range v).filterMap f := by
  rw [List.range_succ, List.filterMap_append]
  simp [h]
theorem fm_len (f : Nat → Option BT) (v : Nat) : ((List.range v).filterMap f).length ≤ v := by
  have := List.length_filterMap_le f (List.range v)
  rwa [List.length_range] at this
set_option maxHeartbeats 2000000 in
theorem sNbrs_ok (t : BT) (h0 : H) (hz : t.size ≤ 8) : AC env 85 [.str t.txt] h0 fun w h' => ∃ b, w = .slice b 0 (nbrs t).length (nbrs t).length ∧ New h0 h' b (strs (txts (nbrs t))) := by
  have hs := St.refl h0
  have nz : sizeO (treeOf t.txt) = t.size := by rw [treeOf_txt hz]; rfl
  refine AC.enter Tryz.func85 Tryz.call85 rfl Tryz.ntmps85 (of_decide_eq_true (by rfl)) ?_
  repeat' (first
    | refine AW.seq ?_
    | (refine AW.region ?_; conv => whnf)
    | refine AW.block ?_
    | (refine NewG.st (by assumption) (fun bt h' hs' => ?_); conv => whnf))
  obtain ⟨h1, rfl⟩ : ∃ q, q = h' := ⟨_, rfl⟩
  refine AW.loop3 (fun (v b N : Nat) => [(0, .str t.txt), (3, .slice b 0 N N), (4, .int .i64 (v : Int))]) (fun v b N h' => (v ≤ t.size ∧ N = ((List.range v).filterMap (rotR t)).length) ∧ St h0 h' [(b, row (strs (txts ((List.range v).filterMap (rotR t)))))]) (fun v _ _ => t.size - v) 0 _ 0
    (Less.cons rfl (Less.cons rfl (Less.cons rfl (Less.nil _)))) ⟨⟨by omega, rfl⟩, hs'⟩ ?_
  rintro v b N h2 ⟨⟨hv, hN⟩, hs2⟩
  clear hs hs'
  have nl := fm_len (rotR t) v
  by_cases hlt : v < t.size
  · cases hr : rotR t v with
    | none =>
      have e1 := fm_none hr
      repeat' (first
        | (refine (sNodesOf_ok _ _).mono ?_; rw [nz]; rintro w h' ⟨rfl, e'⟩; subst h'; conv => whnf)
        | (refine (sRotR_ok t v _ hlt hz).mono ?_; rw [hr]; rintro w h' ⟨rfl, e'⟩; subst h'; conv => whnf)
        | refine AW.seq ?_
        | (refine AW.region ?_; conv => whnf)
        | refine AW.block ?_
        | (refine AW.skip ?_; conv => whnf)
        | refine AW.cond (by rfl) ?_
        | (refine Br.ff ?_; conv => whnf)
        | (refine Br.dt (by omega) ?_; conv => whnf)
        | (refine Wr.i64 (by omega) ?_; conv => whnf))
      exact ⟨v + 1, b, N, (Less.cons rfl (Less.cons rfl (Less.cons rfl (Less.nil _)))), ⟨⟨by omega, by rw [e1]; exact hN⟩, by rw [e1]; exact hs2⟩, by omega⟩
    | some u =>
      have e1 := fm_some hr
      repeat' (first
        | (refine (sNodesOf_ok _ _).mono ?_; rw [nz]; rintro w h' ⟨rfl, e'⟩; subst h'; conv => whnf)
        | (refine (sRotR_ok t v _ hlt hz).mono ?_; rw [hr]; rintro w h' ⟨rfl, e'⟩; subst h'; conv => whnf)
        | (refine NewG.st hs2 (fun bx h' hs3 => ?_); conv => whnf)
        | (refine LoadsG.has (St.has (by assumption) (.head _)) (by simp) ?_; conv => whnf)
        | (refine AppG.stS (l := txts ((List.range v).filterMap (rotR t))) (by assumption) (fun b' => .there .here) (by simp; omega) (by simp; omega) (by decide) (fun b' h' hs4 => ?_); conv => whnf)
        | refine AW.seq ?_
        | (refine AW.region ?_; conv => whnf)
        | refine AW.block ?_
        | (refine AW.skip ?_; conv => whnf)
        | refine AW.cond (by rfl) ?_
        | (refine Br.tt ?_; conv => whnf)
        | (refine Br.dt (by omega) ?_; conv => whnf)
        | (refine Wr.i64 (by omega) ?_; conv => whnf))
      refine ⟨v + 1, b', N + 1, (Less.cons rfl (Less.cons rfl (Less.cons rfl (Less.nil _)))), ⟨⟨by omega, by rw [e1, List.length_append, ← hN]; rfl⟩, ?_⟩, by omega⟩
      rw [e1, txts_append]
      exact hs4.tail
  · obtain rfl : v = t.size := by omega
    repeat' (first
      | (refine (sNodesOf_ok _ _).mono ?_; rw [nz]; rintro w h' ⟨rfl, e'⟩; subst h'; conv => whnf)
      | refine AW.seq ?_
      | (refine AW.region ?_; conv => whnf)
      | refine AW.block ?_
      | (refine AW.exit ?_; conv => whnf)
      | refine AW.cond (by rfl) ?_
      | (refine Br.df (by omega) ?_; conv => whnf))
    obtain ⟨A, hA⟩ : ∃ A, A = (List.range t.size).filterMap (rotR t) := ⟨_, rfl⟩
    rw [← hA] at hs2 hN nl
    refine AW.loop3 (fun (v b N : Nat) => [(0, .str t.txt), (3, .slice b 0 N N), (7, .int .i64 (v : Int))]) (fun v b N h' => (v ≤ t.size ∧ N = A.length + ((List.range v).filterMap (rotL t)).length) ∧ St h0 h' [(b, row (strs (txts (A ++ (List.range v).filterMap (rotL t)))))]) (fun v _ _ => t.size - v) 0 b N
      (Less.cons rfl (Less.cons rfl (Less.cons rfl (Less.nil _)))) ⟨⟨by omega, hN⟩, by rw [List.range_zero, List.filterMap_nil, List.append_nil]; exact hs2⟩ ?_
    clear hs2 hv hlt hN
    rintro v b N h2 ⟨⟨hv, hN⟩, hs2⟩
    have nl2 := fm_len (rotL t) v
    by_cases hlt : v < t.size
    · cases hr : rotL t v with
      | none =>
        have e1 := fm_none hr
        repeat' (first
          | (refine (sNodesOf_ok _ _).mono ?_; rw [nz]; rintro w h' ⟨rfl, e'⟩; subst h'; conv => whnf)
          | (refine (sRotL_ok t v _ hlt hz).mono ?_; rw [hr]; rintro w h' ⟨rfl, e'⟩; subst h'; conv => whnf)
          | refine AW.seq ?_
          | (refine AW.region ?_; conv => whnf)
          | refine AW.block ?_
          | (refine AW.skip ?_; conv => whnf)
          | refine AW.cond (by rfl) ?_
          | (refine Br.ff ?_; conv => whnf)
          | (refine Br.dt (by omega) ?_; conv => whnf)
          | (refine Wr.i64 (by omega) ?_; conv => whnf))
        exact ⟨v + 1, b, N, (Less.cons rfl (Less.cons rfl (Less.cons rfl (Less.nil _)))), ⟨⟨by omega, by rw [e1]; exact hN⟩, by rw [e1]; exact hs2⟩, by omega⟩
      | some u =>
        have e1 := fm_some hr
        repeat' (first
          | (refine (sNodesOf_ok _ _).mono ?_; rw [nz]; rintro w h' ⟨rfl, e'⟩; subst h'; conv => whnf)
          | (refine (sRotL_ok t v _ hlt hz).mono ?_; rw [hr]; rintro w h' ⟨rfl, e'⟩; subst h'; conv => whnf)
          | (refine NewG.st hs2 (fun bx h' hs3 => ?_); conv => whnf)
          | (refine LoadsG.has (St.has (by assumption) (.head _)) (by simp) ?_; conv => whnf)
          | (refine AppG.stS (l := txts (A ++ (List.range v).filterMap (rotL t))) (by assumption) (fun b' => .there .here) (by simp; omega) (by simp; omega) (by decide) (fun b' h' hs4 => ?_); conv => whnf)
          | refine AW.seq ?_
          | (refine AW.region ?_; conv => whnf)
          | refine AW.block ?_
          | (refine AW.skip ?_; conv => whnf)
          | refine AW.cond (by rfl) ?_
          | (refine Br.tt ?_; conv => whnf)
          | (refine Br.dt (by omega) ?_; conv => whnf)
          | (refine Wr.i64 (by omega) ?_; conv => whnf))
        refine ⟨v + 1, b', N + 1, (Less.cons rfl (Less.cons rfl (Less.cons rfl (Less.nil _)))), ⟨⟨by omega, by rw [e1, List.length_append, hN]; simp only [List.length_cons, List.length_nil]; omega⟩, ?_⟩, by omega⟩
        rw [e1, ← List.append_assoc, txts_append]
        exact hs4.tail
    · obtain rfl : v = t.size := by omega
      have en : A.length + ((List.range t.size).filterMap (rotL t)).length = (nbrs t).length := by rw [hA]; exact List.length_append.symm
      have ea : A ++ (List.range t.size).filterMap (rotL t) = nbrs t := by rw [hA]; rfl
      repeat' (first
        | (refine (sNodesOf_ok _ _).mono ?_; rw [nz]; rintro w h' ⟨rfl, e'⟩; subst h'; conv => whnf)
        | refine AW.seq ?_
        | (refine AW.region ?_; conv => whnf)
        | (refine AW.ret ?_; conv => whnf)
        | (refine AW.exit ?_; conv => whnf)
        | refine AW.cond (by rfl) ?_
        | (refine Br.df (by omega) ?_; conv => whnf))
      rw [ea] at hs2
      rw [hN, en]
      exact ⟨b, rfl, hs2.toNew⟩
theorem l15Has_ok (l : List BT) (u : BT) (b N C : Nat) (h0 : H) (hb : Has h0 b (strs (txts l))) (hN : N = l.length) (hl : N ≤ 100000) : AC env 84 [.slice b 0 N C, .str u.txt] h0 fun w h' => w = .bool (decide (u.txt ∈ txts l)) ∧ h' = h0 := by
  refine AC.enter Tryz.func84 Tryz.call84 rfl Tryz.ntmps84 (of_decide_eq_true (by rfl)) ?_
  repeat' (first
    | refine AW.seq ?_
    | (refine AW.region ?_; conv => whnf)
    | refine AW.block ?_)
  refine AW.loop1 (fun (k : Nat) => [(0, .slice b 0 N C), (1, .str u.txt), (5, .int .i64 (k : Int))]) (fun k h' => (k ≤ N ∧ ∀ j, j < k → (txts l).getD j [] ≠ u.txt) ∧ h' = h0) (fun k => N - k) 0 (Less.cons rfl (Less.cons rfl (Less.cons rfl (Less.nil _)))) ⟨⟨by omega, fun j hj => by omega⟩, rfl⟩ ?_
  rintro k h' ⟨⟨hk, he⟩, rfl⟩
  by_cases hlt : k < N
  · have ek : ((k : Nat) : Int).toNat = k := Int.toNat_natCast k
    by_cases hit : (txts l).getD k [] = u.txt
    · have hq : ((txts l).getD ((k : Nat) : Int).toNat [] == u.txt) = true := by rw [ek, hit]; exact beq_self_eq_true _
      repeat' (first
        | (refine Has.loadS hb rfl (by simp; omega) ?_; conv => whnf)
        | (refine Br.t hq ?_; conv => whnf)
        | refine AW.seq ?_
        | (refine AW.region ?_; conv => whnf)
        | refine AW.block ?_
        | (refine AW.skip ?_; conv => whnf)
        | (refine AW.ret ?_; conv => whnf)
        | refine AW.cond (by rfl) ?_
        | (refine Br.dt (by omega) ?_; conv => whnf)
        | (refine Ck.mk (by omega) ?_; conv => whnf))
      refine ⟨?_, rfl⟩
      have hm : u.txt ∈ txts l := by
        rw [← hit]
        have hk2 : k < (txts l).length := by simp; omega
        rw [show (txts l).getD k [] = (txts l)[k] by simp only [List.getD, List.getElem?_eq_getElem hk2, Option.getD_some]]
        exact List.getElem_mem hk2
      rw [decide_eq_true hm]
    · have hq : ((txts l).getD ((k : Nat) : Int).toNat [] == u.txt) = false := by rw [ek]; exact beq_eq_false_iff_ne.2 hit
      repeat' (first
        | (refine Has.loadS hb rfl (by simp; omega) ?_; conv => whnf)
        | (refine Br.f hq ?_; conv => whnf)
        | refine AW.seq ?_
        | (refine AW.region ?_; conv => whnf)
        | refine AW.block ?_
        | (refine AW.skip ?_; conv => whnf)
        | refine AW.cond (by rfl) ?_
        | (refine Br.dt (by omega) ?_; conv => whnf)
        | (refine Wr.i64 (by omega) ?_; conv => whnf)
        | (refine Ck.mk (by omega) ?_; conv => whnf))
      refine ⟨k + 1, (Less.cons rfl (Less.cons rfl (Less.cons rfl (Less.nil _)))), ⟨⟨by omega, fun j hj => ?_⟩, rfl⟩, by omega⟩
      by_cases c : j = k
      · rw [c]; exact hit
      · exact he j (by omega)
  · obtain rfl : k = N := by omega
    repeat' (first
      | refine AW.seq ?_
      | (refine AW.region ?_; conv => whnf)
      | (refine AW.ret ?_; conv => whnf)
      | (refine AW.exit ?_; conv => whnf)
      | refine AW.cond (by rfl) ?_
      | (refine Br.df (by omega) ?_; conv => whnf))
    refine ⟨?_, rfl⟩
    have hm : u.txt ∉ txts l := fun hm => by
      obtain ⟨j, hj, e⟩ := List.getElem_of_mem hm
      refine he j (by simp at hj; omega) ?_
      rw [← e]
      simp only [List.getD, List.getElem?_eq_getElem hj, Option.getD_some]
    rw [decide_eq_false hm]

end Go.Proofs.YtbicfognbbeigaaGreat

/-
  Plain laws of ways of rotations between trees are proved: a search by breadth over the numbers of trees.
  They hold for trees of at most five nodes.
-/
set_option linter.unusedVariables false
set_option linter.unusedSimpArgs false
namespace Go.Proofs.YtbicfognbbeigaaGreat
open Go.Proofs.YtbicfognbbeigaaGreat.Ab Go.Proofs.YtbicfognbbeigaaGreat.Pl

def eqB : BT → BT → Bool
  | .leaf, .leaf => true
  | .node a b, .node c d => eqB a c && eqB b d
  | _, _ => false
theorem eqB_eq : ∀ {a b : BT}, eqB a b = true → a = b
  | .leaf, .leaf, _ => rfl
  | .node a b, .node c d, h => by
    unfold eqB at h
    rw [Bool.and_eq_true] at h
    rw [eqB_eq h.1, eqB_eq h.2]
  | .leaf, .node _ _, h => by cases h
  | .node _ _, .leaf, h => by cases h
def eqBs : List BT → List BT → Bool
  | [], [] => true
  | x :: l, y :: m => eqB x y && eqBs l m
  | _, _ => false
theorem eqBs_eq : ∀ {l m : List BT}, eqBs l m = true → l = m
  | [], [], _ => rfl
  | x :: l, y :: m, h => by
    unfold eqBs at h
    rw [Bool.and_eq_true] at h
    rw [eqB_eq h.1, eqBs_eq h.2]
  | [], y :: m, h => by cases h
  | x :: l, [], h => by cases h
/-- all trees with so many nodes -/
def allT : Nat → Nat → List BT
  | 0, _ => []
  | k + 1, 0 => [.leaf]
  | k + 1, n + 1 => (List.range (n + 1)).flatMap fun i => (allT k i).flatMap fun l => (allT k (n - i)).map fun r => .node l r
theorem allT_mem : ∀ (t : BT) (k : Nat), t.size < k → t ∈ allT k t.size
  | .leaf, k, h => by
    cases k with
    | zero => omega
    | succ k => exact .head _
  | .node l r, k, h => by
    have ez : (BT.node l r).size = l.size + r.size + 1 := rfl
    rw [ez] at h ⊢
    cases k with
    | zero => omega
    | succ k =>
      refine List.mem_flatMap.2 ⟨l.size, List.mem_range.2 (by omega), List.mem_flatMap.2 ⟨l, allT_mem l k (by omega), List.mem_map.2 ⟨r, ?_, rfl⟩⟩⟩
      rw [show l.size + r.size - l.size = r.size by omega]
      exact allT_mem r k (by omega)
/-- the trees of paths, in their order -/
def trs (n : Nat) : List BT := (dyP n).filterMap (binF 20)
def tr (n i : Nat) : BT := (trs n).getD i .leaf
/-- neighbours by numbers -/
def nbT : Nat → List (List Nat)
  | 0 => [[]]
  | 1 => [[]]
  | 2 => [[1], [0]]
  | 3 => [[1, 2], [3, 0], [4, 0], [4, 1], [2, 3]]
  | 4 => [[1, 2, 3], [4, 6, 0], [5, 7, 0], [6, 8, 0], [5, 9, 1], [10, 2, 4], [11, 3, 1], [12, 8, 2], [13, 3, 7], [10, 11, 4], [12, 5, 9], [13, 6, 9], [13, 7, 10], [8, 11, 12]]
  | 5 => [[1, 2, 3, 4], [5, 7, 8, 0], [6, 9, 11, 0], [7, 10, 12, 0], [8, 11, 13, 0], [6, 14, 17, 1], [15, 20, 2, 5], [16, 21, 3, 1], [17, 22, 4, 1], [18, 10, 23, 2], [19, 24, 3, 9], [20, 25, 4, 2], [21, 26, 13, 3], [22, 27, 4, 12], [15, 16, 28, 5], [18, 29, 6, 14], [19, 30, 7, 14], [20, 31, 8, 5], [19, 32, 9, 15], [33, 10, 16, 18], [34, 11, 17, 6], [35, 22, 12, 7], [36, 13, 8, 21], [37, 24, 25, 9], [38, 26, 10, 23], [39, 27, 11, 23], [40, 27, 12, 24], [41, 13, 25, 26], [29, 30, 31, 14], [32, 34, 15, 28], [33, 35, 16, 28], [34, 36, 17, 28], [33, 37, 18, 29], [38, 19, 30, 32], [39, 20, 31, 29], [40, 36, 21, 30], [41, 22, 31, 35], [38, 39, 23, 32], [40, 24, 33, 37], [41, 25, 34, 37], [41, 26, 35, 38], [27, 36, 39, 40]]
  | _ => []
def nbI (n i : Nat) : List Nat := (nbT n).getD i []
set_option maxRecDepth 100000 in
theorem trs_fine : (List.range 6).all (fun n => (allT 6 n).all (fun t => (trs n).any (eqB t)) && ((trs n).length == (nbT n).length && (trs n).length == (dyP n).length)) = true := by decide +kernel
set_option maxRecDepth 100000 in
theorem nbs_fine : (List.range 6).all (fun n => (List.range (trs n).length).all fun i => (tr n i).size == n && (eqBs (nbrs (tr n i)) ((nbI n i).map (tr n)) && (nbI n i).all fun j => decide (j < (trs n).length))) = true := by decide +kernel
set_option maxRecDepth 100000 in
theorem inj_fine : (List.range 6).all (fun n => (List.range (trs n).length).all fun i => (List.range (trs n).length).all fun j => i == j || !(eqB (tr n i) (tr n j))) = true := by decide +kernel
theorem tr_at {n : Nat} (hn : n ≤ 5) {t : BT} (h : t.size = n) : ∃ i, i < (trs n).length ∧ t = tr n i := by
  have c := List.all_eq_true.1 trs_fine n (List.mem_range.2 (by omega))
  rw [Bool.and_eq_true] at c
  have m := allT_mem t 6 (by omega)
  rw [h] at m
  obtain ⟨u, hu, e⟩ := List.any_eq_true.1 (List.all_eq_true.1 c.1 t m)
  obtain ⟨i, hi, rfl⟩ := List.getElem_of_mem hu
  refine ⟨i, hi, ?_⟩
  rw [eqB_eq e]
  simp only [tr, List.getD, List.getElem?_eq_getElem hi, Option.getD_some]
structure NbOk (n i : Nat) : Prop where
  size : (tr n i).size = n
  nb : nbrs (tr n i) = (nbI n i).map (tr n)
  lt : ∀ j ∈ nbI n i, j < (trs n).length
theorem nb_ok {n i : Nat} (hn : n ≤ 5) (hi : i < (trs n).length) : NbOk n i := by
  have c := List.all_eq_true.1 (List.all_eq_true.1 nbs_fine n (List.mem_range.2 (by omega))) i (List.mem_range.2 hi)
  rw [Bool.and_eq_true, Bool.and_eq_true, beq_iff_eq] at c
  exact ⟨c.1, eqBs_eq c.2.1, fun j hj => of_decide_eq_true (List.all_eq_true.1 c.2.2 j hj)⟩
theorem eqB_refl : ∀ a : BT, eqB a a = true
  | .leaf => rfl
  | .node a b => by unfold eqB; rw [eqB_refl a, eqB_refl b]; rfl
theorem tr_inj {n i j : Nat} (hn : n ≤ 5) (hi : i < (trs n).length) (hj : j < (trs n).length) (h : tr n i = tr n j) : i = j := by
  have c := List.all_eq_true.1 (List.all_eq_true.1 (List.all_eq_true.1 inj_fine n (List.mem_range.2 (by omega))) i (List.mem_range.2 hi)) j (List.mem_range.2 hj)
  rw [Bool.or_eq_true, beq_iff_eq, h, eqB_refl] at c
  exact c.resolve_right (by simp)
theorem txt_inj {a b : BT} (ha : a.size ≤ 8) (hb : b.size ≤ 8) (h : a.txt = b.txt) : a = b := by
  have e1 := treeOf_txt ha
  rw [h, treeOf_txt hb] at e1
  exact (Option.some.inj e1).symm
theorem tr_txt {n i j : Nat} (hn : n ≤ 5) (hi : i < (trs n).length) (hj : j < (trs n).length) : (tr n i).txt = (tr n j).txt ↔ i = j :=
  ⟨fun h => tr_inj hn hi hj (txt_inj (by rw [(nb_ok hn hi).size]; omega) (by rw [(nb_ok hn hj).size]; omega) h), fun h => by rw [h]⟩

/-! the search: trees that were seen, and from where -/
def addS (i : Nat) (s : List Nat × List Int) (x : Nat) : List Nat × List Int := if x ∈ s.1 then s else (s.1 ++ [x], s.2 ++ [(i : Int)])
def rowTo (n i : Nat) (s : List Nat × List Int) (k : Nat) : List Nat × List Int := ((nbI n (s.1.getD i 0)).take k).foldl (addS i) s
def rowS (n i : Nat) (s : List Nat × List Int) : List Nat × List Int := (nbI n (s.1.getD i 0)).foldl (addS i) s
def bfs (n a : Nat) : Nat → List Nat × List Int
  | 0 => ([a], [-1])
  | k + 1 => rowS n k (bfs n a k)
theorem rowTo_succ {n i : Nat} {s : List Nat × List Int} {k : Nat} (h : k < (nbI n (s.1.getD i 0)).length) : rowTo n i s (k + 1) = addS i (rowTo n i s k) ((nbI n (s.1.getD i 0)).getD k 0) := by
  unfold rowTo
  have e : (nbI n (s.1.getD i 0)).getD k 0 = (nbI n (s.1.getD i 0))[k] := by
    generalize nbI n (s.1.getD i 0) = l at h
    simp only [List.getD, List.getElem?_eq_getElem h, Option.getD_some]
  rw [List.take_succ_eq_append_getElem h, List.foldl_append, e]
  rfl
theorem rowTo_all (n i : Nat) (s : List Nat × List Int) : rowTo n i s (nbI n (s.1.getD i 0)).length = rowS n i s := by
  unfold rowTo rowS
  rw [List.take_length]
/-- the way to the place j, backwards: places in the row of what was seen -/
def back (fr : List Int) : Nat → Nat → List Nat
  | 0, _ => []
  | k + 1, j => j :: (if fr.getD j 0 < 0 then [] else back fr k (fr.getD j 0).toNat)
def goalP (s : List Nat) (b : Nat) : Nat := s.findIdx (· == b)
def wayI (n a b : Nat) : List Nat := ((back (bfs n a (trs n).length).2 50 (goalP (bfs n a (trs n).length).1 b)).map fun j => (bfs n a (trs n).length).1.getD j 0).reverse
def bfsOk (n a : Nat) : Bool := (List.range (trs n).length).all (fun k => decide (k < (bfs n a k).1.length)) && (decide ((bfs n a (trs n).length).1.length = (trs n).length) && ((List.range (trs n).length).all fun b => (bfs n a (trs n).length).1.contains b) &&
  (List.range (trs n).length).all fun j => decide ((bfs n a (trs n).length).2.getD j 0 < j ∧ -1 ≤ (bfs n a (trs n).length).2.getD j 0))
set_option maxRecDepth 100000 in
theorem bfs_fine : (List.range 6).all (fun n => (List.range (trs n).length).all (bfsOk n)) = true := by decide +kernel

end Go.Proofs.YtbicfognbbeigaaGreat
