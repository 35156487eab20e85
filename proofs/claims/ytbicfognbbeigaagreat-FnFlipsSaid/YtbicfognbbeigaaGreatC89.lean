/-
  Contracts of rotations of binary trees, by the reference, are proved.
  They hold for all trees of at most a thousand nodes.
-/
import Derived.Test.YtbicfognbbeigaaGreatC58
import Derived.Test.YtbicfognbbeigaaGreatH11
set_option linter.unusedVariables false
set_option linter.unusedSimpArgs false
namespace Go.Proofs.YtbicfognbbeigaaGreat
open Go.Proofs.YtbicfognbbeigaaGreat.Ab Go.Proofs.YtbicfognbbeigaaGreat.Pl

/-! nodes are numbered in order -/
def nodeB : BT → Nat → BT
  | .leaf, _ => .leaf
  | .node l r, v => if v < l.size then nodeB l v else if v = l.size then .node l r else nodeB r (v - l.size - 1)
def replB : BT → Nat → BT → BT
  | .leaf, _, x => x
  | .node l r, v, x => if v < l.size then .node (replB l v x) r else if v = l.size then x else .node l (replB r (v - l.size - 1) x)
def turnR : BT → Option BT
  | .node (.node a b) c => some (.node a (.node b c))
  | _ => none
def turnL : BT → Option BT
  | .node a (.node b c) => some (.node (.node a b) c)
  | _ => none
def rotR (t : BT) (v : Nat) : Option BT := (turnR (nodeB t v)).map (replB t v)
def rotL (t : BT) (v : Nat) : Option BT := (turnL (nodeB t v)).map (replB t v)
def nbrs (t : BT) : List BT := (List.range t.size).filterMap (rotR t) ++ (List.range t.size).filterMap (rotL t)
theorem nodeB_node : ∀ (t : BT) (v : Nat), v < t.size → ∃ a b, nodeB t v = .node a b ∧ (BT.node a b).size ≤ t.size
  | .leaf, v, h => by simp [BT.size] at h
  | .node l r, v, h => by
    have ez : (BT.node l r).size = l.size + r.size + 1 := rfl
    unfold nodeB
    by_cases c : v < l.size
    · rw [if_pos c]
      obtain ⟨a, b, e, z⟩ := nodeB_node l v c
      exact ⟨a, b, e, by omega⟩
    · rw [if_neg c]
      by_cases d : v = l.size
      · rw [if_pos d]
        exact ⟨l, r, rfl, by omega⟩
      · rw [if_neg d]
        obtain ⟨a, b, e, z⟩ := nodeB_node r (v - l.size - 1) (by omega)
        exact ⟨a, b, e, by omega⟩
theorem replB_size : ∀ (t : BT) (v : Nat) (x : BT), v < t.size → (replB t v x).size + (nodeB t v).size = t.size + x.size
  | .leaf, v, x, h => by simp [BT.size] at h
  | .node l r, v, x, h => by
    have ez : (BT.node l r).size = l.size + r.size + 1 := rfl
    unfold replB nodeB
    by_cases c : v < l.size
    · rw [if_pos c, if_pos c]
      have := replB_size l v x c
      have e2 : (BT.node (replB l v x) r).size = (replB l v x).size + r.size + 1 := rfl
      omega
    · rw [if_neg c, if_neg c]
      by_cases d : v = l.size
      · rw [if_pos d, if_pos d]
        omega
      · rw [if_neg d, if_neg d]
        have := replB_size r (v - l.size - 1) x (by omega)
        have e2 : (BT.node l (replB r (v - l.size - 1) x)).size = l.size + (replB r (v - l.size - 1) x).size + 1 := rfl
        omega
theorem turnR_size {t u : BT} (h : turnR t = some u) : u.size = t.size := by
  match t, h with
  | .node (.node a b) c, h =>
    cases h
    simp only [BT.size]
    omega
theorem turnL_size {t u : BT} (h : turnL t = some u) : u.size = t.size := by
  match t, h with
  | .node a (.node b c), h =>
    cases h
    simp only [BT.size]
    omega
theorem rotR_size {t u : BT} {v : Nat} (hv : v < t.size) (h : rotR t v = some u) : u.size = t.size := by
  unfold rotR at h
  cases e : turnR (nodeB t v) with
  | none => rw [e] at h; cases h
  | some x =>
    rw [e] at h
    cases h
    have h1 := replB_size t v x hv
    have h2 := turnR_size e
    omega
theorem rotL_size {t u : BT} {v : Nat} (hv : v < t.size) (h : rotL t v = some u) : u.size = t.size := by
  unfold rotL at h
  cases e : turnL (nodeB t v) with
  | none => rw [e] at h; cases h
  | some x =>
    rw [e] at h
    cases h
    have h1 := replB_size t v x hv
    have h2 := turnL_size e
    omega
theorem nbrs_size {t u : BT} (h : u ∈ nbrs t) : u.size = t.size := by
  unfold nbrs at h
  rcases List.mem_append.1 h with h | h <;> obtain ⟨v, hv, e⟩ := List.mem_filterMap.1 h
  · exact rotR_size (List.mem_range.1 hv) e
  · exact rotL_size (List.mem_range.1 hv) e
theorem nbrs_len (t : BT) : (nbrs t).length ≤ 2 * t.size := by
  unfold nbrs
  rw [List.length_append]
  have h1 := List.length_filterMap_le (rotR t) (List.range t.size)
  have h2 := List.length_filterMap_le (rotL t) (List.range t.size)
  rw [List.length_range] at h1 h2
  omega

theorem Wr.third {m n : Nat} {K : Int → Prop} (h : m = 3 * n + 1) (hn : n ≤ 1000000) (hk : K (n : Int)) : Wr .i64 (((m : Int) - 1).tdiv 3) K := by
  have e : ((m : Int) - 1).tdiv 3 = (n : Int) := by
    rw [h, show (((3 * n + 1 : Nat) : Int) - 1) = ((3 * n : Nat) : Int) by omega]
    have : (((3 * n : Nat) : Int)).tdiv 3 = ((3 * n / 3 : Nat) : Int) := rfl
    rw [this]
    omega
  rw [e]
  exact Wr.i64 (by omega) hk
theorem txt_ne {a b : BT} {T : List UInt8} (h : T = (BT.node a b).txt) : (T == [46]) = false := by
  have tl := (txt_parts h).1
  have lx := a.txt_length
  have ly := b.txt_length
  rw [beq_eq_false_iff_ne]
  intro h
  rw [h] at tl
  have e1 : ([46] : List UInt8).length = 1 := rfl
  omega
theorem txt_cut {a b : BT} {T : List UInt8} (h : T = (BT.node a b).txt) : ((T.take ((1 + a.txt.length : Nat) : Int).toNat).drop (1 : Int).toNat) = a.txt ∧ ((T.take (((T.length : Nat) : Int) - 1).toNat).drop ((1 + a.txt.length : Nat) : Int).toNat) = b.txt := by
  obtain ⟨tl, p1, p2, p3⟩ := txt_parts h
  refine ⟨p1, ?_⟩
  rw [show (((T.length : Nat) : Int) - 1).toNat = T.length - 1 by omega]
  exact p2
theorem end1_ok {a b : BT} {T : List UInt8} (h : T = (BT.node a b).txt) (hz : T.length ≤ 100000) (h0 : H) : AC env 110 [.str T, .int .i64 1] h0 fun v h' => v = .int .i64 ((1 + a.txt.length : Nat) : Int) ∧ h' = h0 := by
  obtain ⟨tl, p1, p2, p3⟩ := txt_parts h
  have rt : rd T.length (T.drop 1) = some (a, T.drop (1 + a.txt.length)) := by
    rw [p3, rd_txt a _ _ (by omega), ← List.drop_drop, p3, List.drop_left]
  have rt2 := l6End_ok T (by omega) T.length 1 1 rfl (by omega) (by omega) h0
  rw [rt, endO_at (by omega)] at rt2
  exact rt2

theorem l16Node_ok : ∀ (t : BT) (T : List UInt8) (v : Nat) (i : Int) (h0 : H), T = t.txt → i = v → v < t.size → t.size ≤ 1000 → AC env 131 [.str T, .int .i64 i] h0 fun w h' => w = .str (nodeB t v).txt ∧ h' = h0 := by
  intro t
  induction t with
  | leaf => intro T v i h0 hT hi hv; simp [BT.size] at hv
  | node x y ih1 ih2 =>
    rintro T v i h0 hT rfl hv hz
    have ez : (BT.node x y).size = x.size + y.size + 1 := rfl
    rw [ez] at hv hz
    obtain ⟨tl, p1, p2, p3⟩ := txt_parts hT
    have lx := x.txt_length
    have ly := y.txt_length
    obtain ⟨q1, q2⟩ := txt_cut hT
    have l1 : (T.take ((1 + x.txt.length : Nat) : Int).toNat).length = 1 + x.txt.length := by rw [List.length_take]; omega
    have e1 := fun h0 => end1_ok hT (by omega) h0
    unfold nodeB
    by_cases c : v < x.size
    · rw [if_pos c]
      refine AC.enter Tryz.func131 Tryz.call131 rfl Tryz.ntmps131 (of_decide_eq_true (by rfl)) ?_
      repeat' (first
        | (rw [q1]; conv => whnf)
        | (refine (e1 _).mono ?_; rintro w h' ⟨rfl, e'⟩; subst h'; conv => whnf)
        | (refine Wr.third lx (by omega) ?_; conv => whnf)
        | (refine (ih1 _ v _ _ rfl rfl c (by omega)).mono ?_; rintro w h' ⟨rfl, e'⟩; subst h'; conv => whnf)
        | refine AW.seq ?_
        | (refine AW.region ?_; conv => whnf)
        | refine AW.block ?_
        | (refine AW.ret ?_; conv => whnf)
        | refine AW.cond (by rfl) ?_
        | (refine Br.dt (by omega) ?_; conv => whnf)
        | (refine Wr.i64 (by omega) ?_; conv => whnf)
        | (refine Ck.mk (by omega) ?_; conv => whnf))
      exact ⟨rfl, rfl⟩
    · rw [if_neg c]
      by_cases d : v = x.size
      · rw [if_pos d, ← hT]
        refine AC.enter Tryz.func131 Tryz.call131 rfl Tryz.ntmps131 (of_decide_eq_true (by rfl)) ?_
        repeat' (first
          | (rw [q1]; conv => whnf)
          | (refine (e1 _).mono ?_; rintro w h' ⟨rfl, e'⟩; subst h'; conv => whnf)
          | (refine Wr.third lx (by omega) ?_; conv => whnf)
          | refine AW.seq ?_
          | (refine AW.region ?_; conv => whnf)
          | refine AW.block ?_
          | (refine AW.skip ?_; conv => whnf)
          | (refine AW.ret ?_; conv => whnf)
          | refine AW.cond (by rfl) ?_
          | (refine Br.df (by omega) ?_; conv => whnf)
          | (refine Wr.i64 (by omega) ?_; conv => whnf)
          | (refine Ck.mk (by omega) ?_; conv => whnf))
        exact ⟨rfl, rfl⟩
      · rw [if_neg d]
        refine AC.enter Tryz.func131 Tryz.call131 rfl Tryz.ntmps131 (of_decide_eq_true (by rfl)) ?_
        repeat' (first
          | (rw [q1]; conv => whnf)
          | (rw [q2]; conv => whnf)
          | (refine (e1 _).mono ?_; rintro w h' ⟨rfl, e'⟩; subst h'; conv => whnf)
          | (refine Wr.third lx (by omega) ?_; conv => whnf)
          | (refine (ih2 _ (v - x.size - 1) _ _ rfl (by omega) (by omega) (by omega)).mono ?_; rintro w h' ⟨rfl, e'⟩; subst h'; conv => whnf)
          | refine AW.seq ?_
          | (refine AW.region ?_; conv => whnf)
          | refine AW.block ?_
          | (refine AW.ret ?_; conv => whnf)
          | refine AW.cond (by rfl) ?_
          | (refine Br.dt (by omega) ?_; conv => whnf)
          | (refine Br.df (by omega) ?_; conv => whnf)
          | (refine Wr.i64 (by omega) ?_; conv => whnf)
          | (refine Ck.mk (by omega) ?_; conv => whnf))
        exact ⟨rfl, rfl⟩
theorem l16Replace_ok (u : BT) : ∀ (t : BT) (T : List UInt8) (v : Nat) (i : Int) (h0 : H), T = t.txt → i = v → v < t.size → t.size ≤ 1000 → u.size ≤ 1000 → AC env 132 [.str T, .int .i64 i, .str u.txt] h0 fun w h' => w = .str (replB t v u).txt ∧ h' = h0 := by
  intro t
  induction t with
  | leaf => intro T v i h0 hT hi hv; simp [BT.size] at hv
  | node x y ih1 ih2 =>
    rintro T v i h0 hT rfl hv hz hu
    have ez : (BT.node x y).size = x.size + y.size + 1 := rfl
    rw [ez] at hv hz
    obtain ⟨tl, p1, p2, p3⟩ := txt_parts hT
    have lx := x.txt_length
    have ly := y.txt_length
    obtain ⟨q1, q2⟩ := txt_cut hT
    have l1 : (T.take ((1 + x.txt.length : Nat) : Int).toNat).length = 1 + x.txt.length := by rw [List.length_take]; omega
    have e1 := fun h0 => end1_ok hT (by omega) h0
    unfold replB
    by_cases c : v < x.size
    · rw [if_pos c]
      have lr := (replB x v u).txt_length
      have sr := replB_size x v u c
      refine AC.enter Tryz.func132 Tryz.call132 rfl Tryz.ntmps132 (of_decide_eq_true (by rfl)) ?_
      repeat' (first
        | (rw [q1]; conv => whnf)
        | (rw [q2]; conv => whnf)
        | (refine (e1 _).mono ?_; rintro w h' ⟨rfl, e'⟩; subst h'; conv => whnf)
        | (refine Wr.third lx (by omega) ?_; conv => whnf)
        | (refine (ih1 _ v _ _ rfl rfl c (by omega) hu).mono ?_; rintro w h' ⟨rfl, e'⟩; subst h'; conv => whnf)
        | refine AW.seq ?_
        | (refine AW.region ?_; conv => whnf)
        | refine AW.block ?_
        | (refine AW.ret ?_; conv => whnf)
        | refine AW.cond (by rfl) ?_
        | (refine Br.dt (by omega) ?_; conv => whnf)
        | (refine Wr.i64 (by omega) ?_; conv => whnf)
        | (refine Ck.mk (by omega) ?_; conv => whnf)
        | (refine Ck.mk (by simp only [List.length_drop, List.length_take, List.length_append, List.length_cons, List.length_nil]; omega) ?_; conv => whnf))
      exact ⟨by simp [BT.txt], rfl⟩
    · rw [if_neg c]
      by_cases d : v = x.size
      · rw [if_pos d]
        refine AC.enter Tryz.func132 Tryz.call132 rfl Tryz.ntmps132 (of_decide_eq_true (by rfl)) ?_
        repeat' (first
          | (rw [q1]; conv => whnf)
          | (rw [q2]; conv => whnf)
          | (refine (e1 _).mono ?_; rintro w h' ⟨rfl, e'⟩; subst h'; conv => whnf)
          | (refine Wr.third lx (by omega) ?_; conv => whnf)
          | refine AW.seq ?_
          | (refine AW.region ?_; conv => whnf)
          | refine AW.block ?_
          | (refine AW.skip ?_; conv => whnf)
          | (refine AW.ret ?_; conv => whnf)
          | refine AW.cond (by rfl) ?_
          | (refine Br.df (by omega) ?_; conv => whnf)
          | (refine Wr.i64 (by omega) ?_; conv => whnf)
          | (refine Ck.mk (by omega) ?_; conv => whnf))
        exact ⟨rfl, rfl⟩
      · rw [if_neg d]
        have lr := (replB y (v - x.size - 1) u).txt_length
        have sr := replB_size y (v - x.size - 1) u (by omega)
        refine AC.enter Tryz.func132 Tryz.call132 rfl Tryz.ntmps132 (of_decide_eq_true (by rfl)) ?_
        repeat' (first
          | (rw [q1]; conv => whnf)
          | (rw [q2]; conv => whnf)
          | (refine (e1 _).mono ?_; rintro w h' ⟨rfl, e'⟩; subst h'; conv => whnf)
          | (refine Wr.third lx (by omega) ?_; conv => whnf)
          | (refine (ih2 _ (v - x.size - 1) _ _ rfl (by omega) (by omega) (by omega) hu).mono ?_; rintro w h' ⟨rfl, e'⟩; subst h'; conv => whnf)
          | refine AW.seq ?_
          | (refine AW.region ?_; conv => whnf)
          | refine AW.block ?_
          | (refine AW.ret ?_; conv => whnf)
          | refine AW.cond (by rfl) ?_
          | (refine Br.dt (by omega) ?_; conv => whnf)
          | (refine Br.df (by omega) ?_; conv => whnf)
          | (refine Wr.i64 (by omega) ?_; conv => whnf)
          | (refine Ck.mk (by omega) ?_; conv => whnf)
          | (refine Ck.mk (by simp only [List.length_drop, List.length_take, List.length_append, List.length_cons, List.length_nil]; omega) ?_; conv => whnf))
        exact ⟨by simp [BT.txt], rfl⟩

/-- a tree's text and whether there is one -/
def txtO : Option BT → List UInt8 × Bool
  | some t => (t.txt, true)
  | none => ([], false)
set_option maxHeartbeats 1000000 in
theorem sRotR_ok (t : BT) (v : Nat) (h0 : H) (hv : v < t.size) (hz : t.size ≤ 8) : AC env 103 [.str t.txt, .int .i64 (v : Int)] h0 fun w h' => w = .tup [.str (txtO (rotR t v)).1, .bool (txtO (rotR t v)).2] ∧ h' = h0 := by
  have nz : sizeO (treeOf t.txt) = t.size := by rw [treeOf_txt hz]; rfl
  obtain ⟨x, y, en, zn⟩ := nodeB_node t v hv
  have nd := fun h0 => l16Node_ok t t.txt v v h0 rfl rfl hv (by omega)
  have ez : (BT.node x y).size = x.size + y.size + 1 := rfl
  rw [en] at nd
  obtain ⟨T, hT⟩ : ∃ T, T = (BT.node x y).txt := ⟨_, rfl⟩
  rw [← hT] at nd
  obtain ⟨tl, p1, p2, p3⟩ := txt_parts hT
  have lx := x.txt_length
  have ly := y.txt_length
  obtain ⟨q1, q2⟩ := txt_cut hT
  have l1 : (T.take ((1 + x.txt.length : Nat) : Int).toNat).length = 1 + x.txt.length := by rw [List.length_take]; omega
  have e1 := fun h0 => end1_ok hT (by omega) h0
  cases x with
  | leaf =>
    have er : rotR t v = none := by unfold rotR; rw [en]; rfl
    have q3 : (BT.leaf.txt == [46]) = true := rfl
    rw [er]
    refine AC.enter Tryz.func103 Tryz.call103 rfl Tryz.ntmps103 (of_decide_eq_true (by rfl)) ?_
    repeat' (first
      | (refine (sNodesOf_ok _ _).mono ?_; rw [nz]; rintro w h' ⟨rfl, e'⟩; subst h'; conv => whnf)
      | (refine (nd _).mono ?_; rintro w h' ⟨rfl, e'⟩; subst h'; conv => whnf)
      | (refine (e1 _).mono ?_; rintro w h' ⟨rfl, e'⟩; subst h'; conv => whnf)
      | (rw [q1]; conv => whnf)
      | (refine Br.t q3 ?_; conv => whnf)
      | refine AW.seq ?_
      | (refine AW.region ?_; conv => whnf)
      | (refine AW.skip ?_; conv => whnf)
      | (refine AW.ret ?_; conv => whnf)
      | refine AW.cond (by rfl) ?_
      | (refine (l1In_ok _ _ _ _).mono ?_; rintro v h' ⟨rfl, e'⟩; subst h'; conv => whnf)
      | refine Br.not ?_
      | (refine Br.dt (by omega) ?_; conv => whnf)
      | (refine Wr.i64 (by omega) ?_; conv => whnf)
      | (refine Ck.mk (by omega) ?_; conv => whnf))
    all_goals exact ⟨rfl, rfl⟩
  | node a b =>
    have ezx : (BT.node a b).size = a.size + b.size + 1 := rfl
    have er : rotR t v = some (replB t v (.node a (.node b y))) := by unfold rotR; rw [en]; rfl
    rw [er]
    obtain ⟨X, hX⟩ : ∃ X, X = (BT.node a b).txt := ⟨_, rfl⟩
    have xl : X.length = (BT.node a b).txt.length := by rw [hX]
    rw [← hX] at q1 l1 e1 q2
    obtain ⟨tl2, p12, p22, p32⟩ := txt_parts hX
    have la := a.txt_length
    have lb := b.txt_length
    obtain ⟨q3, q4⟩ := txt_cut hX
    have e2 := fun h0 => end1_ok hX (by omega) h0
    have ne := txt_ne hX
    have l2 : (X.take ((1 + a.txt.length : Nat) : Int).toNat).length = 1 + a.txt.length := by rw [List.length_take]; omega
    have ey : (BT.node a (.node b y)).size ≤ 1000 := by simp only [BT.size]; omega
    have ew : [40] ++ a.txt ++ [40] ++ b.txt ++ y.txt ++ [41, 41] = (BT.node a (.node b y)).txt := by simp [BT.txt]
    have rp := fun h0 => l16Replace_ok (.node a (.node b y)) t t.txt v v h0 rfl rfl hv (by omega) ey
    rw [← ew] at rp
    refine AC.enter Tryz.func103 Tryz.call103 rfl Tryz.ntmps103 (of_decide_eq_true (by rfl)) ?_
    repeat' (first
      | (refine (sNodesOf_ok _ _).mono ?_; rw [nz]; rintro w h' ⟨rfl, e'⟩; subst h'; conv => whnf)
      | (refine (nd _).mono ?_; rintro w h' ⟨rfl, e'⟩; subst h'; conv => whnf)
      | (refine (e1 _).mono ?_; rintro w h' ⟨rfl, e'⟩; subst h'; conv => whnf)
      | (refine (e2 _).mono ?_; rintro w h' ⟨rfl, e'⟩; subst h'; conv => whnf)
      | (refine (rp _).mono ?_; rintro w h' ⟨rfl, e'⟩; subst h'; conv => whnf)
      | (rw [q1]; conv => whnf)
      | (rw [q2]; conv => whnf)
      | (rw [q3]; conv => whnf)
      | (rw [q4]; conv => whnf)
      | (refine Br.f ne ?_; conv => whnf)
      | refine AW.seq ?_
      | (refine AW.region ?_; conv => whnf)
      | (refine AW.skip ?_; conv => whnf)
      | (refine AW.ret ?_; conv => whnf)
      | refine AW.cond (by rfl) ?_
      | (refine AW.draw (id := 9) (.p 0 (.p 1 (.p 2 (.p 3 (.p 4 (.p 5 (.p 6 (.p 7 (.p 8 (.p 9 (.p 10 (.p 11 (.p 12 (.p 13 (.p 14 (.p 15 (.p 16 (.p 17 (.p 18 (.p 19 (.p 20 .done))))))))))))))))))))) (by kernel_rfl) (by kernel_rfl) ?_; conv => whnf)
      | (refine (l1In_ok _ _ _ _).mono ?_; rintro v h' ⟨rfl, e'⟩; subst h'; conv => whnf)
      | refine Br.not ?_
      | (refine Br.dt (by omega) ?_; conv => whnf)
      | (refine Wr.i64 (by omega) ?_; conv => whnf)
      | (refine Ck.mk (by omega) ?_; conv => whnf)
      | (refine Ck.mk (by simp only [List.length_drop, List.length_take, List.length_append, List.length_cons, List.length_nil]; omega) ?_; conv => whnf))
    all_goals exact ⟨rfl, rfl⟩

end Go.Proofs.YtbicfognbbeigaaGreat
