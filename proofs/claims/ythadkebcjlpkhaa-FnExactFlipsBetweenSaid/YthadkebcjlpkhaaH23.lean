/-
  Contracts of the functions that draw triangulations are proved.
  They hold for all codes of at most 1048576 bytes.
-/
import Derived.Test.YthadkebcjlpkhaaH6
import Derived.Test.YthadkebcjlpkhaaH15
import Derived.Test.YthadkebcjlpkhaaC38
import Derived.Test.YthadkebcjlpkhaaC49
import Derived.Test.YthadkebcjlpkhaaH17
set_option linter.unusedVariables false
set_option linter.unusedSimpArgs false
namespace Go.Proofs.Ythadkebcjlpkhaa
open Go.Proofs.Ythadkebcjlpkhaa.Ab Go.Proofs.Ythadkebcjlpkhaa.Pl

/-! the tree of a path -/
def hgtS (c : UInt8) (h : Int) : Int := if (c.toNat : Int) = 117 then h + 1 else h - 1
def cutF : List UInt8 → Int → Option Nat
  | [], _ => none
  | c :: s, h => if hgtS c h = 0 then some 0 else (cutF s (hgtS c h)).map Nat.succ
theorem cutF_lt : ∀ (s : List UInt8) (h : Int) (i : Nat), cutF s h = some i → i < s.length
  | [], _, i, e => by cases e
  | c :: s, h, i, e => by
    unfold cutF at e
    split at e
    · cases e
      simp
    · cases g : cutF s (hgtS c h) with
      | none => rw [g] at e; cases e
      | some j =>
        rw [g] at e
        cases e
        have := cutF_lt s _ j g
        simp
        omega
theorem cutF_pos {s : List UInt8} {i : Nat} (e : cutF s 0 = some i) : 1 ≤ i := by
  cases s with
  | nil => cases e
  | cons c s =>
    unfold cutF at e
    have : hgtS c 0 ≠ 0 := by unfold hgtS; split <;> omega
    rw [if_neg this] at e
    cases g : cutF s (hgtS c 0) with
    | none => rw [g] at e; cases e
    | some j => rw [g] at e; cases e; exact Nat.succ_le_succ (Nat.zero_le _)
def binF : Nat → List UInt8 → Option BT
  | 0, _ => none
  | k + 1, w => if w = [] then some .leaf else match cutF w 0 with
    | none => none
    | some i => match binF k ((w.take i).drop 1), binF k (w.drop (i + 1)) with
      | some a, some b => some (.node a b)
      | _, _ => none
theorem binF_nil {k : Nat} {t : BT} (e : binF k [] = some t) : t = .leaf := by
  cases k with
  | zero => cases e
  | succ k =>
    unfold binF at e
    rw [if_pos rfl] at e
    cases e
    rfl
theorem binF_node {k : Nat} {w : List UInt8} {t : BT} (hw : w ≠ []) (e : binF (k + 1) w = some t) : ∃ i a b, cutF w 0 = some i ∧ binF k ((w.take i).drop 1) = some a ∧ binF k (w.drop (i + 1)) = some b ∧ t = .node a b := by
  unfold binF at e
  rw [if_neg hw] at e
  cases g : cutF w 0 with
  | none => rw [g] at e; cases e
  | some i =>
    rw [g] at e
    dsimp only at e
    cases ga : binF k ((w.take i).drop 1) with
    | none => rw [ga] at e; cases e
    | some a =>
      cases gb : binF k (w.drop (i + 1)) with
      | none => rw [ga, gb] at e; cases e
      | some b =>
        rw [ga, gb] at e
        cases e
        exact ⟨i, a, b, rfl, ga, gb, rfl⟩
def binOk (n : Nat) (w : List UInt8) : Bool := match binF 20 w with
  | some t => t.size == n
  | none => false
set_option maxRecDepth 100000 in
theorem bin_fine : (List.range 7).all (fun n => (dyP n).all (binOk n)) = true := by decide +kernel
theorem bin_at {n : Nat} {w : List UInt8} (hn : n ≤ 6) (h : w ∈ dyP n) : ∃ t, binF 20 w = some t ∧ t.size = n := by
  have := List.all_eq_true.1 (List.all_eq_true.1 bin_fine n (List.mem_range.2 (by omega))) w h
  unfold binOk at this
  cases e : binF 20 w with
  | none => rw [e] at this; cases this
  | some t => rw [e] at this; exact ⟨t, rfl, by simpa using this⟩



/-- rows of a callee beside the drawer -/
theorem CurSt.callR {H0 h h' : H} {c b : Nat} {L : List (Nat × Blk)} {R : RL} (s : CurSt H0 h c L) (t : St h h' ((b, row (slcs R)) :: (blks R ++ []))) : CurSt H0 h' c ((b, row (slcs R)) :: (blks R ++ L)) := by
  obtain ⟨v, l, i, k, h1, h2, h3, h4⟩ := s.ex
  refine ⟨v, l, i, k, h1, h2, h3, (h4.callR t).perm ?_⟩
  refine (List.Perm.cons _ List.perm_middle).trans (.swap _ _ _)

/-- what is known of a triangulation that was drawn -/
structure SmallD (n : Int) (d : List (List Int)) : Prop where
  nb : -1 ≤ n ∧ n ≤ 9223372036854775807
  len : d.length ≤ 6
  rows : ∀ x ∈ d, x.length ≤ 2
  tri : isTri n d = true → 2 ≤ n ∧ n ≤ 8
theorem tri_small {n : Int} {d : List (List Int)} (hd : d.length ≤ 5) (h : isTri n d = true) : 2 ≤ n ∧ n ≤ 8 := by
  have := (isTri_spec h).1
  unfold triSz at this
  omega
theorem tri_one {n : Int} {d : List (List Int)} {x : List Int} (hx : x ∈ d) (h1 : x.length ≠ 2) (h : isTri n d = true) : 2 ≤ n ∧ n ≤ 8 := by
  obtain ⟨i, hi, rfl⟩ := List.getElem_of_mem hx
  have := tri_two h i hi
  rw [show d.getD i [] = d[i] by simp [List.getD, hi]] at this
  exact absurd this h1
def TriDraw (H0 : H) (c : Nat) (L : List (Nat × Blk)) (w : AV) (h' : H) : Prop :=
  ∃ (n : Int) (d : List (List Int)) (b C : Nat) (R : RL), w = .tup [.int .i64 n, .slice b 0 d.length C] ∧ d.length ≤ C ∧ rws R = d ∧ SmallD n d ∧ CurSt H0 h' c ((b, row (slcs R)) :: (blks R ++ L))
theorem tup_len {n : Int} {b N M C : Nat} (e : N = M) : AV.tup [.int .i64 n, .slice b 0 N C] = AV.tup [.int .i64 n, .slice b 0 M C] := by rw [e]
theorem TriDraw.mk' {H0 h' : H} {c : Nat} {L : List (Nat × Blk)} {n : Int} {b N C : Nat} {R : RL} (hN : N = R.length) (hC : N ≤ C) (sm : SmallD n (rws R)) (s : CurSt H0 h' c ((b, row (slcs R)) :: (blks R ++ L))) : TriDraw H0 c L (.tup [.int .i64 n, .slice b 0 N C]) h' := by
  subst hN
  exact ⟨n, rws R, b, C, R, by rw [rws_length], by rw [rws_length]; exact hC, rfl, sm, s⟩
theorem Wr.halfN {m n : Nat} {K : Int → Prop} (h : m = 2 * n) (hn : n ≤ 1000) (hk : K (n : Int)) : Wr .i64 ((m : Int).tdiv 2) K := by
  have e : (m : Int).tdiv 2 = (n : Int) := by
    rw [h]
    have := half_len (2 * n)
    omega
  rw [e]
  exact Wr.i64 (by omega) hk
theorem diagsT_small {t : BT} {n : Nat} (h : t.size = n) (hn : n ≤ 6) : (diagsT t).length ≤ 5 := by
  unfold diagsT
  rw [sortL_len]
  have := sidesB_len t 0 (t.size + 1)
  cases t with
  | leaf => simp [sidesB]
  | node a b =>
    have e : oneB (.node a b) 0 ((BT.node a b).size + 1) = [[((0 : Nat) : Int), (((BT.node a b).size + 1 : Nat) : Int)]] := rfl
    rw [e] at this
    simp only [List.length_cons, List.length_nil] at this
    omega
/-- the first row is replaced -/
theorem StoreG.curRow {H0 h : H} {c b bx sz n : Nat} {L : List (Nat × Blk)} {R : RL} {l : List Int} {K : H → Prop} {u : Nat} (s : CurSt H0 h c ((bx, row (ints l)) :: (b, row (slcs R)) :: (blks R ++ L))) (hi : 0 < R.length) (hs : sz = 1) (hn : n = 0) (hu : u = l.length)
    (hk : ∀ h' R', rws R' = (rws R).set 0 l → R'.length = R.length → CurSt H0 h' c ((b, row (slcs R')) :: (blks R' ++ L)) → K h') : StoreG h b (0 + mulSz n sz) (.slice bx 0 u u) K := by
  subst hn hu
  cases R with
  | nil => simp at hi
  | cons r0 R1 =>
    obtain ⟨v, a, i, k, h1, h2, h3, h4⟩ := s.ex
    refine StoreG.stV (cs := slcs (r0 :: R1)) (n := 0) h4 (.there (.there .here)) hs (by simp) rfl fun h' hs' => hk h' ((bx, l) :: R1) rfl rfl ⟨v, a, i, k, h1, h2, h3, ?_⟩
    have e : (slcs (r0 :: R1)).set 0 (.slice bx 0 l.length l.length) = slcs ((bx, l) :: R1) := rfl
    rw [e] at hs'
    have s2 := hs'.sub (.cons_cons _ (.cons_cons _ (.cons_cons _ (List.sublist_cons_self _ _))))
    exact s2.perm (.cons _ (.swap _ _ _))
/-- a row is put behind the rows -/
theorem AppG.curR {H0 h : H} {c b bz : Nat} {p : Nat × Blk} {L : List (Nat × Blk)} {R : RL} {l : List Int} {K : AV → H → Prop} {bytes N C n' : Nat} (s : CurSt H0 h c (p :: (bz, row (ints l)) :: (b, row (slcs R)) :: (blks R ++ L))) (hN : N = R.length) (hl : n' = l.length) (hb : R.length + 1 ≤ 1000000000) (hy : bytes ≤ 1000)
    (hk : ∀ b' h', CurSt H0 h' c ((b', row (slcs (R ++ [(bz, l)]))) :: (blks (R ++ [(bz, l)]) ++ L)) → K (.slice b' 0 (N + 1) (N + 1)) h') : AppG h (.slice b 0 N C) bytes [.slice bz 0 n' n'] 1 K := by
  obtain ⟨v, a, i, k, h1, h2, h3, h4⟩ := s.ex
  have h5 : St H0 h (p :: (bz, row (ints l)) :: (b, row (slcs R)) :: (blks R ++ (c, curB v i k) :: L)) := h4.perm ((List.Perm.swap _ _ _).trans (.cons _ ((List.Perm.swap _ _ _).trans (.cons _ ((List.Perm.swap _ _ _).trans (.cons _ List.perm_middle.symm))))))
  refine AppG.stR1 h5 hN hl hb hy fun b' h' hs' => hk b' h' ⟨v, a, i, k, h1, h2, h3, ?_⟩
  exact hs'.perm ((List.Perm.cons _ List.perm_middle).trans (.swap _ _ _))
theorem dMem {d : List (List Int)} {l : List Int} (h : ∀ x ∈ d, x.length = 2) (hl : l.length = 2) : ∀ x ∈ d.set 0 l, x.length = 2 := fun x hx => by
  rcases List.mem_or_eq_of_mem_set hx with hx | rfl
  · exact h x hx
  · exact hl

end Go.Proofs.Ythadkebcjlpkhaa

/-
  Plain laws of ways of rotations between trees are proved: a search by breadth over the numbers of trees.
  They hold for trees of at most five nodes.
-/
set_option linter.unusedVariables false
set_option linter.unusedSimpArgs false
namespace Go.Proofs.Ythadkebcjlpkhaa
open Go.Proofs.Ythadkebcjlpkhaa.Ab Go.Proofs.Ythadkebcjlpkhaa.Pl

def eqB : BT → BT → Bool
  | .leaf, .leaf => true
  | .node a b, .node c d => eqB a c && eqB b d
  | _, _ => false
theorem eqB_eq : ∀ {a b : BT}, eqB a b = true → a = b
  | .leaf, .leaf, _ => rfl
  | .node a b, .node c d, h => by
    unfold eqB at h
    rw [Bool.and_eq_true] at h
    rw [eqB_eq h.1, eqB_eq h.2]
  | .leaf, .node _ _, h => by cases h
  | .node _ _, .leaf, h => by cases h
def eqBs : List BT → List BT → Bool
  | [], [] => true
  | x :: l, y :: m => eqB x y && eqBs l m
  | _, _ => false
theorem eqBs_eq : ∀ {l m : List BT}, eqBs l m = true → l = m
  | [], [], _ => rfl
  | x :: l, y :: m, h => by
    unfold eqBs at h
    rw [Bool.and_eq_true] at h
    rw [eqB_eq h.1, eqBs_eq h.2]
  | [], y :: m, h => by cases h
  | x :: l, [], h => by cases h
/-- all trees with so many nodes -/
def allT : Nat → Nat → List BT
  | 0, _ => []
  | k + 1, 0 => [.leaf]
  | k + 1, n + 1 => (List.range (n + 1)).flatMap fun i => (allT k i).flatMap fun l => (allT k (n - i)).map fun r => .node l r
theorem allT_mem : ∀ (t : BT) (k : Nat), t.size < k → t ∈ allT k t.size
  | .leaf, k, h => by
    cases k with
    | zero => omega
    | succ k => exact .head _
  | .node l r, k, h => by
    have ez : (BT.node l r).size = l.size + r.size + 1 := rfl
    rw [ez] at h ⊢
    cases k with
    | zero => omega
    | succ k =>
      refine List.mem_flatMap.2 ⟨l.size, List.mem_range.2 (by omega), List.mem_flatMap.2 ⟨l, allT_mem l k (by omega), List.mem_map.2 ⟨r, ?_, rfl⟩⟩⟩
      rw [show l.size + r.size - l.size = r.size by omega]
      exact allT_mem r k (by omega)
/-- the trees of paths, in their order -/
def trs (n : Nat) : List BT := (dyP n).filterMap (binF 20)
def tr (n i : Nat) : BT := (trs n).getD i .leaf
/-- neighbours by numbers -/
def nbT : Nat → List (List Nat)
  | 0 => [[]]
  | 1 => [[]]
  | 2 => [[1], [0]]
  | 3 => [[1, 2], [3, 0], [4, 0], [4, 1], [2, 3]]
  | 4 => [[1, 2, 3], [4, 6, 0], [5, 7, 0], [6, 8, 0], [5, 9, 1], [10, 2, 4], [11, 3, 1], [12, 8, 2], [13, 3, 7], [10, 11, 4], [12, 5, 9], [13, 6, 9], [13, 7, 10], [8, 11, 12]]
  | 5 => [[1, 2, 3, 4], [5, 7, 8, 0], [6, 9, 11, 0], [7, 10, 12, 0], [8, 11, 13, 0], [6, 14, 17, 1], [15, 20, 2, 5], [16, 21, 3, 1], [17, 22, 4, 1], [18, 10, 23, 2], [19, 24, 3, 9], [20, 25, 4, 2], [21, 26, 13, 3], [22, 27, 4, 12], [15, 16, 28, 5], [18, 29, 6, 14], [19, 30, 7, 14], [20, 31, 8, 5], [19, 32, 9, 15], [33, 10, 16, 18], [34, 11, 17, 6], [35, 22, 12, 7], [36, 13, 8, 21], [37, 24, 25, 9], [38, 26, 10, 23], [39, 27, 11, 23], [40, 27, 12, 24], [41, 13, 25, 26], [29, 30, 31, 14], [32, 34, 15, 28], [33, 35, 16, 28], [34, 36, 17, 28], [33, 37, 18, 29], [38, 19, 30, 32], [39, 20, 31, 29], [40, 36, 21, 30], [41, 22, 31, 35], [38, 39, 23, 32], [40, 24, 33, 37], [41, 25, 34, 37], [41, 26, 35, 38], [27, 36, 39, 40]]
  | _ => []
def nbI (n i : Nat) : List Nat := (nbT n).getD i []
set_option maxRecDepth 100000 in
theorem trs_fine : (List.range 6).all (fun n => (allT 6 n).all (fun t => (trs n).any (eqB t)) && ((trs n).length == (nbT n).length && (trs n).length == (dyP n).length)) = true := by decide +kernel
set_option maxRecDepth 100000 in
theorem nbs_fine : (List.range 6).all (fun n => (List.range (trs n).length).all fun i => (tr n i).size == n && (eqBs (nbrs (tr n i)) ((nbI n i).map (tr n)) && (nbI n i).all fun j => decide (j < (trs n).length))) = true := by decide +kernel
set_option maxRecDepth 100000 in
theorem inj_fine : (List.range 6).all (fun n => (List.range (trs n).length).all fun i => (List.range (trs n).length).all fun j => i == j || !(eqB (tr n i) (tr n j))) = true := by decide +kernel
theorem tr_at {n : Nat} (hn : n ≤ 5) {t : BT} (h : t.size = n) : ∃ i, i < (trs n).length ∧ t = tr n i := by
  have c := List.all_eq_true.1 trs_fine n (List.mem_range.2 (by omega))
  rw [Bool.and_eq_true] at c
  have m := allT_mem t 6 (by omega)
  rw [h] at m
  obtain ⟨u, hu, e⟩ := List.any_eq_true.1 (List.all_eq_true.1 c.1 t m)
  obtain ⟨i, hi, rfl⟩ := List.getElem_of_mem hu
  refine ⟨i, hi, ?_⟩
  rw [eqB_eq e]
  simp only [tr, List.getD, List.getElem?_eq_getElem hi, Option.getD_some]
structure NbOk (n i : Nat) : Prop where
  size : (tr n i).size = n
  nb : nbrs (tr n i) = (nbI n i).map (tr n)
  lt : ∀ j ∈ nbI n i, j < (trs n).length
theorem nb_ok {n i : Nat} (hn : n ≤ 5) (hi : i < (trs n).length) : NbOk n i := by
  have c := List.all_eq_true.1 (List.all_eq_true.1 nbs_fine n (List.mem_range.2 (by omega))) i (List.mem_range.2 hi)
  rw [Bool.and_eq_true, Bool.and_eq_true, beq_iff_eq] at c
  exact ⟨c.1, eqBs_eq c.2.1, fun j hj => of_decide_eq_true (List.all_eq_true.1 c.2.2 j hj)⟩
theorem eqB_refl : ∀ a : BT, eqB a a = true
  | .leaf => rfl
  | .node a b => by unfold eqB; rw [eqB_refl a, eqB_refl b]; rfl
theorem tr_inj {n i j : Nat} (hn : n ≤ 5) (hi : i < (trs n).length) (hj : j < (trs n).length) (h : tr n i = tr n j) : i = j := by
  have c := List.all_eq_true.1 (List.all_eq_true.1 (List.all_eq_true.1 inj_fine n (List.mem_range.2 (by omega))) i (List.mem_range.2 hi)) j (List.mem_range.2 hj)
  rw [Bool.or_eq_true, beq_iff_eq, h, eqB_refl] at c
  exact c.resolve_right (by simp)
theorem txt_inj {a b : BT} (ha : a.size ≤ 8) (hb : b.size ≤ 8) (h : a.txt = b.txt) : a = b := by
  have e1 := treeOf_txt ha
  rw [h, treeOf_txt hb] at e1
  exact (Option.some.inj e1).symm
theorem tr_txt {n i j : Nat} (hn : n ≤ 5) (hi : i < (trs n).length) (hj : j < (trs n).length) : (tr n i).txt = (tr n j).txt ↔ i = j :=
  ⟨fun h => tr_inj hn hi hj (txt_inj (by rw [(nb_ok hn hi).size]; omega) (by rw [(nb_ok hn hj).size]; omega) h), fun h => by rw [h]⟩

/-! the search: trees that were seen, and from where -/
def addS (i : Nat) (s : List Nat × List Int) (x : Nat) : List Nat × List Int := if x ∈ s.1 then s else (s.1 ++ [x], s.2 ++ [(i : Int)])
def rowTo (n i : Nat) (s : List Nat × List Int) (k : Nat) : List Nat × List Int := ((nbI n (s.1.getD i 0)).take k).foldl (addS i) s
def rowS (n i : Nat) (s : List Nat × List Int) : List Nat × List Int := (nbI n (s.1.getD i 0)).foldl (addS i) s
def bfs (n a : Nat) : Nat → List Nat × List Int
  | 0 => ([a], [-1])
  | k + 1 => rowS n k (bfs n a k)
theorem rowTo_succ {n i : Nat} {s : List Nat × List Int} {k : Nat} (h : k < (nbI n (s.1.getD i 0)).length) : rowTo n i s (k + 1) = addS i (rowTo n i s k) ((nbI n (s.1.getD i 0)).getD k 0) := by
  unfold rowTo
  have e : (nbI n (s.1.getD i 0)).getD k 0 = (nbI n (s.1.getD i 0))[k] := by
    generalize nbI n (s.1.getD i 0) = l at h
    simp only [List.getD, List.getElem?_eq_getElem h, Option.getD_some]
  rw [List.take_succ_eq_append_getElem h, List.foldl_append, e]
  rfl
theorem rowTo_all (n i : Nat) (s : List Nat × List Int) : rowTo n i s (nbI n (s.1.getD i 0)).length = rowS n i s := by
  unfold rowTo rowS
  rw [List.take_length]
/-- the way to the place j, backwards: places in the row of what was seen -/
def back (fr : List Int) : Nat → Nat → List Nat
  | 0, _ => []
  | k + 1, j => j :: (if fr.getD j 0 < 0 then [] else back fr k (fr.getD j 0).toNat)
def goalP (s : List Nat) (b : Nat) : Nat := s.findIdx (· == b)
def wayI (n a b : Nat) : List Nat := ((back (bfs n a (trs n).length).2 50 (goalP (bfs n a (trs n).length).1 b)).map fun j => (bfs n a (trs n).length).1.getD j 0).reverse
def bfsOk (n a : Nat) : Bool := (List.range (trs n).length).all (fun k => decide (k < (bfs n a k).1.length)) && (decide ((bfs n a (trs n).length).1.length = (trs n).length) && ((List.range (trs n).length).all fun b => (bfs n a (trs n).length).1.contains b) &&
  (List.range (trs n).length).all fun j => decide ((bfs n a (trs n).length).2.getD j 0 < j ∧ -1 ≤ (bfs n a (trs n).length).2.getD j 0))
set_option maxRecDepth 100000 in
theorem bfs_fine : (List.range 6).all (fun n => (List.range (trs n).length).all (bfsOk n)) = true := by decide +kernel

end Go.Proofs.Ythadkebcjlpkhaa
