/-
  Triangulations are numbered, and the search through flips is checked to give the distance of their trees.
  It holds for at most seven corners.
-/
import Derived.Test.YtbicfognbbeigaaGreatC111
import Derived.Test.YtbicfognbbeigaaGreatH38
import Derived.Test.YtbicfognbbeigaaGreatH22
import Derived.Test.YtbicfognbbeigaaGreatC55
import Derived.Test.YtbicfognbbeigaaGreatH32
import Derived.Test.YtbicfognbbeigaaGreatH30
set_option linter.unusedVariables false
set_option linter.unusedSimpArgs false
namespace Go.Proofs.YtbicfognbbeigaaGreat
open Go.Proofs.YtbicfognbbeigaaGreat.Ab Go.Proofs.YtbicfognbbeigaaGreat.Pl

set_option maxRecDepth 100000
def flT : Nat → List (List Nat)
  | 0 => [[]]
  | 1 => [[]]
  | 2 => [[1], [0]]
  | 3 => [[1, 2], [3, 0], [4, 0], [4, 1], [2, 3]]
  | 4 => [[1, 2, 3], [4, 6, 0], [5, 7, 0], [6, 8, 0], [9, 5, 1], [10, 2, 4], [11, 3, 1], [12, 8, 2], [13, 3, 7], [10, 11, 4], [12, 5, 9], [13, 6, 9], [7, 13, 10], [8, 11, 12]]
  | 5 => [[1, 2, 3, 4], [5, 7, 8, 0], [6, 9, 11, 0], [7, 10, 12, 0], [8, 11, 13, 0], [14, 17, 6, 1], [15, 20, 2, 5], [16, 21, 3, 1], [17, 22, 4, 1], [18, 23, 10, 2], [19, 24, 3, 9], [20, 25, 4, 2], [21, 26, 13, 3], [22, 27, 4, 12], [28, 15, 16, 5], [29, 18, 6, 14], [30, 19, 7, 14], [31, 20, 8, 5], [32, 9, 19, 15], [33, 10, 16, 18], [34, 11, 17, 6], [35, 12, 22, 7], [36, 13, 8, 21], [37, 24, 25, 9], [38, 26, 10, 23], [39, 27, 11, 23], [40, 12, 27, 24], [41, 13, 25, 26], [29, 30, 31, 14], [32, 34, 15, 28], [33, 35, 16, 28], [34, 36, 17, 28], [37, 18, 33, 29], [38, 19, 30, 32], [39, 20, 31, 29], [40, 21, 36, 30], [41, 22, 31, 35], [23, 38, 39, 32], [24, 40, 33, 37], [25, 41, 34, 37], [26, 35, 41, 38], [27, 36, 39, 40]]
  | _ => []
def flI (n a : Nat) : List Nat := (flT n).getD a []

/-! triangulations by their numbers -/
def triNo (n : Nat) (f : List (List Int)) : Bool := (dgT (n - 2)).any (eqIss f)
noncomputable def triNoC (n : Nat) (r : List Nat) : Bool := triNo n (r.reverse.map decR)
theorem triNo_fine : allR (fun n => allC (triNoC n) (n - 3) [] (candC n)) [2, 3, 4, 5, 6, 7] = true := by decide +kernel
theorem dgT_fine : (List.range 6).all (fun n => (dgT n).length == caT n) = true := by decide +kernel
theorem tri_no {N : Nat} {f : List (List Int)} (h : isTri N f = true) (h7 : N ≤ 7) : ∃ i, i < (trs (N - 2)).length ∧ f = dg (N - 2) i := by
  have n2 := (tri_size h).1
  have c : triNoC N ((f.map encR).reverse) = true := (isTri_codes h).all (allR_all triNo_fine N (by simp; omega))
  unfold triNoC at c
  rw [List.reverse_reverse, map_dec h] at c
  obtain ⟨g, hg, e⟩ := List.any_eq_true.1 c
  obtain ⟨i, hi, rfl⟩ := List.getElem_of_mem hg
  have l := beq_iff_eq.1 (List.all_eq_true.1 dgT_fine (N - 2) (List.mem_range.2 (by omega)))
  refine ⟨i, by rw [trs_ca (by omega)]; omega, ?_⟩
  rw [eqIss_eq e]
  unfold dg
  simp only [List.getD, List.getElem?_eq_getElem hi, Option.getD_some]
def eqIsss : List (List (List Int)) → List (List (List Int)) → Bool
  | [], [] => true
  | x :: l, y :: m => eqIss x y && eqIsss l m
  | _, _ => false
theorem eqIsss_eq : ∀ {l m : List (List (List Int))}, eqIsss l m = true → l = m
  | [], [], _ => rfl
  | x :: l, y :: m, h => by
    unfold eqIsss at h
    rw [Bool.and_eq_true] at h
    rw [eqIss_eq h.1, eqIsss_eq h.2]
  | [], y :: m, h => by cases h
  | x :: l, [], h => by cases h
def digB (f : List (List Int)) : Bool := f.all fun x => (x.length == 2) && (decide (0 ≤ x.getD 0 0) && (decide (x.getD 0 0 ≤ 9) && (decide (0 ≤ x.getD 1 0) && decide (x.getD 1 0 ≤ 9))))
theorem digB_ok {f : List (List Int)} (h : digB f = true) : DigF f := fun i hi => by
  have e : f.getD i [] = f[i] := by simp [List.getD, hi]
  have c := List.all_eq_true.1 h (f[i]) (List.getElem_mem hi)
  simp only [Bool.and_eq_true, decide_eq_true_iff, beq_iff_eq] at c
  unfold ent
  rw [e]
  exact ⟨c.1, ⟨c.2.1, c.2.2.1⟩, c.2.2.2.1, c.2.2.2.2⟩
def numOk (n a : Nat) : Bool := isTri ((n + 2 : Nat) : Int) (dg n a) && (eqB (treeT (dg n a) 10 0 (n + 1)) (tr n a) && (eqIsss ((List.range (dg n a).length).map (flipR (n + 2) (dg n a))) ((flI n a).map (dg n)) && ((flI n a).all (fun b => decide (b < caT n)) && (digB (dg n a) && decide ((dg n a).length ≤ 4)))))
theorem num_fine : (List.range 6).all (fun n => (List.range (caT n)).all (numOk n)) = true := by decide +kernel
structure NumOk (n a : Nat) : Prop where
  tri : isTri ((n + 2 : Nat) : Int) (dg n a) = true
  tree : treeT (dg n a) 10 0 (n + 1) = tr n a
  flips : (List.range (dg n a).length).map (flipR (n + 2) (dg n a)) = (flI n a).map (dg n)
  lt : ∀ b ∈ flI n a, b < (trs n).length
  dig : DigF (dg n a)
  len : (dg n a).length ≤ 4
theorem num_ok {n a : Nat} (hn : n ≤ 5) (ha : a < (trs n).length) : NumOk n a := by
  have ca := trs_ca hn
  rw [ca] at ha
  have c := List.all_eq_true.1 (List.all_eq_true.1 num_fine n (List.mem_range.2 (by omega))) a (List.mem_range.2 ha)
  unfold numOk at c
  simp only [Bool.and_eq_true, decide_eq_true_iff] at c
  obtain ⟨c1, c2, c3, c4, c5, c6⟩ := c
  exact ⟨c1, eqB_eq c2, eqIsss_eq c3, fun b hb => by rw [ca]; exact of_decide_eq_true (List.all_eq_true.1 c4 b hb), digB_ok c5, c6⟩

/-! the texts that stand for triangulations -/
def kt (n a : Nat) : List UInt8 := fmtD (dg n a)
def eqU : List UInt8 → List UInt8 → Bool
  | [], [] => true
  | x :: l, y :: m => Nat.beq x.toNat y.toNat && eqU l m
  | _, _ => false
theorem eqU_refl : ∀ l : List UInt8, eqU l l = true
  | [] => rfl
  | x :: l => by
    unfold eqU
    rw [Nat.beq_refl, eqU_refl l]
    rfl
theorem kt_fine : (List.range 6).all (fun n => (List.range (caT n)).all fun a => (List.range (caT n)).all fun b => Nat.beq a b || !(eqU (kt n a) (kt n b))) = true := by decide +kernel
theorem kt_inj {n i j : Nat} (hn : n ≤ 5) (hi : i < (trs n).length) (hj : j < (trs n).length) : kt n i = kt n j ↔ i = j := by
  refine ⟨fun h => ?_, fun h => by rw [h]⟩
  rw [trs_ca hn] at hi hj
  have c := List.all_eq_true.1 (List.all_eq_true.1 (List.all_eq_true.1 kt_fine n (List.mem_range.2 (by omega))) i (List.mem_range.2 hi)) j (List.mem_range.2 hj)
  rw [h, eqU_refl] at c
  rcases (Bool.or_eq_true _ _).mp c with c | c
  · exact Nat.eq_of_beq_eq_true c
  · cases c

/-! the search through flips: triangulations and their steps, in the order in which they are found -/
def keysG (E : List (Nat × Nat)) : List Nat := E.map (·.1)
def addG (s : Nat) (E : List (Nat × Nat)) (y : Nat) : List (Nat × Nat) := if y ∈ keysG E then E else E ++ [(y, s + 1)]
def headG (E : List (Nat × Nat)) (i : Nat) : Nat := (E.getD i (0, 0)).1
def stG (E : List (Nat × Nat)) (i : Nat) : Nat := (E.getD i (0, 0)).2
def rowG (n i : Nat) (E : List (Nat × Nat)) : List (Nat × Nat) := (flI n (headG E i)).foldl (addG (stG E i)) E
def rowToG (n i : Nat) (E : List (Nat × Nat)) (k : Nat) : List (Nat × Nat) := ((flI n (headG E i)).take k).foldl (addG (stG E i)) E
def bfsG (n a : Nat) : Nat → List (Nat × Nat)
  | 0 => [(a, 0)]
  | k + 1 => rowG n k (bfsG n a k)
def goalG (E : List (Nat × Nat)) (b : Nat) : Nat := (keysG E).findIdx (Nat.beq b)
def goalOk (n a : Nat) (E : List (Nat × Nat)) (b : Nat) : Bool := decide (goalG E b < E.length) && (Nat.beq (headG E (goalG E b)) b && Nat.beq (stG E (goalG E b) + 1) (wy n a b).length)
def bfsGOk (n a : Nat) (E : List (Nat × Nat)) : Bool := (List.range (caT n)).all (fun k => decide (k < (bfsG n a k).length)) && (decide (E.length = caT n) && ((List.range (caT n)).all (goalOk n a E)))
theorem bfsG_low : (List.range 5).all (fun n => (List.range (caT n)).all fun a => bfsGOk n a (bfsG n a (caT n))) = true := by decide +kernel
theorem bfsG_0 : (List.range 14).all (fun a => bfsGOk 5 (0 + a) (bfsG 5 (0 + a) 42)) = true := by decide +kernel
theorem bfsG_1 : (List.range 14).all (fun a => bfsGOk 5 (14 + a) (bfsG 5 (14 + a) 42)) = true := by decide +kernel
theorem bfsG_2 : (List.range 14).all (fun a => bfsGOk 5 (28 + a) (bfsG 5 (28 + a) 42)) = true := by decide +kernel
theorem bfsG_at {n a : Nat} (hn : n ≤ 5) (ha : a < (trs n).length) : bfsGOk n a (bfsG n a (trs n).length) = true := by
  rw [trs_ca hn] at ha ⊢
  by_cases h : n < 5
  · exact List.all_eq_true.1 (List.all_eq_true.1 bfsG_low n (List.mem_range.2 h)) a (List.mem_range.2 ha)
  · obtain rfl : n = 5 := by omega
    have ha : a < 42 := ha
    show bfsGOk 5 a (bfsG 5 a 42) = true
    by_cases h1 : a < 14
    · have := List.all_eq_true.1 bfsG_0 (a - 0) (List.mem_range.2 (by omega))
      rwa [show 0 + (a - 0) = a by omega] at this
    · by_cases h2 : a < 28
      · have := List.all_eq_true.1 bfsG_1 (a - 14) (List.mem_range.2 (by omega))
        rwa [show 14 + (a - 14) = a by omega] at this
      · have := List.all_eq_true.1 bfsG_2 (a - 28) (List.mem_range.2 (by omega))
        rwa [show 28 + (a - 28) = a by omega] at this
structure BfsG (n a b : Nat) : Prop where
  more : ∀ k, k < (trs n).length → k < (bfsG n a k).length
  len : (bfsG n a (trs n).length).length = (trs n).length
  pos : goalG (bfsG n a (trs n).length) b < (trs n).length
  head : headG (bfsG n a (trs n).length) (goalG (bfsG n a (trs n).length) b) = b
  steps : stG (bfsG n a (trs n).length) (goalG (bfsG n a (trs n).length) b) + 1 = (wayI n a b).length
theorem bfsG_ok {n a b : Nat} (hn : n ≤ 5) (ha : a < (trs n).length) (hb : b < (trs n).length) : BfsG n a b := by
  have c := bfsG_at hn ha
  have ca := trs_ca hn
  unfold bfsGOk at c
  rw [Bool.and_eq_true, Bool.and_eq_true, decide_eq_true_iff, ← ca] at c
  obtain ⟨c1, c2, c3⟩ := c
  have c4 := List.all_eq_true.1 c3 b (List.mem_range.2 hb)
  unfold goalOk at c4
  rw [Bool.and_eq_true, Bool.and_eq_true, decide_eq_true_iff] at c4
  obtain ⟨g1, g2, g3⟩ := c4
  exact ⟨fun k hk => of_decide_eq_true (List.all_eq_true.1 c1 k (List.mem_range.2 hk)), c2, by omega, Nat.eq_of_beq_eq_true g2, by rw [wy_eq hn ha hb]; exact Nat.eq_of_beq_eq_true g3⟩

/-! what the search keeps -/
structure GOk (n : Nat) (E : List (Nat × Nat)) : Prop where
  mem : ∀ p ∈ E, p.1 < (trs n).length ∧ p.2 ≤ E.length
  nodup : (keysG E).Nodup
theorem keysG_len (E : List (Nat × Nat)) : (keysG E).length = E.length := List.length_map _
theorem keysG_append (A B : List (Nat × Nat)) : keysG (A ++ B) = keysG A ++ keysG B := List.map_append
theorem GOk.keys {n : Nat} {E : List (Nat × Nat)} (h : GOk n E) : ∀ x ∈ keysG E, x < (trs n).length := fun x hx => by
  obtain ⟨p, hp, rfl⟩ := List.mem_map.1 hx
  exact (h.mem p hp).1
theorem atG {E : List (Nat × Nat)} {i : Nat} (hi : i < E.length) : (headG E i, stG E i) ∈ E := by
  unfold headG stG
  rw [show E.getD i (0, 0) = E[i] by simp only [List.getD, List.getElem?_eq_getElem hi, Option.getD_some]]
  exact List.getElem_mem hi
theorem GOk.head {n i : Nat} {E : List (Nat × Nat)} (h : GOk n E) (hi : i < E.length) : headG E i < (trs n).length ∧ stG E i ≤ E.length := h.mem _ (atG hi)
theorem GOk.add {n y s : Nat} {E : List (Nat × Nat)} (h : GOk n E) (hy : y < (trs n).length) (hs : s ≤ E.length) : GOk n (addG s E y) := by
  unfold addG
  split
  · exact h
  · rename_i hno
    refine ⟨fun p hp => ?_, ?_⟩
    · rw [List.length_append]
      rcases List.mem_append.1 hp with hp | hp
      · have := h.mem p hp
        exact ⟨this.1, by omega⟩
      · cases List.mem_singleton.1 hp
        exact ⟨hy, by simp; omega⟩
    · unfold keysG at hno ⊢
      rw [List.map_append, List.nodup_append]
      refine ⟨h.nodup, by simp, fun a ha b hb => ?_⟩
      cases List.mem_singleton.1 hb
      intro e
      have e2 : a = y := e
      subst e2
      exact hno ha
theorem addG_len (s : Nat) (E : List (Nat × Nat)) (y : Nat) : E.length ≤ (addG s E y).length := by
  unfold addG
  split <;> simp
theorem GOk.fold {n s : Nat} : ∀ {l : List Nat} {E : List (Nat × Nat)}, GOk n E → s ≤ E.length → (∀ y ∈ l, y < (trs n).length) → GOk n (l.foldl (addG s) E)
  | [], _, h, _, _ => h
  | y :: l, E, h, hs, hl => by
    show GOk n (l.foldl (addG s) (addG s E y))
    exact GOk.fold (l := l) (E := addG s E y) (h.add (hl y (.head _)) hs) (Nat.le_trans hs (addG_len s E y)) fun z hz => hl z (.tail _ hz)
theorem addG_pre (s : Nat) (E : List (Nat × Nat)) (y : Nat) : ∃ G, addG s E y = E ++ G := by
  unfold addG
  split
  · exact ⟨[], by simp⟩
  · exact ⟨_, rfl⟩
theorem foldG_pre (s : Nat) : ∀ (l : List Nat) (E : List (Nat × Nat)), ∃ G, l.foldl (addG s) E = E ++ G
  | [], E => ⟨[], by simp⟩
  | y :: l, E => by
    obtain ⟨G, e⟩ := addG_pre s E y
    obtain ⟨G2, e2⟩ := foldG_pre s l (addG s E y)
    refine ⟨G ++ G2, ?_⟩
    show l.foldl (addG s) (addG s E y) = _
    rw [e2, e, List.append_assoc]
theorem headG_pre {E G : List (Nat × Nat)} {i : Nat} (hi : i < E.length) : headG (E ++ G) i = headG E i ∧ stG (E ++ G) i = stG E i := by
  unfold headG stG
  rw [show (E ++ G).getD i (0, 0) = E.getD i (0, 0) by simp only [List.getD, List.getElem?_append_left hi]]
  exact ⟨rfl, rfl⟩
theorem bfsG_pre (n a : Nat) : ∀ (j k : Nat), ∃ G, bfsG n a (k + j) = bfsG n a k ++ G
  | 0, k => ⟨[], by simp⟩
  | j + 1, k => by
    obtain ⟨G, e⟩ := bfsG_pre n a j k
    obtain ⟨G2, e2⟩ := foldG_pre (stG (bfsG n a (k + j)) (k + j)) (flI n (headG (bfsG n a (k + j)) (k + j))) (bfsG n a (k + j))
    refine ⟨G ++ G2, ?_⟩
    show rowG n (k + j) (bfsG n a (k + j)) = _
    unfold rowG
    rw [e2]
    conv => lhs; lhs; rw [e]
    rw [List.append_assoc]
theorem bfsG_E {n a : Nat} (hn : n ≤ 5) (ha : a < (trs n).length) (mo : ∀ k, k < (trs n).length → k < (bfsG n a k).length) : ∀ k, k ≤ (trs n).length → GOk n (bfsG n a k)
  | 0, _ => ⟨fun p hp => by cases List.mem_singleton.1 hp; exact ⟨ha, by simp⟩, by simp [bfsG, keysG]⟩
  | k + 1, hk => by
    have ih := bfsG_E hn ha mo k (by omega)
    have m := mo k (by omega)
    have hh := ih.head m
    exact ih.fold hh.2 (num_ok hn hh.1).lt
theorem rowToG_E {n k : Nat} {E : List (Nat × Nat)} (q : Nat) (hn : n ≤ 5) (h : GOk n E) (hk : k < E.length) : GOk n (rowToG n k E q) := by
  have hh := h.head hk
  exact h.fold hh.2 fun y hy => (num_ok hn hh.1).lt y (List.mem_of_mem_take hy)
theorem rowToG_succ {n i : Nat} {E : List (Nat × Nat)} {k : Nat} (h : k < (flI n (headG E i)).length) : rowToG n i E (k + 1) = addG (stG E i) (rowToG n i E k) ((flI n (headG E i)).getD k 0) := by
  unfold rowToG
  have e : (flI n (headG E i)).getD k 0 = (flI n (headG E i))[k] := by
    generalize flI n (headG E i) = l at h
    simp only [List.getD, List.getElem?_eq_getElem h, Option.getD_some]
  rw [List.take_succ_eq_append_getElem h, List.foldl_append, e]
  rfl
theorem rowToG_all (n i : Nat) (E : List (Nat × Nat)) : rowToG n i E (flI n (headG E i)).length = rowG n i E := by
  unfold rowToG rowG
  rw [List.take_length]
theorem gents_bound {n : Nat} {E : List (Nat × Nat)} (h : GOk n E) : E.length ≤ (trs n).length := by
  rw [← keysG_len E]
  have : (keysG E).length ≤ (List.range (trs n).length).length := List.Nodup.length_le_of_subset h.nodup fun x hx => List.mem_range.2 (h.keys x hx)
  rwa [List.length_range] at this

end Go.Proofs.YtbicfognbbeigaaGreat

/-
  Flips between triangulations have their contract proved for the reference, and what the program's search keeps in memory is described.
  It holds for at most seven corners.
-/
set_option linter.unusedVariables false
set_option linter.unusedSimpArgs false
namespace Go.Proofs.YtbicfognbbeigaaGreat
open Go.Proofs.YtbicfognbbeigaaGreat.Ab Go.Proofs.YtbicfognbbeigaaGreat.Pl

/-- two triangulations with at most seven corners -/
def fitT (n : Int) (f g : List (List Int)) : Prop := isTri n f = true ∧ isTri n g = true ∧ n ≤ 7
theorem fitT_num {n : Int} {f g : List (List Int)} (h : fitT n f g) : ∃ m i j : Nat, n = ((m + 2 : Nat) : Int) ∧ m ≤ 5 ∧ i < (trs m).length ∧ j < (trs m).length ∧ f = dg m i ∧ g = dg m j := by
  obtain ⟨h1, h2, h3⟩ := h
  obtain ⟨N, rfl⟩ := isTri_int h1
  have sz := (tri_size h1).1
  obtain ⟨i, hi, e1⟩ := tri_no h1 (by omega)
  obtain ⟨j, hj, e2⟩ := tri_no h2 (by omega)
  exact ⟨N - 2, i, j, by omega, by omega, hi, hj, e1, e2⟩
theorem binT_num {n i : Nat} (hn : n ≤ 5) (hi : i < (trs n).length) : binT ((n + 2 : Nat) : Int) (dg n i) = ((tr n i).txt, true) := by
  have k := num_ok hn hi
  unfold binT
  rw [if_pos k.tri, Int.toNat_natCast, show n + 2 - 1 = n + 1 by omega, k.tree]

set_option maxHeartbeats 1000000 in
theorem sBetween_ok (n i j : Nat) (R S : RL) (b c M M' C C' : Nat) (h0 : H) (hn : n ≤ 5) (hi : i < (trs n).length) (hj : j < (trs n).length) (hb : Grid h0 b R) (hR : rws R = dg n i) (hM : M = (dg n i).length) (hc' : Grid h0 c S) (hS : rws S = dg n j) (hM' : M' = (dg n j).length) :
    AC env 26 [.int .i64 ((n + 2 : Nat) : Int), .slice b 0 M C, .slice c 0 M' C'] h0 fun w h' => w = .int .i64 (((wayI n i j).length : Int) - 1) ∧ Keeps h0 h' := by
  have ki := num_ok hn hi
  have kj := num_ok hn hj
  have li := ki.len
  have lj := kj.len
  have bi := binT_num hn hi
  have bj := binT_num hn hj
  have dl := (dis_ok hn hi hj).len
  refine AC.enter Tryz.func26 Tryz.call26 rfl Tryz.ntmps26 (of_decide_eq_true (by rfl)) ?_
  repeat' (first
    | (refine (sBinT_ok ((n + 2 : Nat) : Int) R (dg n i) b M C _ hb hR hM (by omega) (by omega)).mono ?_; rw [bi]; rintro w h' ⟨rfl, e'⟩; subst h'; conv => whnf)
    | (refine (sBinT_ok ((n + 2 : Nat) : Int) S (dg n j) c M' C' _ hc' hS hM' (by omega) (by omega)).mono ?_; rw [bj]; rintro w h' ⟨rfl, e'⟩; subst h'; conv => whnf)
    | (refine (sDist_ok n i j _ hn hi hj (by omega)).mono ?_; rintro w h' ⟨rfl, hk⟩; conv => whnf)
    | refine AW.seq ?_
    | (refine AW.region ?_; conv => whnf)
    | (refine AW.skip ?_; conv => whnf)
    | (refine AW.ret ?_; conv => whnf)
    | refine AW.cond (by rfl) ?_
    | (refine Br.ff ?_; conv => whnf)
    | (refine Br.df (by omega) ?_; conv => whnf))
  all_goals exact ⟨rfl, hk⟩
theorem sBetweenNo_ok (n : Int) (f g : List (List Int)) (R S : RL) (b c M M' C C' : Nat) (h0 : H) (no : ¬ fitT n f g) (hn : -9223372036854775808 ≤ n ∧ n ≤ 9223372036854775807) (hb : Grid h0 b R) (hR : rws R = f) (hM : M = f.length) (hl : M ≤ 1000000000) (hc' : Grid h0 c S) (hS : rws S = g) (hM' : M' = g.length) (hl' : M' ≤ 1000000000) :
    AC env 26 [.int .i64 n, .slice b 0 M C, .slice c 0 M' C'] h0 fun w h' => w = .int .i64 (-1) ∧ h' = h0 := by
  cases h1 : isTri n f with
  | false =>
    have bi : binT n f = ([], false) := if_neg (by rw [h1]; simp)
    refine AC.enter Tryz.func26 Tryz.call26 rfl Tryz.ntmps26 (of_decide_eq_true (by rfl)) ?_
    repeat' (first
      | (refine (sBinT_ok n R f b M C _ hb hR hM (by omega) hn).mono ?_; rw [bi]; rintro w h' ⟨rfl, e'⟩; subst h'; conv => whnf)
      | (refine (sBinT_ok n S g c M' C' _ hc' hS hM' (by omega) hn).mono ?_; rintro w h' ⟨rfl, e'⟩; subst h'; conv => whnf)
      | refine AW.seq ?_
      | (refine AW.region ?_; conv => whnf)
      | (refine AW.ret ?_; conv => whnf)
      | refine AW.cond (by rfl) ?_
      | (refine Br.tt ?_; conv => whnf))
    all_goals exact ⟨rfl, rfl⟩
  | true =>
    have bi : binT n f = ((treeT f 10 0 (n.toNat - 1)).txt, true) := if_pos h1
    cases h2 : isTri n g with
    | false =>
      have bj : binT n g = ([], false) := if_neg (by rw [h2]; simp)
      refine AC.enter Tryz.func26 Tryz.call26 rfl Tryz.ntmps26 (of_decide_eq_true (by rfl)) ?_
      repeat' (first
        | (refine (sBinT_ok n R f b M C _ hb hR hM (by omega) hn).mono ?_; rw [bi]; rintro w h' ⟨rfl, e'⟩; subst h'; conv => whnf)
        | (refine (sBinT_ok n S g c M' C' _ hc' hS hM' (by omega) hn).mono ?_; rw [bj]; rintro w h' ⟨rfl, e'⟩; subst h'; conv => whnf)
        | refine AW.seq ?_
        | (refine AW.region ?_; conv => whnf)
        | (refine AW.ret ?_; conv => whnf)
        | refine AW.cond (by rfl) ?_
        | (refine Br.tt ?_; conv => whnf)
        | (refine Br.ff ?_; conv => whnf))
      all_goals exact ⟨rfl, rfl⟩
    | true =>
      have bj : binT n g = ((treeT g 10 0 (n.toNat - 1)).txt, true) := if_pos h2
      have big : ¬ n ≤ 7 := fun h => no ⟨h1, h2, h⟩
      refine AC.enter Tryz.func26 Tryz.call26 rfl Tryz.ntmps26 (of_decide_eq_true (by rfl)) ?_
      repeat' (first
        | (refine (sBinT_ok n R f b M C _ hb hR hM (by omega) hn).mono ?_; rw [bi]; rintro w h' ⟨rfl, e'⟩; subst h'; conv => whnf)
        | (refine (sBinT_ok n S g c M' C' _ hc' hS hM' (by omega) hn).mono ?_; rw [bj]; rintro w h' ⟨rfl, e'⟩; subst h'; conv => whnf)
        | refine AW.seq ?_
        | (refine AW.region ?_; conv => whnf)
        | (refine AW.ret ?_; conv => whnf)
        | refine AW.cond (by rfl) ?_
        | (refine Br.ff ?_; conv => whnf)
        | (refine Br.dt (by omega) ?_; conv => whnf))
      all_goals exact ⟨rfl, rfl⟩

/-! the program's search: its map and what is left to do -/
def entsG (n : Nat) (E : List (Nat × Nat)) : List (AV × AV) := E.map fun p => (AV.str (kt n p.1), AV.int .i64 ((p.2 : Nat) : Int))
theorem entsG_append (n : Nat) (A B : List (Nat × Nat)) : entsG n (A ++ B) = entsG n A ++ entsG n B := List.map_append
theorem kt_small {n i : Nat} (hn : n ≤ 5) (hi : i < (trs n).length) : (kt n i).length ≤ 1000000 := by
  have := fmtD_len (f := dg n i) (by have := (num_ok hn hi).len; omega)
  unfold kt
  omega
theorem entsG_ok {n : Nat} (hn : n ≤ 5) {E : List (Nat × Nat)} (h : GOk n E) : ∀ p ∈ entsG n E, KOk env.P 9 p.1 := fun p hp => by
  obtain ⟨q, hq, rfl⟩ := List.mem_map.1 hp
  exact strKOk strUnder (kt_small hn (h.mem q hq).1)
theorem entsG_no {n : Nat} (hn : n ≤ 5) {E : List (Nat × Nat)} (h : GOk n E) {y : Nat} (hy : y < (trs n).length) (no : y ∉ keysG E) : ∀ u, (AV.str (kt n y), u) ∉ entsG n E := fun u hu => by
  obtain ⟨q, hq, e⟩ := List.mem_map.1 hu
  injection e with e1 e2
  injection e1 with e1
  have := (kt_inj hn (h.mem q hq).1 hy).1 e1
  exact no (this ▸ List.mem_map.2 ⟨q, hq, rfl⟩)
theorem nodupG_one : ∀ {E : List (Nat × Nat)} {p q : Nat × Nat}, (keysG E).Nodup → p ∈ E → q ∈ E → p.1 = q.1 → p = q
  | r :: E, p, q, h, hp, hq, e => by
    have h2 : r.1 ∉ keysG E ∧ (keysG E).Nodup := List.nodup_cons.1 h
    cases hp with
    | head =>
      cases hq with
      | head => rfl
      | tail _ hq => exact absurd (List.mem_map.2 ⟨q, hq, e.symm⟩) h2.1
    | tail _ hp =>
      cases hq with
      | head => exact absurd (List.mem_map.2 ⟨p, hp, e⟩) h2.1
      | tail _ hq => exact nodupG_one h2.2 hp hq e
def valG (E : List (Nat × Nat)) (y : Nat) : Nat := match E.find? fun p => p.1 == y with
  | some p => p.2
  | none => 0
theorem valG_at {n i : Nat} {E : List (Nat × Nat)} (h : GOk n E) (hi : i < E.length) : valG E (headG E i) = stG E i ∧ headG E i ∈ keysG E := by
  have m := atG hi
  have mk : headG E i ∈ keysG E := List.mem_map.2 ⟨_, m, rfl⟩
  refine ⟨?_, mk⟩
  unfold valG
  cases hf : E.find? (fun p => p.1 == headG E i) with
  | none => exact absurd (List.find?_eq_none.1 hf _ m) (by simp)
  | some q =>
    have q1 := List.mem_of_find?_eq_some hf
    have q2 : q.1 = headG E i := by simpa using List.find?_some hf
    have := nodupG_one h.nodup q1 m q2
    rw [this]
theorem LookG.key {n : Nat} {h0 h : H} {L : List (Nat × Blk)} {b y : Nat} {E : List (Nat × Nat)} {K : AV → Bool → Prop} (hn : n ≤ 5) (s : St h0 h L) (m : (b, .map (entsG n E)) ∈ L) (ok : GOk n E) (hy : y < (trs n).length)
    (hk : K (.int .i64 ((valG E y : Nat) : Int)) (decide (y ∈ keysG E))) : LookG env.P 9 h b (.str (kt n y)) (.int .i64 0) K := by
  have ka := strKOk (P := env.P) strUnder (kt_small hn hy)
  by_cases c : y ∈ keysG E
  · rw [decide_eq_true c] at hk
    obtain ⟨p, hp, e⟩ := List.mem_map.1 c
    have f : ∃ q, E.find? (fun p => p.1 == y) = some q := by
      cases hf : E.find? (fun p => p.1 == y) with
      | none => exact absurd (List.find?_eq_none.1 hf p hp) (by simp [e])
      | some q => exact ⟨q, rfl⟩
    obtain ⟨q, hq⟩ := f
    have q1 := List.mem_of_find?_eq_some hq
    have q2 : q.1 = y := by simpa using List.find?_some hq
    have ep : valG E y = q.2 := by unfold valG; rw [hq]
    rw [ep] at hk
    refine .hitSt s m (strLaw strUnder) (entsG_ok hn ok) ka (v := .int .i64 ((q.2 : Nat) : Int)) (List.mem_map.2 ⟨q, q1, by rw [q2]⟩) (fun u hu => ?_) hk
    obtain ⟨r, hr, e⟩ := List.mem_map.1 hu
    injection e with e1 e2
    injection e1 with e1
    have r1 := (kt_inj hn (ok.mem r hr).1 hy).1 e1
    have : r = q := nodupG_one ok.nodup hr q1 (by rw [r1, q2])
    rw [← e2, this]
  · rw [decide_eq_false c] at hk
    have ep : valG E y = 0 := by
      unfold valG
      cases hf : E.find? (fun p => p.1 == y) with
      | none => rfl
      | some q =>
        have q1 := List.mem_of_find?_eq_some hf
        have q2 : q.1 = y := by simpa using List.find?_some hf
        exact absurd (List.mem_map.2 ⟨q, q1, q2⟩) c
    rw [ep] at hk
    exact .missSt s m (strLaw strUnder) (entsG_ok hn ok) ka (entsG_no hn ok hy c) hk
/-- rows that were there before, or are among the blocks -/
def GridX (h0 : H) (X : List (Nat × Blk)) (b : Nat) (R : RL) : Prop := Grid h0 b R ∨ ((b, row (slcs R)) ∈ X ∧ ∀ p ∈ blks R, p ∈ X)
theorem GridX.at {h0 h : H} {X L : List (Nat × Blk)} {b : Nat} {R : RL} (g : GridX h0 X b R) (s : St h0 h L) (hX : ∀ p ∈ X, p ∈ L) : Grid h b R := by
  rcases g with g | ⟨g1, g2⟩
  · exact g.arg s
  · exact s.rowsIn (hX _ g1) fun p hp => hX _ (g2 p hp)
theorem GridX.more {h0 : H} {X Y : List (Nat × Blk)} {b : Nat} {R : RL} (g : GridX h0 X b R) (hX : ∀ p ∈ X, p ∈ Y) : GridX h0 Y b R := g.imp id fun g => ⟨hX _ g.1, fun p hp => hX _ (g.2 p hp)⟩
/-- the row of what is left to do -/
structure TodoOk (h0 : H) (X : List (Nat × Blk)) (n : Nat) (T : List AV) (E : List (Nat × Nat)) : Prop where
  len : T.length = E.length
  is : ∀ q, q < E.length → ∃ b R C, T[q]? = some (.slice b 0 (dg n (headG E q)).length C) ∧ (dg n (headG E q)).length ≤ C ∧ rws R = dg n (headG E q) ∧ GridX h0 X b R
theorem TodoOk.more {h0 : H} {X Y : List (Nat × Blk)} {n : Nat} {T : List AV} {E : List (Nat × Nat)} (t : TodoOk h0 X n T E) (hX : ∀ p ∈ X, p ∈ Y) : TodoOk h0 Y n T E :=
  ⟨t.len, fun q hq => by
    obtain ⟨b, R, C, h1, h2, h3, h4⟩ := t.is q hq
    exact ⟨b, R, C, h1, h2, h3, h4.more hX⟩⟩
theorem TodoOk.snoc {h0 : H} {X : List (Nat × Blk)} {n y s b m C : Nat} {R : RL} {T : List AV} {E : List (Nat × Nat)} (t : TodoOk h0 X n T E) (hm : m = (dg n y).length) (hC : m ≤ C) (hR : rws R = dg n y) (g : GridX h0 X b R) : TodoOk h0 X n (T ++ [.slice b 0 m C]) (E ++ [(y, s)]) := by
  have tl := t.len
  refine ⟨by simp [tl], fun q hq => ?_⟩
  rw [List.length_append, List.length_cons, List.length_nil] at hq
  by_cases c : q < E.length
  · obtain ⟨b1, R1, C1, h1, h2, h3, h4⟩ := t.is q c
    rw [(headG_pre c).1]
    exact ⟨b1, R1, C1, by rw [List.getElem?_append_left (by omega)]; exact h1, h2, h3, h4⟩
  · have e : q = E.length := by omega
    have eh : headG (E ++ [(y, s)]) q = y := by
      unfold headG
      rw [e]
      simp [List.getD]
    rw [eh]
    refine ⟨b, R, C, ?_, by omega, hR, g⟩
    rw [e, ← tl, List.getElem?_append_right (Nat.le_refl _), Nat.sub_self, hm]
    rfl

end Go.Proofs.YtbicfognbbeigaaGreat
