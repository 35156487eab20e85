/-
  The search for a shortest way of rotations is checked.
  It holds for trees of at most five nodes.
-/
import Derived.Test.YtbicfognbbeigaaGreatH29
import Derived.Test.YtbicfognbbeigaaGreatH30
import Derived.Test.YtbicfognbbeigaaGreatC60
set_option linter.unusedVariables false
set_option linter.unusedSimpArgs false
namespace Go.Proofs.YtbicfognbbeigaaGreat

/-! the search as the map keeps it: a tree and the one from which it was reached -/
def keysE (E : List (Nat × Option Nat)) : List Nat := E.map (·.1)
def addE (x : Nat) (E : List (Nat × Option Nat)) (y : Nat) : List (Nat × Option Nat) := if y ∈ keysE E then E else E ++ [(y, some x)]
def headE (E : List (Nat × Option Nat)) (i : Nat) : Nat := (keysE E).getD i 0
def rowE (n i : Nat) (E : List (Nat × Option Nat)) : List (Nat × Option Nat) := (nbI n (headE E i)).foldl (addE (headE E i)) E
def rowToE (n i : Nat) (E : List (Nat × Option Nat)) (k : Nat) : List (Nat × Option Nat) := ((nbI n (headE E i)).take k).foldl (addE (headE E i)) E
def bfsE (n a : Nat) : Nat → List (Nat × Option Nat)
  | 0 => [(a, none)]
  | k + 1 => rowE n k (bfsE n a k)
def parE (E : List (Nat × Option Nat)) (y : Nat) : Option Nat := match E.find? fun p => p.1 == y with
  | some p => p.2
  | none => none
def pathO (E : List (Nat × Option Nat)) : Nat → Nat → Option (List Nat)
  | 0, _ => none
  | f + 1, y => match parE E y with
    | none => some [y]
    | some x => (pathO E f x).map (y :: ·)
def stopE (n a b : Nat) : Nat := (List.range ((trs n).length + 1)).findIdx fun k => (keysE (bfsE n a k)).contains b
def eqO (o : Option (List Nat)) (l : List Nat) : Bool := match o with
  | some m => m == l
  | none => false
def wayOk (n a b : Nat) : Bool := (keysE (bfsE n a (trs n).length)).contains b && eqO (pathO (bfsE n a (trs n).length) 50 b) (wayI n a b).reverse
def bfsEOk (n a : Nat) : Bool := (List.range (trs n).length).all (fun k => decide (k < (bfsE n a k).length)) && decide ((bfsE n a (trs n).length).length ≤ 42)
set_option maxRecDepth 100000 in
theorem bfsE_fine : (List.range 6).all (fun n => (List.range (trs n).length).all (bfsEOk n)) = true := by decide +kernel
set_option maxRecDepth 100000 in
theorem wayE_low : (List.range 5).all (fun n => (List.range (trs n).length).all fun a => (List.range (trs n).length).all (wayOk n a)) = true := by decide +kernel
set_option maxRecDepth 100000 in
theorem wayE_0 : (List.range 7).all (fun a => (List.range 42).all (wayOk 5 (0 + a))) = true := by decide +kernel
set_option maxRecDepth 100000 in
theorem wayE_1 : (List.range 7).all (fun a => (List.range 42).all (wayOk 5 (7 + a))) = true := by decide +kernel
set_option maxRecDepth 100000 in
theorem wayE_2 : (List.range 7).all (fun a => (List.range 42).all (wayOk 5 (14 + a))) = true := by decide +kernel
set_option maxRecDepth 100000 in
theorem wayE_3 : (List.range 7).all (fun a => (List.range 42).all (wayOk 5 (21 + a))) = true := by decide +kernel
set_option maxRecDepth 100000 in
theorem wayE_4 : (List.range 7).all (fun a => (List.range 42).all (wayOk 5 (28 + a))) = true := by decide +kernel
set_option maxRecDepth 100000 in
theorem wayE_5 : (List.range 7).all (fun a => (List.range 42).all (wayOk 5 (35 + a))) = true := by decide +kernel
theorem trs_5 : (trs 5).length = 42 := by decide +kernel
theorem wayE_ok {n a b : Nat} (hn : n ≤ 5) (ha : a < (trs n).length) (hb : b < (trs n).length) : wayOk n a b = true := by
  by_cases h : n < 5
  · exact List.all_eq_true.1 (List.all_eq_true.1 (List.all_eq_true.1 wayE_low n (List.mem_range.2 h)) a (List.mem_range.2 ha)) b (List.mem_range.2 hb)
  · obtain rfl : n = 5 := by omega
    rw [trs_5] at ha hb
    have g : ∀ c, (List.range 7).all (fun a => (List.range 42).all (wayOk 5 (c + a))) = true → c ≤ a → a < c + 7 → wayOk 5 a b = true := fun c h l u => by
      have := List.all_eq_true.1 (List.all_eq_true.1 h (a - c) (List.mem_range.2 (by omega))) b (List.mem_range.2 hb)
      rwa [show c + (a - c) = a by omega] at this
    by_cases h1 : a < 7
    · exact g 0 wayE_0 (by omega) (by omega)
    by_cases h2 : a < 14
    · exact g 7 wayE_1 (by omega) (by omega)
    by_cases h3 : a < 21
    · exact g 14 wayE_2 (by omega) (by omega)
    by_cases h4 : a < 28
    · exact g 21 wayE_3 (by omega) (by omega)
    by_cases h5 : a < 35
    · exact g 28 wayE_4 (by omega) (by omega)
    exact g 35 wayE_5 (by omega) (by omega)
theorem rowToE_succ {n i : Nat} {E : List (Nat × Option Nat)} {k : Nat} (h : k < (nbI n (headE E i)).length) : rowToE n i E (k + 1) = addE (headE E i) (rowToE n i E k) ((nbI n (headE E i)).getD k 0) := by
  unfold rowToE
  have e : (nbI n (headE E i)).getD k 0 = (nbI n (headE E i))[k] := by
    generalize nbI n (headE E i) = l at h
    simp only [List.getD, List.getElem?_eq_getElem h, Option.getD_some]
  rw [List.take_succ_eq_append_getElem h, List.foldl_append, e]
  rfl
theorem rowToE_all (n i : Nat) (E : List (Nat × Option Nat)) : rowToE n i E (nbI n (headE E i)).length = rowE n i E := by
  unfold rowToE rowE
  rw [List.take_length]
theorem addE_len (x : Nat) (E : List (Nat × Option Nat)) (y : Nat) : E.length ≤ (addE x E y).length := by
  unfold addE
  split <;> simp
theorem fold_lenE (x : Nat) : ∀ (l : List Nat) (E : List (Nat × Option Nat)), E.length ≤ (l.foldl (addE x) E).length
  | [], E => Nat.le_refl _
  | y :: l, E => Nat.le_trans (addE_len x E y) (fold_lenE x l _)
theorem rowToE_len (n i : Nat) (E : List (Nat × Option Nat)) (k : Nat) : (rowToE n i E k).length ≤ (rowE n i E).length := by
  unfold rowToE rowE
  conv => rhs; rw [← List.take_append_drop k (nbI n (headE E i)), List.foldl_append]
  exact fold_lenE _ _ _
theorem bfsE_mono (n a : Nat) : ∀ (j k : Nat), (bfsE n a k).length ≤ (bfsE n a (k + j)).length
  | 0, k => Nat.le_refl _
  | j + 1, k => Nat.le_trans (bfsE_mono n a j k) (fold_lenE _ _ _)
structure EOk (n : Nat) (E : List (Nat × Option Nat)) : Prop where
  mem : ∀ p ∈ E, p.1 < (trs n).length ∧ ∀ x, p.2 = some x → x < (trs n).length
  nodup : (keysE E).Nodup
theorem EOk.keys {n : Nat} {E : List (Nat × Option Nat)} (h : EOk n E) : inC n (keysE E) := fun x hx => by
  obtain ⟨p, hp, rfl⟩ := List.mem_map.1 hx
  exact (h.mem p hp).1
theorem EOk.add {n x y : Nat} {E : List (Nat × Option Nat)} (h : EOk n E) (hx : x < (trs n).length) (hy : y < (trs n).length) : EOk n (addE x E y) := by
  unfold addE
  split
  · exact h
  · rename_i hno
    refine ⟨fun p hp => ?_, ?_⟩
    · rcases List.mem_append.1 hp with hp | hp
      · exact h.mem p hp
      · cases List.mem_singleton.1 hp
        exact ⟨hy, fun z hz => by cases hz; exact hx⟩
    · unfold keysE at hno ⊢
      rw [List.map_append, List.nodup_append]
      refine ⟨h.nodup, by simp, fun a ha b hb => ?_⟩
      cases List.mem_singleton.1 hb
      intro e
      have e2 : a = y := e
      subst e2
      exact hno ha
theorem EOk.fold {n x : Nat} (hx : x < (trs n).length) : ∀ {l : List Nat} {E : List (Nat × Option Nat)}, EOk n E → (∀ y ∈ l, y < (trs n).length) → EOk n (l.foldl (addE x) E)
  | [], _, h, _ => h
  | y :: l, E, h, hl => by
    show EOk n (l.foldl (addE x) (addE x E y))
    exact EOk.fold hx (l := l) (E := addE x E y) (h.add hx (hl y (.head _))) fun z hz => hl z (.tail _ hz)
structure BfsEOk (n a : Nat) : Prop where
  more : ∀ k, k < (trs n).length → k < (bfsE n a k).length
  top : (bfsE n a (trs n).length).length ≤ 42
theorem bfsE_ok {n a : Nat} (hn : n ≤ 5) (ha : a < (trs n).length) : BfsEOk n a := by
  have c := List.all_eq_true.1 (List.all_eq_true.1 bfsE_fine n (List.mem_range.2 (by omega))) a (List.mem_range.2 ha)
  unfold bfsEOk at c
  rw [Bool.and_eq_true, decide_eq_true_iff] at c
  exact ⟨fun k hk => of_decide_eq_true (List.all_eq_true.1 c.1 k (List.mem_range.2 hk)), c.2⟩
theorem keysE_len (E : List (Nat × Option Nat)) : (keysE E).length = E.length := List.length_map _
theorem bfsE_E {n a : Nat} (hn : n ≤ 5) (ha : a < (trs n).length) : ∀ k, k ≤ (trs n).length → EOk n (bfsE n a k)
  | 0, _ => ⟨fun p hp => by cases List.mem_singleton.1 hp; exact ⟨ha, fun x hx => by cases hx⟩, by simp [bfsE, keysE]⟩
  | k + 1, hk => by
    have ih := bfsE_E hn ha k (by omega)
    have m := (bfsE_ok hn ha).more k (by omega)
    have hc := ih.keys.get (k := k) (by rw [keysE_len]; exact m)
    exact ih.fold hc (nbI_in hn hc)
theorem bfsE_le {n a k : Nat} (hn : n ≤ 5) (ha : a < (trs n).length) (hk : k ≤ (trs n).length) : (bfsE n a k).length ≤ 42 := by
  have := bfsE_mono n a ((trs n).length - k) k
  rw [show k + ((trs n).length - k) = (trs n).length by omega] at this
  have := (bfsE_ok hn ha).top
  omega
theorem addE_pre (x : Nat) (E : List (Nat × Option Nat)) (y : Nat) : ∃ F, addE x E y = E ++ F := by
  unfold addE
  split
  · exact ⟨[], (List.append_nil E).symm⟩
  · exact ⟨_, rfl⟩
theorem fold_pre (x : Nat) : ∀ (l : List Nat) (E : List (Nat × Option Nat)), ∃ F, l.foldl (addE x) E = E ++ F
  | [], E => ⟨[], (List.append_nil E).symm⟩
  | y :: l, E => by
    obtain ⟨F, h⟩ := addE_pre x E y
    obtain ⟨G, g⟩ := fold_pre x l (addE x E y)
    exact ⟨F ++ G, by rw [List.foldl_cons, g, h, List.append_assoc]⟩
theorem bfsE_pre (n a : Nat) : ∀ (j k : Nat), ∃ F, bfsE n a (k + j) = bfsE n a k ++ F
  | 0, k => ⟨[], (List.append_nil _).symm⟩
  | j + 1, k => by
    obtain ⟨F, h⟩ := bfsE_pre n a j k
    obtain ⟨G, g⟩ := fold_pre (headE (bfsE n a (k + j)) (k + j)) (nbI n (headE (bfsE n a (k + j)) (k + j))) (bfsE n a (k + j))
    exact ⟨F ++ G, by rw [← List.append_assoc, ← h]; exact g⟩
/-- all parents are kept -/
def CloE (E : List (Nat × Option Nat)) : Prop := ∀ p ∈ E, ∀ x, p.2 = some x → x ∈ keysE E
theorem keysE_sub {E F : List (Nat × Option Nat)} {x : Nat} (h : x ∈ keysE E) : x ∈ keysE (E ++ F) := by
  unfold keysE at h ⊢
  rw [List.map_append]
  exact List.mem_append_left _ h
theorem CloE.add {x y : Nat} {E : List (Nat × Option Nat)} (h : CloE E) (hx : x ∈ keysE E) : CloE (addE x E y) := by
  unfold addE
  split
  · exact h
  · intro p hp z hz
    rcases List.mem_append.1 hp with hp | hp
    · exact keysE_sub (h p hp z hz)
    · cases List.mem_singleton.1 hp
      cases hz
      exact keysE_sub hx
theorem CloE.fold {x : Nat} : ∀ {l : List Nat} {E : List (Nat × Option Nat)}, CloE E → x ∈ keysE E → CloE (l.foldl (addE x) E)
  | [], _, h, _ => h
  | y :: l, E, h, hx => by
    show CloE (l.foldl (addE x) (addE x E y))
    obtain ⟨F, e⟩ := addE_pre x E y
    exact CloE.fold (l := l) (E := addE x E y) (h.add hx) (by rw [e]; exact keysE_sub hx)
theorem bfsE_clo {n a : Nat} (hn : n ≤ 5) (ha : a < (trs n).length) : ∀ k, k ≤ (trs n).length → CloE (bfsE n a k)
  | 0, _ => fun p hp x hx => by cases List.mem_singleton.1 hp; cases hx
  | k + 1, hk => by
    have ih := bfsE_clo hn ha k (by omega)
    have m := (bfsE_ok hn ha).more k (by omega)
    refine ih.fold ?_
    unfold headE
    rw [List.getD_eq_getElem?_getD, List.getElem?_eq_getElem (by rw [keysE_len]; exact m)]
    exact List.getElem_mem _
theorem parE_pre {E F : List (Nat × Option Nat)} {y : Nat} (h : y ∈ keysE E) : parE (E ++ F) y = parE E y := by
  unfold parE
  rw [List.find?_append]
  cases e : E.find? fun p => p.1 == y with
  | none =>
    obtain ⟨p, hp, e2⟩ := List.mem_map.1 h
    exact absurd (List.find?_eq_none.1 e p hp) (by simp [e2])
  | some p => rfl
theorem parE_mem {E : List (Nat × Option Nat)} {y x : Nat} (h : parE E y = some x) : ∃ p ∈ E, p.2 = some x := by
  unfold parE at h
  cases e : E.find? fun p => p.1 == y with
  | none => rw [e] at h; cases h
  | some p => rw [e] at h; exact ⟨p, List.mem_of_find?_eq_some e, h⟩
theorem pathO_pre {E F : List (Nat × Option Nat)} (c : CloE E) : ∀ (f y : Nat), y ∈ keysE E → pathO (E ++ F) f y = pathO E f y
  | 0, _, _ => rfl
  | f + 1, y, h => by
    unfold pathO
    rw [parE_pre h]
    cases e : parE E y with
    | none => rfl
    | some x =>
      obtain ⟨p, hp, e2⟩ := parE_mem e
      simp only []
      rw [pathO_pre c f x (c p hp x e2)]
structure WayOk2 (n a b : Nat) : Prop where
  stop : stopE n a b ≤ (trs n).length
  here : b ∈ keysE (bfsE n a (stopE n a b))
  no : ∀ k, k < stopE n a b → b ∉ keysE (bfsE n a k)
  path : pathO (bfsE n a (stopE n a b)) 50 b = some (wayI n a b).reverse
theorem way_ok2 {n a b : Nat} (hn : n ≤ 5) (ha : a < (trs n).length) (hb : b < (trs n).length) : WayOk2 n a b := by
  have c := wayE_ok hn ha hb
  unfold wayOk at c
  rw [Bool.and_eq_true] at c
  obtain ⟨c1, c2⟩ := c
  have lt : stopE n a b < (List.range ((trs n).length + 1)).length := List.findIdx_lt_length_of_exists ⟨(trs n).length, List.mem_range.2 (by omega), c1⟩
  have le : stopE n a b ≤ (trs n).length := by rw [List.length_range] at lt; omega
  have here : b ∈ keysE (bfsE n a (stopE n a b)) := by
    have t : (fun k => (keysE (bfsE n a k)).contains b) ((List.range ((trs n).length + 1))[stopE n a b]'lt) = true := List.findIdx_getElem (p := fun k => (keysE (bfsE n a k)).contains b) (w := lt)
    simp only [List.getElem_range] at t
    exact List.contains_iff_mem.1 t
  refine ⟨le, here, fun k hk => ?_, ?_⟩
  · have hk2 : k < (List.range ((trs n).length + 1)).findIdx fun k => (keysE (bfsE n a k)).contains b := hk
    have t := List.not_of_lt_findIdx hk2
    simp only [List.getElem_range] at t
    exact fun h => by rw [List.contains_iff_mem.2 h] at t; exact absurd t (by simp)
  · obtain ⟨F, e⟩ := bfsE_pre n a ((trs n).length - stopE n a b) (stopE n a b)
    rw [show stopE n a b + ((trs n).length - stopE n a b) = (trs n).length by omega] at e
    rw [← pathO_pre (F := F) (bfsE_clo hn ha _ le) 50 b here, ← e]
    unfold eqO at c2
    cases e : pathO (bfsE n a (trs n).length) 50 b with
    | none => rw [e] at c2; cases c2
    | some m =>
      rw [e] at c2
      rw [beq_iff_eq.1 c2]


end Go.Proofs.YtbicfognbbeigaaGreat

/-
  Contracts of ways of rotations and of distances are proved.
  They hold for all texts.
-/
set_option linter.unusedVariables false
set_option linter.unusedSimpArgs false
namespace Go.Proofs.YtbicfognbbeigaaGreat
open Go.Proofs.YtbicfognbbeigaaGreat.Ab Go.Proofs.YtbicfognbbeigaaGreat.Pl

theorem ext_strs {l m : List (List UInt8)} (hl : l.length = m.length) (h : ∀ j, j < l.length → l.getD j [] = m.getD j []) : l = m := by
  refine List.ext_getElem hl fun j h1 h2 => ?_
  have := h j h1
  rwa [show l.getD j [] = l[j] by simp only [List.getD, List.getElem?_eq_getElem h1, Option.getD_some], show m.getD j [] = m[j] by simp only [List.getD, List.getElem?_eq_getElem h2, Option.getD_some]] at this
theorem getD_setS {l : List (List UInt8)} {i p : Nat} {x : List UInt8} (hi : i < l.length) : (l.set i x).getD p [] = if p = i then x else l.getD p [] := by
  by_cases c : p = i
  · subst c
    rw [if_pos rfl]
    simp [List.getD, hi]
  · rw [if_neg c]
    simp only [List.getD, List.getElem?_set_ne (Ne.symm c)]
theorem getD_rev {l : List (List UInt8)} {p : Nat} (h : p < l.length) : l.reverse.getD p [] = l.getD (l.length - 1 - p) [] := by
  have h2 : p < l.reverse.length := by simpa using h
  have h3 : l.length - 1 - p < l.length := by omega
  simp only [List.getD, List.getElem?_eq_getElem h2, List.getElem?_eq_getElem h3, Option.getD_some]
  exact List.getElem_reverse h2
set_option maxHeartbeats 1000000 in
theorem reverse_ok (l : List (List UInt8)) (b N C : Nat) (L : List (Nat × Blk)) (H0 hp : H) (hs : St H0 hp ((b, row (strs l)) :: L)) (hN : N = l.length) (hl : N ≤ 1000) : AC env 73 [.slice b 0 N C] hp fun w h' => w = .tup [] ∧ St H0 h' ((b, row (strs l.reverse)) :: L) := by
  refine AC.enter Tryz.func73 Tryz.call73 rfl Tryz.ntmps73 (of_decide_eq_true (by rfl)) ?_
  repeat' (first
    | refine AW.seq ?_
    | (refine AW.region ?_; conv => whnf)
    | refine AW.block ?_
    | (refine Wr.i64 (by omega) ?_; conv => whnf))
  refine AW.loop2 (fun (i : Nat) (m : List (List UInt8)) => [(0, .slice b 0 N C), (2, .int .i64 (i : Int)), (3, .int .i64 ((N : Int) - 1 - i))]) (fun i m h' => (2 * i ≤ N + 1 ∧ m.length = N ∧ ∀ p, p < N → m.getD p [] = if p < i ∨ N < p + 1 + i then l.getD (N - 1 - p) [] else l.getD p []) ∧ St H0 h' ((b, row (strs m)) :: L)) (fun i _ => N - i) 0 l
    (by rw [show (N : Int) - 1 - ((0 : Nat) : Int) = (N : Int) - 1 by omega]; exact (Less.cons rfl (Less.cons rfl (Less.cons rfl (Less.nil _))))) ⟨⟨by omega, hN.symm, fun p hp => by rw [if_neg (by omega)]⟩, hs⟩ ?_
  clear hs
  rintro i m h2 ⟨⟨hi, hm, hv⟩, hs2⟩
  by_cases hlt : i + 1 + i < N
  · obtain ⟨j, hj⟩ : ∃ j, j = N - 1 - i := ⟨_, rfl⟩
    have ej : (N : Int) - 1 - (i : Int) = (j : Int) := by omega
    rw [ej]
    repeat' (first
      | (refine Has.loadS (St.has hs2 (.head _)) rfl (by omega) ?_; conv => whnf)
      | (refine StoreG.stS (l := m) hs2 .here rfl (by omega) (fun h3 hs3 => ?_); conv => whnf)
      | (refine StoreG.stS hs3 .here rfl (by rw [List.length_set]; omega) (fun h4 hs4 => ?_); conv => whnf)
      | refine AW.seq ?_
      | (refine AW.region ?_; conv => whnf)
      | refine AW.block ?_
      | (refine AW.skip ?_; conv => whnf)
      | refine AW.cond (by rfl) ?_
      | (refine AW.draw (id := 3) (.p 0 (.p 1 (.p 2 (.p 3 (.p 4 (.p 5 (.p 6 (.p 8 (.p 9 (.p 10 (.r 7 [12, 13, 14, 15] (.r 11 [12, 13, 14, 15] (.p 12 (.all [13] fun _ => (.p 14 (.all [15] fun _ => .done)))))))))))))))) (by kernel_rfl) (by kernel_rfl) ?_; conv => whnf)
      | (refine Br.dt (by omega) ?_; conv => whnf)
      | (refine Wr.i64 (by omega) ?_; conv => whnf)
      | (refine Ck.mk (by omega) ?_; conv => whnf))
    refine ⟨i + 1, _, ?_, ⟨⟨by omega, ?_, fun p hp => ?_⟩, hs4⟩, by omega⟩
    · rw [show (N : Int) - 1 - ((i + 1 : Nat) : Int) = (j : Int) - 1 by omega]
      exact (Less.cons rfl (Less.cons rfl (Less.cons rfl (Less.nil _))))
    · rw [List.length_set, List.length_set, hm]
    · rw [Int.toNat_natCast, Int.toNat_natCast, getD_setS (by rw [List.length_set]; omega), getD_setS (by omega)]
      have v1 := hv i (by omega)
      have v2 := hv j (by omega)
      rw [if_neg (by omega)] at v1 v2
      by_cases c1 : p = j
      · rw [if_pos c1, if_pos (by omega), v1, show N - 1 - p = i by omega]
      · rw [if_neg c1]
        by_cases c2 : p = i
        · rw [if_pos c2, if_pos (by omega), v2, show N - 1 - p = j by omega]
        · rw [if_neg c2, hv p hp]
          by_cases c3 : p < i ∨ N < p + 1 + i
          · rw [if_pos c3, if_pos (by omega)]
          · rw [if_neg c3, if_neg (by omega)]
  · repeat' (first
      | refine AW.seq ?_
      | (refine AW.region ?_; conv => whnf)
      | (refine AW.exit ?_; conv => whnf)
      | refine AW.cond (by rfl) ?_
      | (refine Br.df (by omega) ?_; conv => whnf))
    refine ⟨rfl, ?_⟩
    have e : m = l.reverse := ext_strs (by rw [List.length_reverse]; omega) fun p hp => by
      rw [hv p (by omega), getD_rev (by omega), ← hN]
      by_cases c : p < i ∨ N < p + 1 + i
      · rw [if_pos c]
      · rw [if_neg c, show N - 1 - p = p by omega]
    rw [← e]
    exact hs2

/-! the map's entries -/
def ptx (n : Nat) : Option Nat → List UInt8
  | none => []
  | some x => (tr n x).txt
def ents (n : Nat) (E : List (Nat × Option Nat)) : List (AV × AV) := E.map fun p => (AV.str (tr n p.1).txt, AV.str (ptx n p.2))
theorem ents_append (n : Nat) (A B : List (Nat × Option Nat)) : ents n (A ++ B) = ents n A ++ ents n B := List.map_append
theorem txt_small {n i : Nat} (hn : n ≤ 5) (hi : i < (trs n).length) : (tr n i).txt.length ≤ 1000000 ∧ 1 ≤ (tr n i).txt.length := by
  have := (tr n i).txt_length
  have := (nb_ok hn hi).size
  omega
theorem ents_ok {n : Nat} (hn : n ≤ 5) {E : List (Nat × Option Nat)} (h : EOk n E) : ∀ p ∈ ents n E, KOk env.P 9 p.1 := fun p hp => by
  obtain ⟨q, hq, rfl⟩ := List.mem_map.1 hp
  exact strKOk strUnder (txt_small hn (h.mem q hq).1).1
theorem ents_no {n : Nat} (hn : n ≤ 5) {E : List (Nat × Option Nat)} (h : EOk n E) {y : Nat} (hy : y < (trs n).length) (no : y ∉ keysE E) : ∀ u, (AV.str (tr n y).txt, u) ∉ ents n E := fun u hu => by
  obtain ⟨q, hq, e⟩ := List.mem_map.1 hu
  injection e with e1 e2
  injection e1 with e1
  have := (tr_txt hn (h.mem q hq).1 hy).1 e1
  exact no (this ▸ List.mem_map.2 ⟨q, hq, rfl⟩)
theorem nodup_one : ∀ {E : List (Nat × Option Nat)} {p q : Nat × Option Nat}, (keysE E).Nodup → p ∈ E → q ∈ E → p.1 = q.1 → p = q
  | r :: E, p, q, h, hp, hq, e => by
    have h2 : r.1 ∉ keysE E ∧ (keysE E).Nodup := List.nodup_cons.1 h
    cases hp with
    | head =>
      cases hq with
      | head => rfl
      | tail _ hq => exact absurd (List.mem_map.2 ⟨q, hq, e.symm⟩) h2.1
    | tail _ hp =>
      cases hq with
      | head => exact absurd (List.mem_map.2 ⟨p, hp, e⟩) h2.1
      | tail _ hq => exact nodup_one h2.2 hp hq e
theorem LookG.tree {n : Nat} {h0 h : H} {L : List (Nat × Blk)} {b y : Nat} {E : List (Nat × Option Nat)} {K : AV → Bool → Prop} (hn : n ≤ 5) (s : St h0 h L) (m : (b, .map (ents n E)) ∈ L) (ok : EOk n E) (hy : y < (trs n).length)
    (hk : K (.str (ptx n (parE E y))) (decide (y ∈ keysE E))) : LookG env.P 9 h b (.str (tr n y).txt) (.str []) K := by
  have ka := strKOk (P := env.P) strUnder (txt_small hn hy).1
  by_cases c : y ∈ keysE E
  · rw [decide_eq_true c] at hk
    obtain ⟨p, hp, e⟩ := List.mem_map.1 c
    have f : ∃ q, E.find? (fun p => p.1 == y) = some q := by
      cases hf : E.find? (fun p => p.1 == y) with
      | none => exact absurd (List.find?_eq_none.1 hf p hp) (by simp [e])
      | some q => exact ⟨q, rfl⟩
    obtain ⟨q, hq⟩ := f
    have q1 := List.mem_of_find?_eq_some hq
    have q2 : q.1 = y := by simpa using List.find?_some hq
    have ep : parE E y = q.2 := by unfold parE; rw [hq]
    rw [ep] at hk
    refine .hitSt s m (strLaw strUnder) (ents_ok hn ok) ka (v := .str (ptx n q.2)) (List.mem_map.2 ⟨q, q1, by rw [q2]⟩) (fun u hu => ?_) hk
    obtain ⟨r, hr, e⟩ := List.mem_map.1 hu
    injection e with e1 e2
    injection e1 with e1
    have r1 := (tr_txt hn (ok.mem r hr).1 hy).1 e1
    have : r = q := nodup_one ok.nodup hr q1 (by rw [r1, q2])
    rw [← e2, this]
  · rw [decide_eq_false c] at hk
    have ep : parE E y = none := by
      unfold parE
      cases hf : E.find? (fun p => p.1 == y) with
      | none => rfl
      | some q =>
        have q1 := List.mem_of_find?_eq_some hf
        have q2 : q.1 = y := by simpa using List.find?_some hf
        exact absurd (List.mem_map.2 ⟨q, q1, q2⟩) c
    rw [ep] at hk
    exact .missSt s m (strLaw strUnder) (ents_ok hn ok) ka (ents_no hn ok hy c) hk

end Go.Proofs.YtbicfognbbeigaaGreat
