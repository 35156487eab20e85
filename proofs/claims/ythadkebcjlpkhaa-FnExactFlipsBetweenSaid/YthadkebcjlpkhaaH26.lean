/-
  Texts as keys of maps obey the law of keys, and rows of texts are turned round in place.
  It holds for rows of at most a thousand texts.
-/
import Derived.Test.YthadkebcjlpkhaaH8
import Derived.WideKeyMaps
import Derived.MapKept
import Derived.Test.YthadkebcjlpkhaaC37
import Derived.Test.YthadkebcjlpkhaaH15
import Derived.Test.YthadkebcjlpkhaaC98
set_option linter.unusedVariables false
set_option linter.unusedSimpArgs false
namespace Go.Proofs.Ythadkebcjlpkhaa
open Go.Proofs.Ythadkebcjlpkhaa.Ab Go.Proofs.Ythadkebcjlpkhaa.Pl

theorem strKey {P : Program} {k : TypeId} (hu : P.underlying k = some .string) {v : Value} {l : Lit} (h : Go.keyOf P k v = some l) : ∃ s : ByteArray, v = .string s ∧ l = .string s.data.toList := by
  have h : mapKey P k v = some l := by rw [← Go.keyOf_string hu]; exact h
  unfold mapKey at h
  rw [hu] at h
  cases v <;> simp at h
  exact ⟨_, rfl, h.2.symm⟩
theorem strLaw {P : Program} {k : TypeId} (hu : P.underlying k = some .string) : Go.WideMaps.KeyLaw P k where
  str h := by
    obtain ⟨s, _, e⟩ := strKey hu h
    exact ⟨_, e⟩
  inj ha hb := by
    obtain ⟨s, e1, e2⟩ := strKey hu ha
    obtain ⟨t, e3, e4⟩ := strKey hu hb
    rw [e2] at e4
    injection e4 with e4
    rw [e1, e3]
    congr 1
    apply ByteArray.ext
    exact Array.toList_inj.1 e4
  check w em v l h := by
    obtain ⟨s, e1, _⟩ := strKey hu h
    subst e1
    exact Go.MapKept.run_checkKey hu (d := .string) (by simp [Go.MapKept.IsKey]) em 9999
  find w x lx hx es hes := by
    obtain ⟨s, e1, _⟩ := strKey hu hx
    subst e1
    have hk : ∀ e ∈ es, Go.MapKept.IsKey .string e.key := fun e he => by
      obtain ⟨l, hl⟩ := hes e he
      obtain ⟨t, e3, _⟩ := strKey hu hl
      rw [e3]
      simp [Go.MapKept.IsKey]
    rcases Go.MapKept.findNow_spec (d := .string) (k := .string s) (by simp [Go.MapKept.IsKey]) es 0 hk with ⟨h1, h2⟩ | ⟨j, e, h1, h2, h3⟩
    · exact .inl ⟨Go.MapKept.run_findKey hu h1, h2⟩
    · rw [Nat.zero_add] at h1
      exact .inr ⟨j, e, Go.MapKept.run_findKey hu h1, h2, h3⟩
  stays w v l h := by
    obtain ⟨s, e1, _⟩ := strKey hu h
    subst e1
    exact Go.MapKept.run_keyThatStays (d := .string) (by simp [Go.MapKept.IsKey])
theorem strKOk {P : Program} {k : TypeId} (hu : P.underlying k = some .string) {s : List UInt8} (hs : s.length ≤ 1000000) : KOk P k (.str s) := by
  refine ⟨rfl, .string s, ?_⟩
  show Go.keyOf P k (.string ⟨s.toArray⟩) = _
  rw [Go.keyOf_string hu]
  unfold mapKey
  rw [hu]
  have : (⟨s.toArray⟩ : ByteArray).size ≤ maxLen := by
    show s.toArray.size ≤ maxLen
    unfold maxLen
    simp
    omega
  simp [this]
theorem strUnder : env.P.underlying 9 = some .string := by kernel_rfl

end Go.Proofs.Ythadkebcjlpkhaa

/-
  The law of common diagonals is proved.
  It holds for all texts.
-/
set_option linter.unusedVariables false
set_option linter.unusedSimpArgs false
namespace Go.Proofs.Ythadkebcjlpkhaa
open Go.Proofs.Ythadkebcjlpkhaa.Ab Go.Proofs.Ythadkebcjlpkhaa.Pl

/-! rows that two lists have in common -/
def cnt1 (d : List Int) (g : List (List Int)) : Nat := g.countP fun e => decide (d = e)
def com (f g : List (List Int)) : Nat := (f.map fun d => cnt1 d g).sum
theorem cnt1_le (d : List Int) (g : List (List Int)) : cnt1 d g ≤ g.length := List.countP_le_length
theorem cnt1_take {d : List Int} {g : List (List Int)} {k : Nat} (h : k < g.length) : cnt1 d (g.take (k + 1)) = cnt1 d (g.take k) + if d = g.getD k [] then 1 else 0 := by
  have e : g.getD k [] = g[k] := by simp [List.getD, h]
  rw [List.take_succ_eq_append_getElem h, e]
  unfold cnt1
  rw [List.countP_append]
  simp [List.countP_cons]
theorem com_take {f g : List (List Int)} {i : Nat} (h : i < f.length) : com (f.take (i + 1)) g = com (f.take i) g + cnt1 (f.getD i []) g := by
  have e : f.getD i [] = f[i] := by simp [List.getD, h]
  rw [List.take_succ_eq_append_getElem h, e]
  unfold com
  rw [List.map_append, List.sum_append]
  simp
theorem com_le (f g : List (List Int)) : com f g ≤ f.length * g.length := by
  unfold com
  induction f with
  | nil => simp
  | cons x f ih =>
    rw [List.map_cons, List.sum_cons, List.length_cons, Nat.add_mul]
    have := cnt1_le x g
    omega
theorem com_bd {f g : List (List Int)} (hf : f.length ≤ 8) (hg : g.length ≤ 8) : com f g ≤ 64 := Nat.le_trans (com_le f g) (Nat.mul_le_mul hf hg)
theorem two_eq {d e : List Int} (hd : d.length = 2) (he : e.length = 2) : d = e ↔ d.getD 0 0 = e.getD 0 0 ∧ d.getD 1 0 = e.getD 1 0 := by
  match d, e, hd, he with
  | [a, b], [c, x], _, _ => simp
def comF (a b : List UInt8) : Int := match treeOf a, treeOf b with
  | some x, some y => if x.size = y.size then (com (diagsT x) (diagsT y) : Nat) else -1
  | _, _ => -1





end Go.Proofs.Ythadkebcjlpkhaa

/-
  The search for a shortest way of rotations is checked.
  It holds for trees of at most five nodes.
-/
set_option linter.unusedVariables false
set_option linter.unusedSimpArgs false
namespace Go.Proofs.Ythadkebcjlpkhaa

/-! the search as the map keeps it: a tree and the one from which it was reached -/
def keysE (E : List (Nat × Option Nat)) : List Nat := E.map (·.1)
def addE (x : Nat) (E : List (Nat × Option Nat)) (y : Nat) : List (Nat × Option Nat) := if y ∈ keysE E then E else E ++ [(y, some x)]
def headE (E : List (Nat × Option Nat)) (i : Nat) : Nat := (keysE E).getD i 0
def rowE (n i : Nat) (E : List (Nat × Option Nat)) : List (Nat × Option Nat) := (nbI n (headE E i)).foldl (addE (headE E i)) E
def rowToE (n i : Nat) (E : List (Nat × Option Nat)) (k : Nat) : List (Nat × Option Nat) := ((nbI n (headE E i)).take k).foldl (addE (headE E i)) E
def bfsE (n a : Nat) : Nat → List (Nat × Option Nat)
  | 0 => [(a, none)]
  | k + 1 => rowE n k (bfsE n a k)
def parE (E : List (Nat × Option Nat)) (y : Nat) : Option Nat := match E.find? fun p => p.1 == y with
  | some p => p.2
  | none => none
def pathO (E : List (Nat × Option Nat)) : Nat → Nat → Option (List Nat)
  | 0, _ => none
  | f + 1, y => match parE E y with
    | none => some [y]
    | some x => (pathO E f x).map (y :: ·)
def stopE (n a b : Nat) : Nat := (List.range ((trs n).length + 1)).findIdx fun k => (keysE (bfsE n a k)).contains b
def eqO (o : Option (List Nat)) (l : List Nat) : Bool := match o with
  | some m => m == l
  | none => false
def wayOk (n a b : Nat) : Bool := (keysE (bfsE n a (trs n).length)).contains b && eqO (pathO (bfsE n a (trs n).length) 50 b) (wayI n a b).reverse
def bfsEOk (n a : Nat) : Bool := (List.range (trs n).length).all (fun k => decide (k < (bfsE n a k).length)) && decide ((bfsE n a (trs n).length).length ≤ 42)
set_option maxRecDepth 100000 in
theorem bfsE_fine : (List.range 6).all (fun n => (List.range (trs n).length).all (bfsEOk n)) = true := by decide +kernel
set_option maxRecDepth 100000 in
theorem wayE_low : (List.range 5).all (fun n => (List.range (trs n).length).all fun a => (List.range (trs n).length).all (wayOk n a)) = true := by decide +kernel
set_option maxRecDepth 100000 in
theorem wayE_0 : (List.range 7).all (fun a => (List.range 42).all (wayOk 5 (0 + a))) = true := by decide +kernel
set_option maxRecDepth 100000 in
theorem wayE_1 : (List.range 7).all (fun a => (List.range 42).all (wayOk 5 (7 + a))) = true := by decide +kernel
set_option maxRecDepth 100000 in
theorem wayE_2 : (List.range 7).all (fun a => (List.range 42).all (wayOk 5 (14 + a))) = true := by decide +kernel
set_option maxRecDepth 100000 in
theorem wayE_3 : (List.range 7).all (fun a => (List.range 42).all (wayOk 5 (21 + a))) = true := by decide +kernel
set_option maxRecDepth 100000 in
theorem wayE_4 : (List.range 7).all (fun a => (List.range 42).all (wayOk 5 (28 + a))) = true := by decide +kernel
set_option maxRecDepth 100000 in
theorem wayE_5 : (List.range 7).all (fun a => (List.range 42).all (wayOk 5 (35 + a))) = true := by decide +kernel
theorem trs_5 : (trs 5).length = 42 := by decide +kernel
theorem wayE_ok {n a b : Nat} (hn : n ≤ 5) (ha : a < (trs n).length) (hb : b < (trs n).length) : wayOk n a b = true := by
  by_cases h : n < 5
  · exact List.all_eq_true.1 (List.all_eq_true.1 (List.all_eq_true.1 wayE_low n (List.mem_range.2 h)) a (List.mem_range.2 ha)) b (List.mem_range.2 hb)
  · obtain rfl : n = 5 := by omega
    rw [trs_5] at ha hb
    have g : ∀ c, (List.range 7).all (fun a => (List.range 42).all (wayOk 5 (c + a))) = true → c ≤ a → a < c + 7 → wayOk 5 a b = true := fun c h l u => by
      have := List.all_eq_true.1 (List.all_eq_true.1 h (a - c) (List.mem_range.2 (by omega))) b (List.mem_range.2 hb)
      rwa [show c + (a - c) = a by omega] at this
    by_cases h1 : a < 7
    · exact g 0 wayE_0 (by omega) (by omega)
    by_cases h2 : a < 14
    · exact g 7 wayE_1 (by omega) (by omega)
    by_cases h3 : a < 21
    · exact g 14 wayE_2 (by omega) (by omega)
    by_cases h4 : a < 28
    · exact g 21 wayE_3 (by omega) (by omega)
    by_cases h5 : a < 35
    · exact g 28 wayE_4 (by omega) (by omega)
    exact g 35 wayE_5 (by omega) (by omega)
theorem rowToE_succ {n i : Nat} {E : List (Nat × Option Nat)} {k : Nat} (h : k < (nbI n (headE E i)).length) : rowToE n i E (k + 1) = addE (headE E i) (rowToE n i E k) ((nbI n (headE E i)).getD k 0) := by
  unfold rowToE
  have e : (nbI n (headE E i)).getD k 0 = (nbI n (headE E i))[k] := by
    generalize nbI n (headE E i) = l at h
    simp only [List.getD, List.getElem?_eq_getElem h, Option.getD_some]
  rw [List.take_succ_eq_append_getElem h, List.foldl_append, e]
  rfl
theorem rowToE_all (n i : Nat) (E : List (Nat × Option Nat)) : rowToE n i E (nbI n (headE E i)).length = rowE n i E := by
  unfold rowToE rowE
  rw [List.take_length]
theorem addE_len (x : Nat) (E : List (Nat × Option Nat)) (y : Nat) : E.length ≤ (addE x E y).length := by
  unfold addE
  split <;> simp
theorem fold_lenE (x : Nat) : ∀ (l : List Nat) (E : List (Nat × Option Nat)), E.length ≤ (l.foldl (addE x) E).length
  | [], E => Nat.le_refl _
  | y :: l, E => Nat.le_trans (addE_len x E y) (fold_lenE x l _)
theorem rowToE_len (n i : Nat) (E : List (Nat × Option Nat)) (k : Nat) : (rowToE n i E k).length ≤ (rowE n i E).length := by
  unfold rowToE rowE
  conv => rhs; rw [← List.take_append_drop k (nbI n (headE E i)), List.foldl_append]
  exact fold_lenE _ _ _
theorem bfsE_mono (n a : Nat) : ∀ (j k : Nat), (bfsE n a k).length ≤ (bfsE n a (k + j)).length
  | 0, k => Nat.le_refl _
  | j + 1, k => Nat.le_trans (bfsE_mono n a j k) (fold_lenE _ _ _)
structure EOk (n : Nat) (E : List (Nat × Option Nat)) : Prop where
  mem : ∀ p ∈ E, p.1 < (trs n).length ∧ ∀ x, p.2 = some x → x < (trs n).length
  nodup : (keysE E).Nodup
theorem EOk.keys {n : Nat} {E : List (Nat × Option Nat)} (h : EOk n E) : inC n (keysE E) := fun x hx => by
  obtain ⟨p, hp, rfl⟩ := List.mem_map.1 hx
  exact (h.mem p hp).1
theorem EOk.add {n x y : Nat} {E : List (Nat × Option Nat)} (h : EOk n E) (hx : x < (trs n).length) (hy : y < (trs n).length) : EOk n (addE x E y) := by
  unfold addE
  split
  · exact h
  · rename_i hno
    refine ⟨fun p hp => ?_, ?_⟩
    · rcases List.mem_append.1 hp with hp | hp
      · exact h.mem p hp
      · cases List.mem_singleton.1 hp
        exact ⟨hy, fun z hz => by cases hz; exact hx⟩
    · unfold keysE at hno ⊢
      rw [List.map_append, List.nodup_append]
      refine ⟨h.nodup, by simp, fun a ha b hb => ?_⟩
      cases List.mem_singleton.1 hb
      intro e
      have e2 : a = y := e
      subst e2
      exact hno ha
theorem EOk.fold {n x : Nat} (hx : x < (trs n).length) : ∀ {l : List Nat} {E : List (Nat × Option Nat)}, EOk n E → (∀ y ∈ l, y < (trs n).length) → EOk n (l.foldl (addE x) E)
  | [], _, h, _ => h
  | y :: l, E, h, hl => by
    show EOk n (l.foldl (addE x) (addE x E y))
    exact EOk.fold hx (l := l) (E := addE x E y) (h.add hx (hl y (.head _))) fun z hz => hl z (.tail _ hz)
structure BfsEOk (n a : Nat) : Prop where
  more : ∀ k, k < (trs n).length → k < (bfsE n a k).length
  top : (bfsE n a (trs n).length).length ≤ 42
theorem bfsE_ok {n a : Nat} (hn : n ≤ 5) (ha : a < (trs n).length) : BfsEOk n a := by
  have c := List.all_eq_true.1 (List.all_eq_true.1 bfsE_fine n (List.mem_range.2 (by omega))) a (List.mem_range.2 ha)
  unfold bfsEOk at c
  rw [Bool.and_eq_true, decide_eq_true_iff] at c
  exact ⟨fun k hk => of_decide_eq_true (List.all_eq_true.1 c.1 k (List.mem_range.2 hk)), c.2⟩
theorem keysE_len (E : List (Nat × Option Nat)) : (keysE E).length = E.length := List.length_map _
theorem bfsE_E {n a : Nat} (hn : n ≤ 5) (ha : a < (trs n).length) : ∀ k, k ≤ (trs n).length → EOk n (bfsE n a k)
  | 0, _ => ⟨fun p hp => by cases List.mem_singleton.1 hp; exact ⟨ha, fun x hx => by cases hx⟩, by simp [bfsE, keysE]⟩
  | k + 1, hk => by
    have ih := bfsE_E hn ha k (by omega)
    have m := (bfsE_ok hn ha).more k (by omega)
    have hc := ih.keys.get (k := k) (by rw [keysE_len]; exact m)
    exact ih.fold hc (nbI_in hn hc)
theorem bfsE_le {n a k : Nat} (hn : n ≤ 5) (ha : a < (trs n).length) (hk : k ≤ (trs n).length) : (bfsE n a k).length ≤ 42 := by
  have := bfsE_mono n a ((trs n).length - k) k
  rw [show k + ((trs n).length - k) = (trs n).length by omega] at this
  have := (bfsE_ok hn ha).top
  omega
theorem addE_pre (x : Nat) (E : List (Nat × Option Nat)) (y : Nat) : ∃ F, addE x E y = E ++ F := by
  unfold addE
  split
  · exact ⟨[], (List.append_nil E).symm⟩
  · exact ⟨_, rfl⟩
theorem fold_pre (x : Nat) : ∀ (l : List Nat) (E : List (Nat × Option Nat)), ∃ F, l.foldl (addE x) E = E ++ F
  | [], E => ⟨[], (List.append_nil E).symm⟩
  | y :: l, E => by
    obtain ⟨F, h⟩ := addE_pre x E y
    obtain ⟨G, g⟩ := fold_pre x l (addE x E y)
    exact ⟨F ++ G, by rw [List.foldl_cons, g, h, List.append_assoc]⟩
theorem bfsE_pre (n a : Nat) : ∀ (j k : Nat), ∃ F, bfsE n a (k + j) = bfsE n a k ++ F
  | 0, k => ⟨[], (List.append_nil _).symm⟩
  | j + 1, k => by
    obtain ⟨F, h⟩ := bfsE_pre n a j k
    obtain ⟨G, g⟩ := fold_pre (headE (bfsE n a (k + j)) (k + j)) (nbI n (headE (bfsE n a (k + j)) (k + j))) (bfsE n a (k + j))
    exact ⟨F ++ G, by rw [← List.append_assoc, ← h]; exact g⟩
/-- all parents are kept -/
def CloE (E : List (Nat × Option Nat)) : Prop := ∀ p ∈ E, ∀ x, p.2 = some x → x ∈ keysE E
theorem keysE_sub {E F : List (Nat × Option Nat)} {x : Nat} (h : x ∈ keysE E) : x ∈ keysE (E ++ F) := by
  unfold keysE at h ⊢
  rw [List.map_append]
  exact List.mem_append_left _ h
theorem CloE.add {x y : Nat} {E : List (Nat × Option Nat)} (h : CloE E) (hx : x ∈ keysE E) : CloE (addE x E y) := by
  unfold addE
  split
  · exact h
  · intro p hp z hz
    rcases List.mem_append.1 hp with hp | hp
    · exact keysE_sub (h p hp z hz)
    · cases List.mem_singleton.1 hp
      cases hz
      exact keysE_sub hx
theorem CloE.fold {x : Nat} : ∀ {l : List Nat} {E : List (Nat × Option Nat)}, CloE E → x ∈ keysE E → CloE (l.foldl (addE x) E)
  | [], _, h, _ => h
  | y :: l, E, h, hx => by
    show CloE (l.foldl (addE x) (addE x E y))
    obtain ⟨F, e⟩ := addE_pre x E y
    exact CloE.fold (l := l) (E := addE x E y) (h.add hx) (by rw [e]; exact keysE_sub hx)
theorem bfsE_clo {n a : Nat} (hn : n ≤ 5) (ha : a < (trs n).length) : ∀ k, k ≤ (trs n).length → CloE (bfsE n a k)
  | 0, _ => fun p hp x hx => by cases List.mem_singleton.1 hp; cases hx
  | k + 1, hk => by
    have ih := bfsE_clo hn ha k (by omega)
    have m := (bfsE_ok hn ha).more k (by omega)
    refine ih.fold ?_
    unfold headE
    rw [List.getD_eq_getElem?_getD, List.getElem?_eq_getElem (by rw [keysE_len]; exact m)]
    exact List.getElem_mem _
theorem parE_pre {E F : List (Nat × Option Nat)} {y : Nat} (h : y ∈ keysE E) : parE (E ++ F) y = parE E y := by
  unfold parE
  rw [List.find?_append]
  cases e : E.find? fun p => p.1 == y with
  | none =>
    obtain ⟨p, hp, e2⟩ := List.mem_map.1 h
    exact absurd (List.find?_eq_none.1 e p hp) (by simp [e2])
  | some p => rfl
theorem parE_mem {E : List (Nat × Option Nat)} {y x : Nat} (h : parE E y = some x) : ∃ p ∈ E, p.2 = some x := by
  unfold parE at h
  cases e : E.find? fun p => p.1 == y with
  | none => rw [e] at h; cases h
  | some p => rw [e] at h; exact ⟨p, List.mem_of_find?_eq_some e, h⟩
theorem pathO_pre {E F : List (Nat × Option Nat)} (c : CloE E) : ∀ (f y : Nat), y ∈ keysE E → pathO (E ++ F) f y = pathO E f y
  | 0, _, _ => rfl
  | f + 1, y, h => by
    unfold pathO
    rw [parE_pre h]
    cases e : parE E y with
    | none => rfl
    | some x =>
      obtain ⟨p, hp, e2⟩ := parE_mem e
      simp only []
      rw [pathO_pre c f x (c p hp x e2)]
structure WayOk2 (n a b : Nat) : Prop where
  stop : stopE n a b ≤ (trs n).length
  here : b ∈ keysE (bfsE n a (stopE n a b))
  no : ∀ k, k < stopE n a b → b ∉ keysE (bfsE n a k)
  path : pathO (bfsE n a (stopE n a b)) 50 b = some (wayI n a b).reverse
theorem way_ok2 {n a b : Nat} (hn : n ≤ 5) (ha : a < (trs n).length) (hb : b < (trs n).length) : WayOk2 n a b := by
  have c := wayE_ok hn ha hb
  unfold wayOk at c
  rw [Bool.and_eq_true] at c
  obtain ⟨c1, c2⟩ := c
  have lt : stopE n a b < (List.range ((trs n).length + 1)).length := List.findIdx_lt_length_of_exists ⟨(trs n).length, List.mem_range.2 (by omega), c1⟩
  have le : stopE n a b ≤ (trs n).length := by rw [List.length_range] at lt; omega
  have here : b ∈ keysE (bfsE n a (stopE n a b)) := by
    have t : (fun k => (keysE (bfsE n a k)).contains b) ((List.range ((trs n).length + 1))[stopE n a b]'lt) = true := List.findIdx_getElem (p := fun k => (keysE (bfsE n a k)).contains b) (w := lt)
    simp only [List.getElem_range] at t
    exact List.contains_iff_mem.1 t
  refine ⟨le, here, fun k hk => ?_, ?_⟩
  · have hk2 : k < (List.range ((trs n).length + 1)).findIdx fun k => (keysE (bfsE n a k)).contains b := hk
    have t := List.not_of_lt_findIdx hk2
    simp only [List.getElem_range] at t
    exact fun h => by rw [List.contains_iff_mem.2 h] at t; exact absurd t (by simp)
  · obtain ⟨F, e⟩ := bfsE_pre n a ((trs n).length - stopE n a b) (stopE n a b)
    rw [show stopE n a b + ((trs n).length - stopE n a b) = (trs n).length by omega] at e
    rw [← pathO_pre (F := F) (bfsE_clo hn ha _ le) 50 b here, ← e]
    unfold eqO at c2
    cases e : pathO (bfsE n a (trs n).length) 50 b with
    | none => rw [e] at c2; cases c2
    | some m =>
      rw [e] at c2
      rw [beq_iff_eq.1 c2]


end Go.Proofs.Ythadkebcjlpkhaa
