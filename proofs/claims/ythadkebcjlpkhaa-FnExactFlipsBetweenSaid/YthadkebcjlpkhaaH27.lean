/-
  Contracts of ways of rotations and of distances are proved.
  They hold for all texts.
-/
import Derived.Test.YthadkebcjlpkhaaC99
import Derived.Test.YthadkebcjlpkhaaH26
import Derived.Test.YthadkebcjlpkhaaH0
import Derived.Test.YthadkebcjlpkhaaH6
import Derived.Test.YthadkebcjlpkhaaGZ
import Derived.Test.YthadkebcjlpkhaaH18
import Derived.Test.YthadkebcjlpkhaaH5
set_option linter.unusedVariables false
set_option linter.unusedSimpArgs false
namespace Go.Proofs.Ythadkebcjlpkhaa
open Go.Proofs.Ythadkebcjlpkhaa.Ab Go.Proofs.Ythadkebcjlpkhaa.Pl

theorem ext_strs {l m : List (List UInt8)} (hl : l.length = m.length) (h : ∀ j, j < l.length → l.getD j [] = m.getD j []) : l = m := by
  refine List.ext_getElem hl fun j h1 h2 => ?_
  have := h j h1
  rwa [show l.getD j [] = l[j] by simp only [List.getD, List.getElem?_eq_getElem h1, Option.getD_some], show m.getD j [] = m[j] by simp only [List.getD, List.getElem?_eq_getElem h2, Option.getD_some]] at this
theorem getD_setS {l : List (List UInt8)} {i p : Nat} {x : List UInt8} (hi : i < l.length) : (l.set i x).getD p [] = if p = i then x else l.getD p [] := by
  by_cases c : p = i
  · subst c
    rw [if_pos rfl]
    simp [List.getD, hi]
  · rw [if_neg c]
    simp only [List.getD, List.getElem?_set_ne (Ne.symm c)]
theorem getD_rev {l : List (List UInt8)} {p : Nat} (h : p < l.length) : l.reverse.getD p [] = l.getD (l.length - 1 - p) [] := by
  have h2 : p < l.reverse.length := by simpa using h
  have h3 : l.length - 1 - p < l.length := by omega
  simp only [List.getD, List.getElem?_eq_getElem h2, List.getElem?_eq_getElem h3, Option.getD_some]
  exact List.getElem_reverse h2

/-! the map's entries -/
def ptx (n : Nat) : Option Nat → List UInt8
  | none => []
  | some x => (tr n x).txt
def ents (n : Nat) (E : List (Nat × Option Nat)) : List (AV × AV) := E.map fun p => (AV.str (tr n p.1).txt, AV.str (ptx n p.2))
theorem ents_append (n : Nat) (A B : List (Nat × Option Nat)) : ents n (A ++ B) = ents n A ++ ents n B := List.map_append
theorem txt_small {n i : Nat} (hn : n ≤ 5) (hi : i < (trs n).length) : (tr n i).txt.length ≤ 1000000 ∧ 1 ≤ (tr n i).txt.length := by
  have := (tr n i).txt_length
  have := (nb_ok hn hi).size
  omega
theorem ents_ok {n : Nat} (hn : n ≤ 5) {E : List (Nat × Option Nat)} (h : EOk n E) : ∀ p ∈ ents n E, KOk env.P 9 p.1 := fun p hp => by
  obtain ⟨q, hq, rfl⟩ := List.mem_map.1 hp
  exact strKOk strUnder (txt_small hn (h.mem q hq).1).1
theorem ents_no {n : Nat} (hn : n ≤ 5) {E : List (Nat × Option Nat)} (h : EOk n E) {y : Nat} (hy : y < (trs n).length) (no : y ∉ keysE E) : ∀ u, (AV.str (tr n y).txt, u) ∉ ents n E := fun u hu => by
  obtain ⟨q, hq, e⟩ := List.mem_map.1 hu
  injection e with e1 e2
  injection e1 with e1
  have := (tr_txt hn (h.mem q hq).1 hy).1 e1
  exact no (this ▸ List.mem_map.2 ⟨q, hq, rfl⟩)
theorem nodup_one : ∀ {E : List (Nat × Option Nat)} {p q : Nat × Option Nat}, (keysE E).Nodup → p ∈ E → q ∈ E → p.1 = q.1 → p = q
  | r :: E, p, q, h, hp, hq, e => by
    have h2 : r.1 ∉ keysE E ∧ (keysE E).Nodup := List.nodup_cons.1 h
    cases hp with
    | head =>
      cases hq with
      | head => rfl
      | tail _ hq => exact absurd (List.mem_map.2 ⟨q, hq, e.symm⟩) h2.1
    | tail _ hp =>
      cases hq with
      | head => exact absurd (List.mem_map.2 ⟨p, hp, e⟩) h2.1
      | tail _ hq => exact nodup_one h2.2 hp hq e
theorem LookG.tree {n : Nat} {h0 h : H} {L : List (Nat × Blk)} {b y : Nat} {E : List (Nat × Option Nat)} {K : AV → Bool → Prop} (hn : n ≤ 5) (s : St h0 h L) (m : (b, .map (ents n E)) ∈ L) (ok : EOk n E) (hy : y < (trs n).length)
    (hk : K (.str (ptx n (parE E y))) (decide (y ∈ keysE E))) : LookG env.P 9 h b (.str (tr n y).txt) (.str []) K := by
  have ka := strKOk (P := env.P) strUnder (txt_small hn hy).1
  by_cases c : y ∈ keysE E
  · rw [decide_eq_true c] at hk
    obtain ⟨p, hp, e⟩ := List.mem_map.1 c
    have f : ∃ q, E.find? (fun p => p.1 == y) = some q := by
      cases hf : E.find? (fun p => p.1 == y) with
      | none => exact absurd (List.find?_eq_none.1 hf p hp) (by simp [e])
      | some q => exact ⟨q, rfl⟩
    obtain ⟨q, hq⟩ := f
    have q1 := List.mem_of_find?_eq_some hq
    have q2 : q.1 = y := by simpa using List.find?_some hq
    have ep : parE E y = q.2 := by unfold parE; rw [hq]
    rw [ep] at hk
    refine .hitSt s m (strLaw strUnder) (ents_ok hn ok) ka (v := .str (ptx n q.2)) (List.mem_map.2 ⟨q, q1, by rw [q2]⟩) (fun u hu => ?_) hk
    obtain ⟨r, hr, e⟩ := List.mem_map.1 hu
    injection e with e1 e2
    injection e1 with e1
    have r1 := (tr_txt hn (ok.mem r hr).1 hy).1 e1
    have : r = q := nodup_one ok.nodup hr q1 (by rw [r1, q2])
    rw [← e2, this]
  · rw [decide_eq_false c] at hk
    have ep : parE E y = none := by
      unfold parE
      cases hf : E.find? (fun p => p.1 == y) with
      | none => rfl
      | some q =>
        have q1 := List.mem_of_find?_eq_some hf
        have q2 : q.1 = y := by simpa using List.find?_some hf
        exact absurd (List.mem_map.2 ⟨q, q1, q2⟩) c
    rw [ep] at hk
    exact .missSt s m (strLaw strUnder) (ents_ok hn ok) ka (ents_no hn ok hy c) hk

end Go.Proofs.Ythadkebcjlpkhaa

/-
  What laws over codes have in common is proved: their size, their letters, and rows of statements.
  It holds for all codes.
-/
set_option linter.unusedVariables false
set_option linter.unusedSimpArgs false
namespace Go.Proofs.Ythadkebcjlpkhaa
open Go.Proofs.Ythadkebcjlpkhaa.Ab Go.Proofs.Ythadkebcjlpkhaa.Pl

theorem CurSt.callN {H0 h h' : H} {c b : Nat} {cs : List AV} {L : List (Nat × Blk)} (s : CurSt H0 h c L) (n : New h h' b cs) : CurSt H0 h' c ((b, row cs) :: L) := by
  obtain ⟨v, l, i, k, h1, h2, h3, h4⟩ := s.ex
  exact ⟨v, l, i, k, h1, h2, h3, (h4.newCall n).perm (.swap _ _ _)⟩
theorem StoreG.curI {H0 h : H} {c b : Nat} {L L' : List (Nat × Blk)} {K : H → Prop} {n sz : Nat} {l : List Int} {y : Int} (s : CurSt H0 h c L) (sp : Spot L (b, row (ints l)) (b, row (ints (l.set n y))) L') (hs : sz = 1) (ho : n < l.length)
    (hk : ∀ h', CurSt H0 h' c L' → K h') : StoreG h b (0 + mulSz n sz) (.int .i64 y) K := by
  obtain ⟨v, a, i, k, h1, h2, h3, h4⟩ := s.ex
  exact StoreG.stZ h4 (.there sp) hs ho fun h' hs' => hk h' ⟨v, a, i, k, h1, h2, h3, hs'⟩

/-! a row of statements, and what holds behind it -/
def runS (E : Env) (n : Nat) (Q : Exit → Fr → H → Prop) : List Code → (Fr → H → Prop) → Fr → H → Prop
  | [], M, fr, h => M fr h
  | s :: l, M, fr, h => AW E n s fr h (thenK (runS E n Q l M) Q)
def seqS : List Code → Code → Code
  | [], R => R
  | s :: l, R => .seq s (seqS l R)
theorem AW.seqS {E : Env} {n : Nat} {Q : Exit → Fr → H → Prop} {M : Fr → H → Prop} {R : Code} : ∀ (l : List Code) {fr : Fr} {h : H}, runS E n Q l M fr h → (∀ fr h, M fr h → AW E n R fr h Q) → AW E n (seqS l R) fr h Q
  | [], _, _, hx, hy => hy _ _ hx
  | s :: l, fr, h, hx, hy => AW.seq (AW.mono hx fun e fr' h' q => match e, q with
    | .normal, q => AW.seqS l q hy
    | .exit _, q => q
    | .ret, q => q
    | .goto _, q => q
    | .panic _, q => q
    | .outgrown, q => q)
/-- the code is in the first slot, and memory has only grown -/
def MidC (h0 : H) (v : AV) (fr : Fr) (h : H) : Prop := Less fr [(0, v)] ∧ Keeps h0 h

end Go.Proofs.Ythadkebcjlpkhaa

/-
  The contract of ways of rotations is proved.
  It holds for trees of at most five nodes.
-/
set_option linter.unusedVariables false
set_option linter.unusedSimpArgs false
namespace Go.Proofs.Ythadkebcjlpkhaa
open Go.Proofs.Ythadkebcjlpkhaa.Ab Go.Proofs.Ythadkebcjlpkhaa.Pl

theorem keysE_append (A B : List (Nat × Option Nat)) : keysE (A ++ B) = keysE A ++ keysE B := List.map_append
theorem headE_pre {E F : List (Nat × Option Nat)} {k : Nat} (h : k < E.length) : headE (E ++ F) k = headE E k := by
  unfold headE
  rw [keysE_append]
  simp only [List.getD]
  rw [List.getElem?_append_left (by rw [keysE_len]; exact h)]
theorem rowToE_pre (n k : Nat) (E : List (Nat × Option Nat)) (q : Nat) : ∃ F, rowToE n k E q = E ++ F := fold_pre _ _ _
theorem rowToE_E {n k : Nat} {E : List (Nat × Option Nat)} (q : Nat) (hn : n ≤ 5) (h : EOk n E) (hk : k < E.length) : EOk n (rowToE n k E q) := by
  have hc := h.keys.get (k := k) (by rw [keysE_len]; exact hk)
  exact h.fold hc fun y hy => nbI_in hn hc y (List.mem_of_mem_take hy)
theorem ents_bound {n : Nat} {E : List (Nat × Option Nat)} (h : EOk n E) : E.length ≤ (trs n).length := by
  rw [← keysE_len E]
  have : (keysE E).length ≤ (List.range (trs n).length).length := List.Nodup.length_le_of_subset h.nodup fun x hx => List.mem_range.2 (h.keys x hx)
  rwa [List.length_range] at this
def pathOp (E : List (Nat × Option Nat)) (f : Nat) : Option Nat → Option (List Nat)
  | none => some []
  | some y => pathO E f y
theorem pathOp_step {E : List (Nat × Option Nat)} {f y : Nat} : pathOp E (f + 1) (some y) = (pathOp E f (parE E y)).map (y :: ·) := by
  show pathO E (f + 1) y = _
  unfold pathO
  cases parE E y with
  | none => rfl
  | some x => rfl
def MidR (n i j : Nat) (h0 : H) (fr : Fr) (h : H) : Prop := ∃ bm, Less fr [(1, .str (tr n j).txt), (6, .map bm)] ∧ St h0 h [(bm, .map (ents n (bfsE n i (stopE n i j))))]


end Go.Proofs.Ythadkebcjlpkhaa

/-
  Mirrored trees and drawn pairs of trees have their contracts proved.
  They hold for all codes.
-/
set_option linter.unusedVariables false
set_option linter.unusedSimpArgs false
namespace Go.Proofs.Ythadkebcjlpkhaa
open Go.Proofs.Ythadkebcjlpkhaa.Ab Go.Proofs.Ythadkebcjlpkhaa.Pl

def mirB : BT → BT
  | .leaf => .leaf
  | .node a b => .node (mirB b) (mirB a)
theorem mirB_size : ∀ t : BT, (mirB t).size = t.size
  | .leaf => rfl
  | .node a b => by
    show (mirB b).size + (mirB a).size + 1 = a.size + b.size + 1
    rw [mirB_size a, mirB_size b]
    omega

theorem draw_bin {n : Nat} {x : List UInt8} (hn : n ≤ 6) (hx : x ∈ dyP n) : ∃ t, binF 20 x = some t ∧ t.size = n ∧ x.length ≤ 1000 := by
  obtain ⟨t, ht, hz⟩ := bin_at hn hx
  have : x.length = 2 * n := (okW_spec (List.all_eq_true.1 (paths_fine n (by omega)) _ hx)).1
  exact ⟨t, ht, hz, by omega⟩
theorem all_short {l : List (List UInt8)} {x : List UInt8} (hm : x ∈ l) (h : (l.all fun y => decide (y.length ≤ 100)) = true) : x.length ≤ 100 := of_decide_eq_true (List.all_eq_true.1 h x hm)

def TreeDraw (H0 : H) (c : Nat) (L : List (Nat × Blk)) (m : Int) (w : AV) (h' : H) : Prop := ∃ (t : BT) (x : List UInt8), w = .tup [.str t.txt, .str x] ∧ (t.size : Int) ≤ m ∧ x.length ≤ 100 ∧ CurSt H0 h' c L
/-- two texts are drawn, the first of which is a tree -/
def TreeDraw0 (H0 : H) (m : Int) (w : AV) (h' : H) : Prop := ∃ (t : BT) (x : List UInt8), w = .tup [.str t.txt, .str x] ∧ (t.size : Int) ≤ m ∧ x.length ≤ 100 ∧ Keeps H0 h'

end Go.Proofs.Ythadkebcjlpkhaa
