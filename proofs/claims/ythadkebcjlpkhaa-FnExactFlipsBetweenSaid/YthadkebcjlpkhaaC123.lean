/-
  Flips between triangulations have their contract proved for the reference, and what the program's search keeps in memory is described.
  It holds for at most seven corners.
-/
import Derived.Test.YthadkebcjlpkhaaC122
import Derived.Test.YthadkebcjlpkhaaH27
import Derived.Test.YthadkebcjlpkhaaC99
set_option linter.unusedVariables false
set_option linter.unusedSimpArgs false
namespace Go.Proofs.Ythadkebcjlpkhaa
open Go.Proofs.Ythadkebcjlpkhaa.Ab Go.Proofs.Ythadkebcjlpkhaa.Pl

/-- two triangulations with at most seven corners -/
def fitT (n : Int) (f g : List (List Int)) : Prop := isTri n f = true ∧ isTri n g = true ∧ n ≤ 7
theorem fitT_num {n : Int} {f g : List (List Int)} (h : fitT n f g) : ∃ m i j : Nat, n = ((m + 2 : Nat) : Int) ∧ m ≤ 5 ∧ i < (trs m).length ∧ j < (trs m).length ∧ f = dg m i ∧ g = dg m j := by
  obtain ⟨h1, h2, h3⟩ := h
  obtain ⟨N, rfl⟩ := isTri_int h1
  have sz := (tri_size h1).1
  obtain ⟨i, hi, e1⟩ := tri_no h1 (by omega)
  obtain ⟨j, hj, e2⟩ := tri_no h2 (by omega)
  exact ⟨N - 2, i, j, by omega, by omega, hi, hj, e1, e2⟩
theorem binT_num {n i : Nat} (hn : n ≤ 5) (hi : i < (trs n).length) : binT ((n + 2 : Nat) : Int) (dg n i) = ((tr n i).txt, true) := by
  have k := num_ok hn hi
  unfold binT
  rw [if_pos k.tri, Int.toNat_natCast, show n + 2 - 1 = n + 1 by omega, k.tree]

set_option maxHeartbeats 1000000 in
theorem sBetween_ok (n i j : Nat) (R S : RL) (b c M M' C C' : Nat) (h0 : H) (hn : n ≤ 5) (hi : i < (trs n).length) (hj : j < (trs n).length) (hb : Grid h0 b R) (hR : rws R = dg n i) (hM : M = (dg n i).length) (hc' : Grid h0 c S) (hS : rws S = dg n j) (hM' : M' = (dg n j).length) :
    AC env 5 [.int .i64 ((n + 2 : Nat) : Int), .slice b 0 M C, .slice c 0 M' C'] h0 fun w h' => w = .int .i64 (((wayI n i j).length : Int) - 1) ∧ Keeps h0 h' := by
  have ki := num_ok hn hi
  have kj := num_ok hn hj
  have li := ki.len
  have lj := kj.len
  have bi := binT_num hn hi
  have bj := binT_num hn hj
  have dl := (dis_ok hn hi hj).len
  refine AC.enter Try.func5 Try.call5 rfl Try.ntmps5 (of_decide_eq_true (by rfl)) ?_
  repeat' (first
    | (refine (sBinT_ok ((n + 2 : Nat) : Int) R (dg n i) b M C _ hb hR hM (by omega) (by omega)).mono ?_; rw [bi]; rintro w h' ⟨rfl, e'⟩; subst h'; conv => whnf)
    | (refine (sBinT_ok ((n + 2 : Nat) : Int) S (dg n j) c M' C' _ hc' hS hM' (by omega) (by omega)).mono ?_; rw [bj]; rintro w h' ⟨rfl, e'⟩; subst h'; conv => whnf)
    | (refine (sDist_ok n i j _ hn hi hj (by omega)).mono ?_; rintro w h' ⟨rfl, hk⟩; conv => whnf)
    | refine AW.seq ?_
    | (refine AW.region ?_; conv => whnf)
    | (refine AW.skip ?_; conv => whnf)
    | (refine AW.ret ?_; conv => whnf)
    | refine AW.cond (by rfl) ?_
    | (refine Br.ff ?_; conv => whnf)
    | (refine Br.df (by omega) ?_; conv => whnf))
  all_goals exact ⟨rfl, hk⟩
theorem sBetweenNo_ok (n : Int) (f g : List (List Int)) (R S : RL) (b c M M' C C' : Nat) (h0 : H) (no : ¬ fitT n f g) (hn : -9223372036854775808 ≤ n ∧ n ≤ 9223372036854775807) (hb : Grid h0 b R) (hR : rws R = f) (hM : M = f.length) (hl : M ≤ 1000000000) (hc' : Grid h0 c S) (hS : rws S = g) (hM' : M' = g.length) (hl' : M' ≤ 1000000000) :
    AC env 5 [.int .i64 n, .slice b 0 M C, .slice c 0 M' C'] h0 fun w h' => w = .int .i64 (-1) ∧ h' = h0 := by
  cases h1 : isTri n f with
  | false =>
    have bi : binT n f = ([], false) := if_neg (by rw [h1]; simp)
    refine AC.enter Try.func5 Try.call5 rfl Try.ntmps5 (of_decide_eq_true (by rfl)) ?_
    repeat' (first
      | (refine (sBinT_ok n R f b M C _ hb hR hM (by omega) hn).mono ?_; rw [bi]; rintro w h' ⟨rfl, e'⟩; subst h'; conv => whnf)
      | (refine (sBinT_ok n S g c M' C' _ hc' hS hM' (by omega) hn).mono ?_; rintro w h' ⟨rfl, e'⟩; subst h'; conv => whnf)
      | refine AW.seq ?_
      | (refine AW.region ?_; conv => whnf)
      | (refine AW.ret ?_; conv => whnf)
      | refine AW.cond (by rfl) ?_
      | (refine Br.tt ?_; conv => whnf))
    all_goals exact ⟨rfl, rfl⟩
  | true =>
    have bi : binT n f = ((treeT f 10 0 (n.toNat - 1)).txt, true) := if_pos h1
    cases h2 : isTri n g with
    | false =>
      have bj : binT n g = ([], false) := if_neg (by rw [h2]; simp)
      refine AC.enter Try.func5 Try.call5 rfl Try.ntmps5 (of_decide_eq_true (by rfl)) ?_
      repeat' (first
        | (refine (sBinT_ok n R f b M C _ hb hR hM (by omega) hn).mono ?_; rw [bi]; rintro w h' ⟨rfl, e'⟩; subst h'; conv => whnf)
        | (refine (sBinT_ok n S g c M' C' _ hc' hS hM' (by omega) hn).mono ?_; rw [bj]; rintro w h' ⟨rfl, e'⟩; subst h'; conv => whnf)
        | refine AW.seq ?_
        | (refine AW.region ?_; conv => whnf)
        | (refine AW.ret ?_; conv => whnf)
        | refine AW.cond (by rfl) ?_
        | (refine Br.tt ?_; conv => whnf)
        | (refine Br.ff ?_; conv => whnf))
      all_goals exact ⟨rfl, rfl⟩
    | true =>
      have bj : binT n g = ((treeT g 10 0 (n.toNat - 1)).txt, true) := if_pos h2
      have big : ¬ n ≤ 7 := fun h => no ⟨h1, h2, h⟩
      refine AC.enter Try.func5 Try.call5 rfl Try.ntmps5 (of_decide_eq_true (by rfl)) ?_
      repeat' (first
        | (refine (sBinT_ok n R f b M C _ hb hR hM (by omega) hn).mono ?_; rw [bi]; rintro w h' ⟨rfl, e'⟩; subst h'; conv => whnf)
        | (refine (sBinT_ok n S g c M' C' _ hc' hS hM' (by omega) hn).mono ?_; rw [bj]; rintro w h' ⟨rfl, e'⟩; subst h'; conv => whnf)
        | refine AW.seq ?_
        | (refine AW.region ?_; conv => whnf)
        | (refine AW.ret ?_; conv => whnf)
        | refine AW.cond (by rfl) ?_
        | (refine Br.ff ?_; conv => whnf)
        | (refine Br.dt (by omega) ?_; conv => whnf))
      all_goals exact ⟨rfl, rfl⟩

/-! the program's search: its map and what is left to do -/
def entsG (n : Nat) (E : List (Nat × Nat)) : List (AV × AV) := E.map fun p => (AV.str (kt n p.1), AV.int .i64 ((p.2 : Nat) : Int))
theorem entsG_append (n : Nat) (A B : List (Nat × Nat)) : entsG n (A ++ B) = entsG n A ++ entsG n B := List.map_append
theorem kt_small {n i : Nat} (hn : n ≤ 5) (hi : i < (trs n).length) : (kt n i).length ≤ 1000000 := by
  have := fmtD_len (f := dg n i) (by have := (num_ok hn hi).len; omega)
  unfold kt
  omega
theorem entsG_ok {n : Nat} (hn : n ≤ 5) {E : List (Nat × Nat)} (h : GOk n E) : ∀ p ∈ entsG n E, KOk env.P 9 p.1 := fun p hp => by
  obtain ⟨q, hq, rfl⟩ := List.mem_map.1 hp
  exact strKOk strUnder (kt_small hn (h.mem q hq).1)
theorem entsG_no {n : Nat} (hn : n ≤ 5) {E : List (Nat × Nat)} (h : GOk n E) {y : Nat} (hy : y < (trs n).length) (no : y ∉ keysG E) : ∀ u, (AV.str (kt n y), u) ∉ entsG n E := fun u hu => by
  obtain ⟨q, hq, e⟩ := List.mem_map.1 hu
  injection e with e1 e2
  injection e1 with e1
  have := (kt_inj hn (h.mem q hq).1 hy).1 e1
  exact no (this ▸ List.mem_map.2 ⟨q, hq, rfl⟩)
theorem nodupG_one : ∀ {E : List (Nat × Nat)} {p q : Nat × Nat}, (keysG E).Nodup → p ∈ E → q ∈ E → p.1 = q.1 → p = q
  | r :: E, p, q, h, hp, hq, e => by
    have h2 : r.1 ∉ keysG E ∧ (keysG E).Nodup := List.nodup_cons.1 h
    cases hp with
    | head =>
      cases hq with
      | head => rfl
      | tail _ hq => exact absurd (List.mem_map.2 ⟨q, hq, e.symm⟩) h2.1
    | tail _ hp =>
      cases hq with
      | head => exact absurd (List.mem_map.2 ⟨p, hp, e⟩) h2.1
      | tail _ hq => exact nodupG_one h2.2 hp hq e
def valG (E : List (Nat × Nat)) (y : Nat) : Nat := match E.find? fun p => p.1 == y with
  | some p => p.2
  | none => 0
theorem valG_at {n i : Nat} {E : List (Nat × Nat)} (h : GOk n E) (hi : i < E.length) : valG E (headG E i) = stG E i ∧ headG E i ∈ keysG E := by
  have m := atG hi
  have mk : headG E i ∈ keysG E := List.mem_map.2 ⟨_, m, rfl⟩
  refine ⟨?_, mk⟩
  unfold valG
  cases hf : E.find? (fun p => p.1 == headG E i) with
  | none => exact absurd (List.find?_eq_none.1 hf _ m) (by simp)
  | some q =>
    have q1 := List.mem_of_find?_eq_some hf
    have q2 : q.1 = headG E i := by simpa using List.find?_some hf
    have := nodupG_one h.nodup q1 m q2
    rw [this]
theorem LookG.key {n : Nat} {h0 h : H} {L : List (Nat × Blk)} {b y : Nat} {E : List (Nat × Nat)} {K : AV → Bool → Prop} (hn : n ≤ 5) (s : St h0 h L) (m : (b, .map (entsG n E)) ∈ L) (ok : GOk n E) (hy : y < (trs n).length)
    (hk : K (.int .i64 ((valG E y : Nat) : Int)) (decide (y ∈ keysG E))) : LookG env.P 9 h b (.str (kt n y)) (.int .i64 0) K := by
  have ka := strKOk (P := env.P) strUnder (kt_small hn hy)
  by_cases c : y ∈ keysG E
  · rw [decide_eq_true c] at hk
    obtain ⟨p, hp, e⟩ := List.mem_map.1 c
    have f : ∃ q, E.find? (fun p => p.1 == y) = some q := by
      cases hf : E.find? (fun p => p.1 == y) with
      | none => exact absurd (List.find?_eq_none.1 hf p hp) (by simp [e])
      | some q => exact ⟨q, rfl⟩
    obtain ⟨q, hq⟩ := f
    have q1 := List.mem_of_find?_eq_some hq
    have q2 : q.1 = y := by simpa using List.find?_some hq
    have ep : valG E y = q.2 := by unfold valG; rw [hq]
    rw [ep] at hk
    refine .hitSt s m (strLaw strUnder) (entsG_ok hn ok) ka (v := .int .i64 ((q.2 : Nat) : Int)) (List.mem_map.2 ⟨q, q1, by rw [q2]⟩) (fun u hu => ?_) hk
    obtain ⟨r, hr, e⟩ := List.mem_map.1 hu
    injection e with e1 e2
    injection e1 with e1
    have r1 := (kt_inj hn (ok.mem r hr).1 hy).1 e1
    have : r = q := nodupG_one ok.nodup hr q1 (by rw [r1, q2])
    rw [← e2, this]
  · rw [decide_eq_false c] at hk
    have ep : valG E y = 0 := by
      unfold valG
      cases hf : E.find? (fun p => p.1 == y) with
      | none => rfl
      | some q =>
        have q1 := List.mem_of_find?_eq_some hf
        have q2 : q.1 = y := by simpa using List.find?_some hf
        exact absurd (List.mem_map.2 ⟨q, q1, q2⟩) c
    rw [ep] at hk
    exact .missSt s m (strLaw strUnder) (entsG_ok hn ok) ka (entsG_no hn ok hy c) hk
/-- rows that were there before, or are among the blocks -/
def GridX (h0 : H) (X : List (Nat × Blk)) (b : Nat) (R : RL) : Prop := Grid h0 b R ∨ ((b, row (slcs R)) ∈ X ∧ ∀ p ∈ blks R, p ∈ X)
theorem GridX.at {h0 h : H} {X L : List (Nat × Blk)} {b : Nat} {R : RL} (g : GridX h0 X b R) (s : St h0 h L) (hX : ∀ p ∈ X, p ∈ L) : Grid h b R := by
  rcases g with g | ⟨g1, g2⟩
  · exact g.arg s
  · exact s.rowsIn (hX _ g1) fun p hp => hX _ (g2 p hp)
theorem GridX.more {h0 : H} {X Y : List (Nat × Blk)} {b : Nat} {R : RL} (g : GridX h0 X b R) (hX : ∀ p ∈ X, p ∈ Y) : GridX h0 Y b R := g.imp id fun g => ⟨hX _ g.1, fun p hp => hX _ (g.2 p hp)⟩
/-- the row of what is left to do -/
structure TodoOk (h0 : H) (X : List (Nat × Blk)) (n : Nat) (T : List AV) (E : List (Nat × Nat)) : Prop where
  len : T.length = E.length
  is : ∀ q, q < E.length → ∃ b R C, T[q]? = some (.slice b 0 (dg n (headG E q)).length C) ∧ (dg n (headG E q)).length ≤ C ∧ rws R = dg n (headG E q) ∧ GridX h0 X b R
theorem TodoOk.more {h0 : H} {X Y : List (Nat × Blk)} {n : Nat} {T : List AV} {E : List (Nat × Nat)} (t : TodoOk h0 X n T E) (hX : ∀ p ∈ X, p ∈ Y) : TodoOk h0 Y n T E :=
  ⟨t.len, fun q hq => by
    obtain ⟨b, R, C, h1, h2, h3, h4⟩ := t.is q hq
    exact ⟨b, R, C, h1, h2, h3, h4.more hX⟩⟩
theorem TodoOk.snoc {h0 : H} {X : List (Nat × Blk)} {n y s b m C : Nat} {R : RL} {T : List AV} {E : List (Nat × Nat)} (t : TodoOk h0 X n T E) (hm : m = (dg n y).length) (hC : m ≤ C) (hR : rws R = dg n y) (g : GridX h0 X b R) : TodoOk h0 X n (T ++ [.slice b 0 m C]) (E ++ [(y, s)]) := by
  have tl := t.len
  refine ⟨by simp [tl], fun q hq => ?_⟩
  rw [List.length_append, List.length_cons, List.length_nil] at hq
  by_cases c : q < E.length
  · obtain ⟨b1, R1, C1, h1, h2, h3, h4⟩ := t.is q c
    rw [(headG_pre c).1]
    exact ⟨b1, R1, C1, by rw [List.getElem?_append_left (by omega)]; exact h1, h2, h3, h4⟩
  · have e : q = E.length := by omega
    have eh : headG (E ++ [(y, s)]) q = y := by
      unfold headG
      rw [e]
      simp [List.getD]
    rw [eh]
    refine ⟨b, R, C, ?_, by omega, hR, g⟩
    rw [e, ← tl, List.getElem?_append_right (Nat.le_refl _), Nat.sub_self, hm]
    rfl

end Go.Proofs.Ythadkebcjlpkhaa
