/-
  Texts are found in rows of texts, and trees are told from other texts.
  It holds for rows of at most a hundred thousand texts.
-/
import Derived.Test.YtbicfognbbeigaaGreatC91
import Derived.Test.YtbicfognbbeigaaGreatC58
import Derived.Test.YtbicfognbbeigaaGreatC93
import Derived.Test.YtbicfognbbeigaaGreatC107
set_option linter.unusedVariables false
set_option linter.unusedSimpArgs false
namespace Go.Proofs.YtbicfognbbeigaaGreat
open Go.Proofs.YtbicfognbbeigaaGreat.Ab Go.Proofs.YtbicfognbbeigaaGreat.Pl

theorem getD_memS {l : List (List UInt8)} {k : Nat} (h : k < l.length) : l.getD k [] ∈ l := by
  rw [show l.getD k [] = l[k] by simp only [List.getD, List.getElem?_eq_getElem h, Option.getD_some]]
  exact List.getElem_mem h
theorem memS_getD {l : List (List UInt8)} {y : List UInt8} (h : y ∈ l) : ∃ k, k < l.length ∧ l.getD k [] = y := by
  obtain ⟨k, hk, e⟩ := List.getElem_of_mem h
  exact ⟨k, hk, by simp only [List.getD, List.getElem?_eq_getElem hk, Option.getD_some]; exact e⟩
theorem l15HasS_ok (l : List (List UInt8)) (y : List UInt8) (b N C : Nat) (h0 : H) (hb : Has h0 b (strs l)) (hN : N = l.length) (hl : N ≤ 100000) : AC env 84 [.slice b 0 N C, .str y] h0 fun w h' => w = .bool (decide (y ∈ l)) ∧ h' = h0 := by
  refine AC.enter Tryz.func84 Tryz.call84 rfl Tryz.ntmps84 (of_decide_eq_true (by rfl)) ?_
  repeat' (first
    | refine AW.seq ?_
    | (refine AW.region ?_; conv => whnf)
    | refine AW.block ?_)
  refine AW.loop1 (fun (k : Nat) => [(0, .slice b 0 N C), (1, .str y), (5, .int .i64 (k : Int))]) (fun k h' => (k ≤ N ∧ ∀ j, j < k → l.getD j [] ≠ y) ∧ h' = h0) (fun k => N - k) 0 (Less.cons rfl (Less.cons rfl (Less.cons rfl (Less.nil _)))) ⟨⟨by omega, fun j hj => by omega⟩, rfl⟩ ?_
  rintro k h' ⟨⟨hk, he⟩, rfl⟩
  by_cases hlt : k < N
  · have ek : ((k : Nat) : Int).toNat = k := Int.toNat_natCast k
    by_cases hit : l.getD k [] = y
    · have hq : (l.getD ((k : Nat) : Int).toNat [] == y) = true := by rw [ek, hit]; exact beq_self_eq_true _
      repeat' (first
        | (refine Has.loadS hb rfl (by omega) ?_; conv => whnf)
        | (refine Br.t hq ?_; conv => whnf)
        | refine AW.seq ?_
        | (refine AW.region ?_; conv => whnf)
        | refine AW.block ?_
        | (refine AW.skip ?_; conv => whnf)
        | (refine AW.ret ?_; conv => whnf)
        | refine AW.cond (by rfl) ?_
        | (refine Br.dt (by omega) ?_; conv => whnf)
        | (refine Ck.mk (by omega) ?_; conv => whnf))
      refine ⟨?_, rfl⟩
      have hm : y ∈ l := by rw [← hit]; exact getD_memS (by omega)
      rw [decide_eq_true hm]
    · have hq : (l.getD ((k : Nat) : Int).toNat [] == y) = false := by rw [ek]; exact beq_eq_false_iff_ne.2 hit
      repeat' (first
        | (refine Has.loadS hb rfl (by omega) ?_; conv => whnf)
        | (refine Br.f hq ?_; conv => whnf)
        | refine AW.seq ?_
        | (refine AW.region ?_; conv => whnf)
        | refine AW.block ?_
        | (refine AW.skip ?_; conv => whnf)
        | refine AW.cond (by rfl) ?_
        | (refine Br.dt (by omega) ?_; conv => whnf)
        | (refine Wr.i64 (by omega) ?_; conv => whnf)
        | (refine Ck.mk (by omega) ?_; conv => whnf))
      refine ⟨k + 1, (Less.cons rfl (Less.cons rfl (Less.cons rfl (Less.nil _)))), ⟨⟨by omega, fun j hj => ?_⟩, rfl⟩, by omega⟩
      by_cases c : j = k
      · rw [c]; exact hit
      · exact he j (by omega)
  · repeat' (first
      | refine AW.seq ?_
      | (refine AW.region ?_; conv => whnf)
      | (refine AW.ret ?_; conv => whnf)
      | (refine AW.exit ?_; conv => whnf)
      | refine AW.cond (by rfl) ?_
      | (refine Br.df (by omega) ?_; conv => whnf))
    refine ⟨?_, rfl⟩
    have hm : y ∉ l := fun h => by
      obtain ⟨j, hj, e⟩ := memS_getD h
      exact he j (by omega) e
    rw [decide_eq_false hm]
theorem indexS_ok (l : List (List UInt8)) (y : List UInt8) (b N C : Nat) (h0 : H) (hb : Has h0 b (strs l)) (hN : N = l.length) (hl : N ≤ 100000) : AC env 111 [.slice b 0 N C, .str y] h0 fun w h' => (∃ x : Int, w = .int .i64 x ∧ -1 ≤ x ∧ x ≤ 100000 ∧ (0 ≤ x ↔ y ∈ l)) ∧ h' = h0 := by
  refine AC.enter Tryz.func111 Tryz.call111 rfl Tryz.ntmps111 (of_decide_eq_true (by rfl)) ?_
  repeat' (first
    | refine AW.seq ?_
    | (refine AW.region ?_; conv => whnf)
    | refine AW.block ?_)
  refine AW.loop1 (fun (k : Nat) => [(0, .slice b 0 N C), (1, .str y), (7, .int .i64 (N : Int)), (8, .int .i64 (k : Int))]) (fun k h' => (k ≤ N ∧ ∀ j, j < k → l.getD j [] ≠ y) ∧ h' = h0) (fun k => N - k) 0 (Less.cons rfl (Less.cons rfl (Less.cons rfl (Less.cons rfl (Less.nil _))))) ⟨⟨by omega, fun j hj => by omega⟩, rfl⟩ ?_
  rintro k h' ⟨⟨hk, he⟩, rfl⟩
  by_cases hlt : k < N
  · have ek : ((k : Nat) : Int).toNat = k := Int.toNat_natCast k
    by_cases hit : l.getD k [] = y
    · have hq : (y == l.getD ((k : Nat) : Int).toNat []) = true := by rw [ek, hit]; exact beq_self_eq_true _
      repeat' (first
        | (refine Has.loadS hb rfl (by omega) ?_; conv => whnf)
        | (refine Br.t hq ?_; conv => whnf)
        | refine AW.seq ?_
        | (refine AW.region ?_; conv => whnf)
        | refine AW.block ?_
        | (refine AW.skip ?_; conv => whnf)
        | (refine AW.ret ?_; conv => whnf)
        | refine AW.cond (by rfl) ?_
        | (refine Br.dt (by omega) ?_; conv => whnf)
        | (refine Ck.mk (by omega) ?_; conv => whnf))
      exact ⟨⟨_, rfl, by omega, by omega, fun _ => by rw [← hit]; exact getD_memS (by omega), fun _ => by omega⟩, rfl⟩
    · have hq : (y == l.getD ((k : Nat) : Int).toNat []) = false := by rw [ek]; exact beq_eq_false_iff_ne.2 (Ne.symm hit)
      repeat' (first
        | (refine Has.loadS hb rfl (by omega) ?_; conv => whnf)
        | (refine Br.f hq ?_; conv => whnf)
        | refine AW.seq ?_
        | (refine AW.region ?_; conv => whnf)
        | refine AW.block ?_
        | (refine AW.skip ?_; conv => whnf)
        | refine AW.cond (by rfl) ?_
        | (refine Br.dt (by omega) ?_; conv => whnf)
        | (refine Wr.i64 (by omega) ?_; conv => whnf)
        | (refine Ck.mk (by omega) ?_; conv => whnf))
      refine ⟨k + 1, (Less.cons rfl (Less.cons rfl (Less.cons rfl (Less.cons rfl (Less.nil _))))), ⟨⟨by omega, fun j hj => ?_⟩, rfl⟩, by omega⟩
      by_cases c : j = k
      · rw [c]; exact hit
      · exact he j (by omega)
  · repeat' (first
      | refine AW.seq ?_
      | (refine AW.region ?_; conv => whnf)
      | (refine AW.ret ?_; conv => whnf)
      | (refine AW.exit ?_; conv => whnf)
      | refine AW.cond (by rfl) ?_
      | (refine Br.df (by omega) ?_; conv => whnf))
    refine ⟨⟨_, rfl, by omega, by omega, fun h => by omega, fun h => ?_⟩, rfl⟩
    obtain ⟨j, hj, e⟩ := memS_getD h
    exact absurd e (he j (by omega))
theorem containsS_ok (l : List (List UInt8)) (y : List UInt8) (b N C : Nat) (h0 : H) (hb : Has h0 b (strs l)) (hN : N = l.length) (hl : N ≤ 100000) : AC env 81 [.slice b 0 N C, .str y] h0 fun w h' => w = .bool (decide (y ∈ l)) ∧ h' = h0 := by
  refine AC.enter Tryz.func81 Tryz.call81 rfl Tryz.ntmps81 (of_decide_eq_true (by rfl)) ?_
  repeat' (first
    | (refine (indexS_ok l y _ _ _ _ hb hN hl).mono ?_; rintro w h' ⟨⟨x, rfl, x1, x2, hx⟩, e'⟩; subst h'; conv => whnf)
    | refine AW.seq ?_
    | (refine AW.region ?_; conv => whnf)
    | (refine AW.ret ?_; conv => whnf))
  refine ⟨?_, rfl⟩
  by_cases hm : y ∈ l
  · have := hx.2 hm
    rw [decide_eq_true hm, decide_eq_true (by omega)]
  · have : ¬ 0 ≤ x := fun h => hm (hx.1 h)
    rw [decide_eq_false hm, decide_eq_false (by omega)]
theorem iIsBinary_ok (s : List UInt8) (h0 : H) : AC env 80 [.str s] h0 fun v h' => v = .bool (treeOf s).isSome ∧ Keeps h0 h' := by
  cases e : treeOf s with
  | none =>
    refine AC.enter Tryz.func80 Tryz.call80 rfl Tryz.ntmps80 (of_decide_eq_true (by rfl)) ?_
    repeat' (first
      | (refine (parseTree_ok s _).mono ?_; rw [e]; rintro v h' ⟨k1, rfl⟩; conv => whnf)
      | refine AW.seq ?_
      | (refine AW.region ?_; conv => whnf)
      | (refine AW.ret ?_; conv => whnf))
    exact ⟨rfl, k1⟩
  | some t =>
    refine AC.enter Tryz.func80 Tryz.call80 rfl Tryz.ntmps80 (of_decide_eq_true (by rfl)) ?_
    repeat' (first
      | (refine (parseTree_ok s _).mono ?_; rw [e]; rintro v h1 ⟨k1, v1, rfl, m1⟩; have m1' := m1; rcases m1'.form with ⟨rfl, _⟩ | ⟨b1, rfl⟩ <;> (conv => whnf))
      | refine AW.seq ?_
      | (refine AW.region ?_; conv => whnf)
      | (refine AW.ret ?_; conv => whnf))
    all_goals exact ⟨rfl, k1⟩

end Go.Proofs.YtbicfognbbeigaaGreat

/-
  Ways of rotations are told from other rows of texts.
  It holds for rows all of whose texts but the last are small trees.
-/
set_option linter.unusedVariables false
set_option linter.unusedSimpArgs false
namespace Go.Proofs.YtbicfognbbeigaaGreat
open Go.Proofs.YtbicfognbbeigaaGreat.Ab Go.Proofs.YtbicfognbbeigaaGreat.Pl

def stepOk (x y : List UInt8) : Bool := match treeOf x with
  | some t => decide (y ∈ txts (nbrs t))
  | none => false
def isWayF (l : List (List UInt8)) : Bool := (treeOf (l.getD 0 [])).isSome && (List.range (l.length - 1)).all fun k => stepOk (l.getD k []) (l.getD (k + 1) [])
structure WayRow (l : List (List UInt8)) : Prop where
  len : 1 ≤ l.length ∧ l.length ≤ 40
  tree : ∀ k, k + 1 < l.length → ∃ t : BT, l.getD k [] = t.txt ∧ t.size ≤ 8
theorem isWayF_yes {l : List (List UInt8)} (h0 : (treeOf (l.getD 0 [])).isSome = true) (h : ∀ k, k + 1 < l.length → stepOk (l.getD k []) (l.getD (k + 1) []) = true) : isWayF l = true := by
  unfold isWayF
  rw [h0, Bool.true_and]
  exact List.all_eq_true.2 fun k hk => h k (by have := List.mem_range.1 hk; omega)
theorem isWayF_no {l : List (List UInt8)} {k : Nat} (hk : k + 1 < l.length) (h : stepOk (l.getD k []) (l.getD (k + 1) []) = false) : isWayF l = false := by
  cases e : isWayF l with
  | false => rfl
  | true =>
    unfold isWayF at e
    rw [Bool.and_eq_true] at e
    have := List.all_eq_true.1 e.2 k (List.mem_range.2 (by omega))
    rw [h] at this
    cases this
theorem isWayF_no0 {l : List (List UInt8)} (h : (treeOf (l.getD 0 [])).isSome = false) : isWayF l = false := by
  unfold isWayF
  rw [h]
  rfl
theorem stepOk_eq {t : BT} {x y : List UInt8} (h : x = t.txt) (hz : t.size ≤ 8) : stepOk x y = decide (y ∈ txts (nbrs t)) := by
  unfold stepOk
  rw [h, treeOf_txt (by omega)]
theorem stepOk_tree {t : BT} {y : List UInt8} (hz : t.size ≤ 8) (h : y ∈ txts (nbrs t)) : (treeOf y).isSome = true := by
  obtain ⟨u, hu, rfl⟩ := List.mem_map.1 h
  have := nbrs_size hu
  rw [treeOf_txt (by omega)]
  rfl

theorem strs_get {l : List (List UInt8)} {k : Nat} (h : k < l.length) : (strs l)[k]? = some (.str (l.getD k [])) := by
  unfold strs
  rw [List.getElem?_map, List.getElem?_eq_getElem h]
  simp only [Option.map_some, List.getD, List.getElem?_eq_getElem h, Option.getD_some]
theorem strs_getI {l : List (List UInt8)} {k : Nat} {i : Int} (e : i = k) (h : k < l.length) : (strs l)[i.toNat]? = some (.str (l.getD k [])) := by
  subst e
  exact strs_get h
set_option maxHeartbeats 1000000 in
theorem iIsWay_ok (l : List (List UInt8)) (w : WayRow l) (b N C : Nat) (h0 : H) (hb : Has h0 b (strs l)) (hN : N = l.length) : AC env 36 [.slice b 0 N C] h0 fun v h' => v = .bool (isWayF l) ∧ Keeps h0 h' := by
  have hs := St.refl h0
  have w1 := w.len
  cases hd : (treeOf (l.getD 0 [])).isSome with
  | false =>
    refine AC.enter Tryz.func36 Tryz.call36 rfl Tryz.ntmps36 (of_decide_eq_true (by rfl)) ?_
    repeat' (first
      | (refine Has.loadAt (v := .str (l.getD 0 [])) hb rfl (strs_get (by omega)) ?_; conv => whnf)
      | (refine (iIsBinary_ok _ _).mono ?_; rw [hd]; rintro v h' ⟨rfl, k1⟩; conv => whnf)
      | refine AW.seq ?_
      | (refine AW.region ?_; conv => whnf)
      | (refine AW.ret ?_; conv => whnf)
      | refine AW.cond (by rfl) ?_
      | (refine (within_ok _ _ _ _).mono ?_; rintro v h' ⟨rfl, e'⟩; subst h'; conv => whnf)
      | (refine Br.tt ?_; conv => whnf)
      | refine Br.not ?_
      | (refine Br.dt (by omega) ?_; conv => whnf)
      | (refine Ck.mk (by omega) ?_; conv => whnf))
    exact ⟨by rw [isWayF_no0 hd], k1⟩
  | true =>
    refine AC.enter Tryz.func36 Tryz.call36 rfl Tryz.ntmps36 (of_decide_eq_true (by rfl)) ?_
    repeat' (first
      | (refine Has.loadAt (v := .str (l.getD 0 [])) hb rfl (strs_get (by omega)) ?_; conv => whnf)
      | (refine (iIsBinary_ok _ _).mono ?_; rw [hd]; rintro v h' ⟨rfl, k1⟩; conv => whnf)
      | refine AW.seq ?_
      | (refine AW.region ?_; conv => whnf)
      | refine AW.block ?_
      | (refine AW.skip ?_; conv => whnf)
      | refine AW.cond (by rfl) ?_
      | (refine (within_ok _ _ _ _).mono ?_; rintro v h' ⟨rfl, e'⟩; subst h'; conv => whnf)
      | (refine Br.ff ?_; conv => whnf)
      | refine Br.not ?_
      | (refine Br.dt (by omega) ?_; conv => whnf)
      | (refine Ck.mk (by omega) ?_; conv => whnf))
    refine AW.loop1 (fun (k : Nat) => [(0, .slice b 0 N C), (3, .int .i64 (k : Int))]) (fun k h' => (1 ≤ k ∧ k ≤ N ∧ ∀ j, j + 1 < k → stepOk (l.getD j []) (l.getD (j + 1) []) = true) ∧ Keeps h0 h') (fun k => N - k) 1 (Less.cons rfl (Less.cons rfl (Less.nil _))) ⟨⟨by omega, by omega, fun j hj => by omega⟩, k1⟩ ?_
    rintro k h1 ⟨⟨hk1, hk, he⟩, k2⟩
    by_cases hlt : k < N
    · obtain ⟨k, rfl⟩ : ∃ j, k = j + 1 := ⟨k - 1, by omega⟩
      obtain ⟨t, et, hz⟩ := w.tree k (by omega)
      have nb10 := nbrs_len t
      have st := stepOk_eq (y := l.getD (k + 1) []) et hz
      have ek : (((k + 1 : Nat) : Int) - 1) = (k : Int) := by omega
      have hb2 := hb.keep k2
      by_cases hit : l.getD (k + 1) [] ∈ txts (nbrs t)
      · rw [decide_eq_true hit] at st
        have hd2 : decide (l.getD (k + 1) [] ∈ txts (nbrs t)) = true := decide_eq_true hit
        repeat' (first
          | (refine And.intro ?_ ?_ <;> (conv => whnf))
          | (refine Has.loadAt (v := .str t.txt) hb2 rfl (by rw [← et]; exact strs_getI (by omega) (by omega)) ?_; conv => whnf)
          | (refine Has.loadAt (v := .str (l.getD (k + 1) [])) (hb2.keep (St.keeps (by assumption))) rfl (strs_getI (by omega) (by omega)) ?_; conv => whnf)
          | (refine (iNbrs_ok t _ hz).mono ?_; rintro w h' ⟨bn, rfl, hn⟩; have hs' := St.newCall (St.refl _) hn; conv => whnf)
          | (refine (containsS_ok (txts (nbrs t)) (l.getD (k + 1) []) _ _ _ _ (St.has hs' (.head _)) (by simp [txts]) (by omega)).mono ?_; rw [hd2]; rintro w h' ⟨rfl, e'⟩; subst h'; conv => whnf)
          | refine AW.seq ?_
          | (refine AW.region ?_; conv => whnf)
          | refine AW.block ?_
          | (refine AW.skip ?_; conv => whnf)
          | refine AW.cond (by rfl) ?_
          | (refine AW.draw (id := 6) (.p 0 (.p 1 (.p 2 (.p 3 (.p 6 (.p 7 (.p 8 (.r 4 [5, 10, 11] (.all [5, 9] fun i => bif Nat.beq i 5 then (.r 9 [10, 11] (.all [10] fun _ => (.p 11 .done))) else (.all [5] fun _ => (.all [10] fun _ => (.p 11 .done)))))))))))) (by kernel_rfl) (by kernel_rfl) ?_; conv => whnf)
          | (refine Br.ff ?_; conv => whnf)
          | (refine Br.dt (by omega) ?_; conv => whnf)
          | (refine Wr.i64 (by omega) ?_; conv => whnf)
          | (refine Ck.mk (by omega) ?_; conv => whnf)
          | (refine Has.loadS (by first | assumption | exact St.has (by assumption) (by repeat first | exact .head _ | apply List.Mem.tail) | exact St.arg (by assumption) (by assumption)) rfl (by first | (simp; done) | omega | (simp only [List.length_set, List.length_append, List.length_cons, List.length_nil, List.length_replicate, tab_length]; omega) | (simp; omega)) ?_; conv => whnf))
        all_goals
          refine ⟨k + 1 + 1, (Less.cons rfl (Less.cons rfl (Less.nil _))), ⟨⟨by omega, by omega, fun j hj => ?_⟩, k2.trans hs'.keeps⟩, by omega⟩
          by_cases c : j = k
          · rw [c]; exact st
          · exact he j (by omega)
      · rw [decide_eq_false hit] at st
        have hd2 : decide (l.getD (k + 1) [] ∈ txts (nbrs t)) = false := decide_eq_false hit
        repeat' (first
          | (refine And.intro ?_ ?_ <;> (conv => whnf))
          | (refine Has.loadAt (v := .str t.txt) hb2 rfl (by rw [← et]; exact strs_getI (by omega) (by omega)) ?_; conv => whnf)
          | (refine Has.loadAt (v := .str (l.getD (k + 1) [])) (hb2.keep (St.keeps (by assumption))) rfl (strs_getI (by omega) (by omega)) ?_; conv => whnf)
          | (refine (iNbrs_ok t _ hz).mono ?_; rintro w h' ⟨bn, rfl, hn⟩; have hs' := St.newCall (St.refl _) hn; conv => whnf)
          | (refine (containsS_ok (txts (nbrs t)) (l.getD (k + 1) []) _ _ _ _ (St.has hs' (.head _)) (by simp [txts]) (by omega)).mono ?_; rw [hd2]; rintro w h' ⟨rfl, e'⟩; subst h'; conv => whnf)
          | refine AW.seq ?_
          | (refine AW.region ?_; conv => whnf)
          | refine AW.block ?_
          | (refine AW.skip ?_; conv => whnf)
          | (refine AW.ret ?_; conv => whnf)
          | refine AW.cond (by rfl) ?_
          | (refine AW.draw (id := 6) (.p 0 (.p 1 (.p 2 (.p 3 (.p 6 (.p 7 (.p 8 (.r 4 [5, 10, 11] (.all [5, 9] fun i => bif Nat.beq i 5 then (.r 9 [10, 11] (.all [10] fun _ => (.p 11 .done))) else (.all [5] fun _ => (.all [10] fun _ => (.p 11 .done)))))))))))) (by kernel_rfl) (by kernel_rfl) ?_; conv => whnf)
          | (refine Br.tt ?_; conv => whnf)
          | (refine Br.dt (by omega) ?_; conv => whnf)
          | (refine Wr.i64 (by omega) ?_; conv => whnf)
          | (refine Ck.mk (by omega) ?_; conv => whnf)
          | (refine Has.loadS (by first | assumption | exact St.has (by assumption) (by repeat first | exact .head _ | apply List.Mem.tail) | exact St.arg (by assumption) (by assumption)) rfl (by first | (simp; done) | omega | (simp only [List.length_set, List.length_append, List.length_cons, List.length_nil, List.length_replicate, tab_length]; omega) | (simp; omega)) ?_; conv => whnf))
        all_goals first
          | exact k2.trans hs'.keeps
          | (rw [isWayF_no (k := k) (by omega) st]; done)
    · repeat' (first
        | refine AW.seq ?_
        | (refine AW.region ?_; conv => whnf)
        | (refine AW.ret ?_; conv => whnf)
        | (refine AW.exit ?_; conv => whnf)
        | refine AW.cond (by rfl) ?_
        | (refine Br.df (by omega) ?_; conv => whnf))
      exact ⟨by rw [isWayF_yes hd fun j hj => he j (by omega)], k2⟩

end Go.Proofs.YtbicfognbbeigaaGreat
