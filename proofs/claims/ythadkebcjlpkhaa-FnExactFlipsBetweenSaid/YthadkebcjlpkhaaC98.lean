/-
  Contracts of the reference's search by breadth and of ways of rotations are proved.
  They hold for all texts.
-/
import Derived.Test.YthadkebcjlpkhaaH23
import Derived.Test.YthadkebcjlpkhaaH18
set_option linter.unusedVariables false
set_option linter.unusedSimpArgs false
namespace Go.Proofs.Ythadkebcjlpkhaa
open Go.Proofs.Ythadkebcjlpkhaa.Ab Go.Proofs.Ythadkebcjlpkhaa.Pl

/-- texts of trees by their numbers -/
def txI (n : Nat) (S : List Nat) : List (List UInt8) := txts (S.map (tr n))
@[simp] theorem txI_length (n : Nat) (S : List Nat) : (txI n S).length = S.length := by simp [txI]
theorem txI_append (n : Nat) (A B : List Nat) : txI n (A ++ B) = txI n A ++ txI n B := by simp [txI, txts]
theorem txI_get {n : Nat} {S : List Nat} {k : Nat} (h : k < S.length) : (strs (txI n S))[k]? = some (.str (tr n (S.getD k 0)).txt) := by
  unfold strs txI txts
  rw [List.getElem?_map, List.getElem?_map, List.getElem?_map, List.getElem?_eq_getElem h]
  simp only [Option.map_some, List.getD, List.getElem?_eq_getElem h, Option.getD_some]
def inC (n : Nat) (S : List Nat) : Prop := ∀ x ∈ S, x < (trs n).length
theorem inC.get {n : Nat} {S : List Nat} (h : inC n S) {k : Nat} (hk : k < S.length) : S.getD k 0 < (trs n).length := by
  have e : S.getD k 0 = S[k] := by simp only [List.getD, List.getElem?_eq_getElem hk, Option.getD_some]
  rw [e]
  exact h _ (List.getElem_mem hk)
theorem mem_txI {n : Nat} (hn : n ≤ 5) {S : List Nat} (hS : inC n S) {y : Nat} (hy : y < (trs n).length) : (tr n y).txt ∈ txI n S ↔ y ∈ S := by
  unfold txI txts
  rw [List.map_map]
  refine ⟨fun h => ?_, fun h => List.mem_map.2 ⟨y, h, rfl⟩⟩
  obtain ⟨z, hz, e⟩ := List.mem_map.1 h
  have := (tr_txt hn (hS z hz) hy).1 e
  rwa [← this]
set_option maxRecDepth 100000 in
theorem trs_small : (List.range 6).all (fun n => decide ((trs n).length ≤ 42)) = true := by decide +kernel
theorem trs_le {n : Nat} (hn : n ≤ 5) : (trs n).length ≤ 42 := of_decide_eq_true (List.all_eq_true.1 trs_small n (List.mem_range.2 (by omega)))

/-! what the search keeps -/
structure SOk (n : Nat) (s : List Nat × List Int) : Prop where
  mem : inC n s.1
  len : s.2.length = s.1.length
theorem SOk.add {n i x : Nat} {s : List Nat × List Int} (h : SOk n s) (hx : x < (trs n).length) : SOk n (addS i s x) := by
  unfold addS
  split
  · exact h
  · refine ⟨fun y hy => ?_, by simp [h.len]⟩
    rcases List.mem_append.1 hy with hy | hy
    · exact h.mem y hy
    · cases List.mem_singleton.1 hy
      exact hx
theorem SOk.fold {n i : Nat} : ∀ {l : List Nat} {s : List Nat × List Int}, SOk n s → (∀ x ∈ l, x < (trs n).length) → SOk n (l.foldl (addS i) s)
  | [], _, h, _ => h
  | x :: l, s, h, hl => by
    show SOk n (l.foldl (addS i) (addS i s x))
    exact SOk.fold (l := l) (s := addS i s x) (h.add (hl x (.head _))) fun y hy => hl y (.tail _ hy)
theorem nbI_in {n i : Nat} (hn : n ≤ 5) (hi : i < (trs n).length) : ∀ x ∈ nbI n i, x < (trs n).length := (nb_ok hn hi).lt
theorem addS_len (i : Nat) (s : List Nat × List Int) (x : Nat) : s.1.length ≤ (addS i s x).1.length := by
  unfold addS
  split <;> simp
theorem fold_lenS (i : Nat) : ∀ (l : List Nat) (s : List Nat × List Int), s.1.length ≤ (l.foldl (addS i) s).1.length
  | [], s => Nat.le_refl _
  | x :: l, s => Nat.le_trans (addS_len i s x) (fold_lenS i l _)
theorem rowTo_len (n i : Nat) (s : List Nat × List Int) (k : Nat) : s.1.length ≤ (rowTo n i s k).1.length ∧ (rowTo n i s k).1.length ≤ (rowS n i s).1.length := by
  refine ⟨fold_lenS i _ s, ?_⟩
  unfold rowTo rowS
  conv => rhs; rw [← List.take_append_drop k (nbI n (s.1.getD i 0)), List.foldl_append]
  exact fold_lenS i _ _
theorem bfs_mono (n a : Nat) : ∀ (j k : Nat), (bfs n a k).1.length ≤ (bfs n a (k + j)).1.length
  | 0, k => Nat.le_refl _
  | j + 1, k => Nat.le_trans (bfs_mono n a j k) (fold_lenS _ _ _)
structure BfsOk (n a : Nat) : Prop where
  more : ∀ k, k < (trs n).length → k < (bfs n a k).1.length
  all : (bfs n a (trs n).length).1.length = (trs n).length
  has : ∀ b, b < (trs n).length → b ∈ (bfs n a (trs n).length).1
  down : ∀ j, j < (trs n).length → (bfs n a (trs n).length).2.getD j 0 < j ∧ -1 ≤ (bfs n a (trs n).length).2.getD j 0
theorem bfs_ok {n a : Nat} (hn : n ≤ 5) (ha : a < (trs n).length) : BfsOk n a := by
  have c := List.all_eq_true.1 (List.all_eq_true.1 bfs_fine n (List.mem_range.2 (by omega))) a (List.mem_range.2 ha)
  unfold bfsOk at c
  rw [Bool.and_eq_true, Bool.and_eq_true, Bool.and_eq_true, decide_eq_true_iff] at c
  obtain ⟨c1, ⟨c2, c3⟩, c4⟩ := c
  exact ⟨fun k hk => of_decide_eq_true (List.all_eq_true.1 c1 k (List.mem_range.2 hk)), c2, fun b hb => by
    have := List.all_eq_true.1 c3 b (List.mem_range.2 hb)
    simpa using this, fun j hj => of_decide_eq_true (List.all_eq_true.1 c4 j (List.mem_range.2 hj))⟩
theorem bfs_S {n a : Nat} (hn : n ≤ 5) (ha : a < (trs n).length) : ∀ k, k ≤ (trs n).length → SOk n (bfs n a k)
  | 0, _ => ⟨fun x hx => by cases List.mem_singleton.1 hx; exact ha, rfl⟩
  | k + 1, hk => by
    have ih := bfs_S hn ha k (by omega)
    have m := (bfs_ok hn ha).more k (by omega)
    exact ih.fold (nbI_in hn (ih.mem.get m))
theorem bfs_le {n a k : Nat} (hn : n ≤ 5) (ha : a < (trs n).length) (hk : k ≤ (trs n).length) : (bfs n a k).1.length ≤ (trs n).length := by
  have := bfs_mono n a ((trs n).length - k) k
  rw [show k + ((trs n).length - k) = (trs n).length by omega, (bfs_ok hn ha).all] at this
  exact this
theorem rowTo_S {n i k : Nat} {s : List Nat × List Int} (hn : n ≤ 5) (h : SOk n s) (hi : i < s.1.length) : SOk n (rowTo n i s k) :=
  h.fold fun x hx => nbI_in hn (h.mem.get hi) x (List.mem_of_mem_take hx)

set_option maxHeartbeats 4000000 in
theorem sSearch_ok (n a : Nat) (h0 : H) (hn : n ≤ 5) (ha : a < (trs n).length) : AC env 32 [.str (tr n a).txt] h0 fun w h' => ∃ b c, w = .tup [.slice b 0 (trs n).length (trs n).length, .slice c 0 (trs n).length (trs n).length] ∧ St h0 h' [(b, row (strs (txI n (bfs n a (trs n).length).1))), (c, row (ints (bfs n a (trs n).length).2))] := by
  have hs := St.refl h0
  have bk := bfs_ok hn ha
  have c42 := trs_le hn
  refine AC.enter Try.func32 Try.call32 rfl Try.ntmps32 (of_decide_eq_true (by rfl)) ?_
  repeat' (first
    | (refine NewG.st (by assumption) (fun bt h' hs' => ?_); conv => whnf)
    | refine AW.seq ?_
    | (refine AW.region ?_; conv => whnf)
    | refine AW.block ?_
    | (refine NewG.st (by assumption) (fun bt h' hs' => ?_); conv => whnf))
  rename_i bs hA hsA
  obtain ⟨h1, rfl⟩ : ∃ q, q = h' := ⟨_, rfl⟩
  have hsB : St h0 h1 [(bs, row (strs (txI n (bfs n a 0).1))), (bt, row (ints (bfs n a 0).2))] := hs'.perm (.swap _ _ _)
  clear hs' hsA hs
  refine AW.loop4 (fun (i bs bf N : Nat) => [(4, .slice bs 0 N N), (5, .slice bf 0 N N), (6, .int .i64 (i : Int))]) (fun i bs bf N h' => (i ≤ (trs n).length ∧ N = (bfs n a i).1.length) ∧ St h0 h' [(bs, row (strs (txI n (bfs n a i).1))), (bf, row (ints (bfs n a i).2))]) (fun i _ _ _ => (trs n).length - i) 0 bs bt 1
    (Less.cons rfl (Less.cons rfl (Less.cons rfl (Less.nil _)))) ⟨⟨by omega, rfl⟩, hsB⟩ ?_
  clear hsB
  rintro i bs bf N h2 ⟨⟨hi, hN⟩, hs2⟩
  have le := bfs_le hn ha hi
  have sk := bfs_S hn ha i hi
  by_cases hlt : i < (trs n).length
  · have mo := bk.more i hlt
    have le2 := bfs_le hn ha (k := i + 1) (by omega)
    have e2 : (bfs n a (i + 1)) = rowS n i (bfs n a i) := rfl
    rw [e2] at le2
    obtain ⟨s, hsd⟩ : ∃ s, s = bfs n a i := ⟨_, rfl⟩
    rw [← hsd] at hN hs2 le sk mo le2 e2
    have xC := sk.mem.get mo
    have nk := nb_ok hn xC
    obtain ⟨x, hx⟩ : ∃ x, x = s.1.getD i 0 := ⟨_, rfl⟩
    rw [← hx] at xC nk
    have nl : (nbrs (tr n x)).length = (nbI n x).length := by rw [nk.nb, List.length_map]
    have nt : txts (nbrs (tr n x)) = txI n (nbI n x) := by rw [nk.nb]; rfl
    have nb10 := nbrs_len (tr n x)
    have nsz := nk.size
    repeat' (first
      | (refine Has.loadAt (v := .str (tr n x).txt) (St.has hs2 (.head _)) rfl (by rw [hx]; exact txI_get mo) ?_; conv => whnf)
      | (refine (sNbrs_ok (tr n x) _ (by omega)).mono ?_; rw [nl, nt]; rintro w h3 ⟨bn, rfl, hnn⟩; have hs3 := hs2.newCall hnn; conv => whnf)
      | refine AW.seq ?_
      | (refine AW.region ?_; conv => whnf)
      | refine AW.block ?_
      | (refine AW.skip ?_; conv => whnf)
      | refine AW.cond (by rfl) ?_
      | (refine Br.dt (by omega) ?_; conv => whnf)
      | (refine Ck.mk (by omega) ?_; conv => whnf))
    clear hs2 hnn
    have e0 : rowTo n i s 0 = s := rfl
    refine AW.loop4 (fun (k bs bf N : Nat) => [(4, .slice bs 0 N N), (5, .slice bf 0 N N), (6, .int .i64 (i : Int)), (7, .slice bn 0 (nbI n x).length (nbI n x).length), (8, .int .i64 (k : Int))]) (fun k bs bf N h' => (k ≤ (nbI n x).length ∧ N = (rowTo n i s k).1.length) ∧ St h0 h' [(bn, row (strs (txI n (nbI n x)))), (bs, row (strs (txI n (rowTo n i s k).1))), (bf, row (ints (rowTo n i s k).2))]) (fun k _ _ _ => (nbI n x).length - k) 0 bs bf N
      (Less.cons rfl (Less.cons rfl (Less.cons rfl (Less.cons rfl (Less.cons rfl (Less.nil _)))))) ⟨⟨by omega, hN⟩, hs3⟩ ?_
    clear hs3 hN
    rintro k bs bf N h4 ⟨⟨hk, hN⟩, hs4⟩
    have rl := rowTo_len n i s k
    have rS := rowTo_S (k := k) hn sk mo
    by_cases hlt2 : k < (nbI n x).length
    · obtain ⟨y, hy⟩ : ∃ y, y = (nbI n x).getD k 0 := ⟨_, rfl⟩
      have yC : y < (trs n).length := by
        rw [hy]
        exact inC.get (S := nbI n x) (fun z hz => nk.lt z hz) hlt2
      have e1 : rowTo n i s (k + 1) = addS i (rowTo n i s k) y := by
        have := rowTo_succ (n := n) (i := i) (s := s) (k := k) (by rw [← hx]; exact hlt2)
        rw [this, ← hx, hy]
      have mm := mem_txI hn rS.mem yC
      have hl : ((rowTo n i s k).1.map (tr n)).length = (rowTo n i s k).1.length := List.length_map _
      by_cases hit : y ∈ (rowTo n i s k).1
      · have hd : decide ((tr n y).txt ∈ txts ((rowTo n i s k).1.map (tr n))) = true := decide_eq_true (mm.2 hit)
        have e3 : addS i (rowTo n i s k) y = rowTo n i s k := if_pos hit
        repeat' (first
          | (refine Has.loadAt (v := .str (tr n y).txt) (St.has hs4 (.head _)) rfl (by rw [hy]; exact txI_get hlt2) ?_; conv => whnf)
          | (refine (l15Has_ok ((rowTo n i s k).1.map (tr n)) (tr n y) _ _ _ _ (St.has hs4 (.tail _ (.head _))) (by omega) (by omega)).mono ?_; rw [hd]; rintro w h' ⟨rfl, e'⟩; subst h'; conv => whnf)
          | refine AW.seq ?_
          | (refine AW.region ?_; conv => whnf)
          | refine AW.block ?_
          | (refine AW.skip ?_; conv => whnf)
          | refine AW.cond (by rfl) ?_
          | (refine Br.ff ?_; conv => whnf)
          | (refine Br.dt (by omega) ?_; conv => whnf)
          | (refine Wr.i64 (by omega) ?_; conv => whnf)
          | (refine Ck.mk (by omega) ?_; conv => whnf))
        exact ⟨k + 1, bs, bf, N, (Less.cons rfl (Less.cons rfl (Less.cons rfl (Less.cons rfl (Less.cons rfl (Less.nil _)))))), ⟨⟨by omega, by rw [e1, e3]; exact hN⟩, by rw [e1, e3]; exact hs4⟩, by omega⟩
      · have hd : decide ((tr n y).txt ∈ txts ((rowTo n i s k).1.map (tr n))) = false := decide_eq_false fun h => hit (mm.1 h)
        have e3 : addS i (rowTo n i s k) y = ((rowTo n i s k).1 ++ [y], (rowTo n i s k).2 ++ [(i : Int)]) := if_neg hit
        have t1 : txI n ((rowTo n i s k).1 ++ [y]) = txI n (rowTo n i s k).1 ++ [(tr n y).txt] := txI_append n _ _
        have rl2 := rS.len
        repeat' (first
          | (refine Has.loadAt (v := .str (tr n y).txt) (St.has (by assumption) (by repeat first | exact .head _ | apply List.Mem.tail)) rfl (by rw [hy]; exact txI_get hlt2) ?_; conv => whnf)
          | (refine (l15Has_ok ((rowTo n i s k).1.map (tr n)) (tr n y) _ _ _ _ (St.has hs4 (.tail _ (.head _))) (by omega) (by omega)).mono ?_; rw [hd]; rintro w h' ⟨rfl, e'⟩; subst h'; conv => whnf)
          | (refine NewG.st (by assumption) (fun bq h' hs' => ?_); conv => whnf)
          | (refine LoadsG.has (St.has (by assumption) (.head _)) (by simp) ?_; conv => whnf)
          | (refine AppG.stS (l := txI n (rowTo n i s k).1) (y := (tr n y).txt) (by assumption) (fun b' => .there (.there .here)) (by simp; omega) (by simp; omega) (by decide) (fun bs' h' hs' => ?_); have hs5 := hs'.tail; clear hs'; conv => whnf)
          | (refine AppG.stZ (l := (rowTo n i s k).2) (y := (i : Int)) (by assumption) (fun b' => .there (.there (.there .here))) (by omega) (by omega) (by decide) (fun bf' h' hs' => ?_); have hs6 := hs'.tail; clear hs'; conv => whnf)
          | refine AW.seq ?_
          | (refine AW.region ?_; conv => whnf)
          | refine AW.block ?_
          | (refine AW.skip ?_; conv => whnf)
          | refine AW.cond (by rfl) ?_
          | (refine Br.tt ?_; conv => whnf)
          | (refine Br.dt (by omega) ?_; conv => whnf)
          | (refine Wr.i64 (by omega) ?_; conv => whnf)
          | (refine Ck.mk (by omega) ?_; conv => whnf))
        exact ⟨k + 1, bs', bf', N + 1, (Less.cons rfl (Less.cons rfl (Less.cons rfl (Less.cons rfl (Less.cons rfl (Less.nil _)))))), ⟨⟨by omega, by rw [e1, e3, hN]; simp⟩, by rw [e1, e3, t1]; exact hs6⟩, by omega⟩
    · obtain rfl : k = (nbI n x).length := by omega
      have e1 : rowTo n i s (nbI n x).length = rowS n i s := by rw [hx]; exact rowTo_all n i s
      rw [e1] at hN hs4
      repeat' (first
        | refine AW.seq ?_
        | (refine AW.region ?_; conv => whnf)
        | (refine AW.exit ?_; conv => whnf)
        | refine AW.cond (by rfl) ?_
        | (refine Br.df (by omega) ?_; conv => whnf)
        | (refine Wr.i64 (by omega) ?_; conv => whnf))
      exact ⟨i + 1, bs, bf, N, (Less.cons rfl (Less.cons rfl (Less.cons rfl (Less.nil _)))), ⟨⟨by omega, by rw [e2]; exact hN⟩, by rw [e2]; exact hs4.tail⟩, by omega⟩
  · obtain rfl : i = (trs n).length := by omega
    rw [bk.all] at hN
    subst hN
    repeat' (first
      | refine AW.seq ?_
      | (refine AW.region ?_; conv => whnf)
      | (refine AW.ret ?_; conv => whnf)
      | (refine AW.exit ?_; conv => whnf)
      | refine AW.cond (by rfl) ?_
      | (refine Br.df (by omega) ?_; conv => whnf))
    exact ⟨bs, bf, rfl, hs2⟩

end Go.Proofs.Ythadkebcjlpkhaa
