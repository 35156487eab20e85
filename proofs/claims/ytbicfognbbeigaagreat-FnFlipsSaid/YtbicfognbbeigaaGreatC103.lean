/-
  The contract of ways of rotations is proved.
  It holds for trees of at most five nodes.
-/
import Derived.Test.YtbicfognbbeigaaGreatH29
import Derived.Test.YtbicfognbbeigaaGreatH32
import Derived.Test.YtbicfognbbeigaaGreatH27
set_option linter.unusedVariables false
set_option linter.unusedSimpArgs false
namespace Go.Proofs.YtbicfognbbeigaaGreat
open Go.Proofs.YtbicfognbbeigaaGreat.Ab Go.Proofs.YtbicfognbbeigaaGreat.Pl

theorem keysE_append (A B : List (Nat × Option Nat)) : keysE (A ++ B) = keysE A ++ keysE B := List.map_append
theorem headE_pre {E F : List (Nat × Option Nat)} {k : Nat} (h : k < E.length) : headE (E ++ F) k = headE E k := by
  unfold headE
  rw [keysE_append]
  simp only [List.getD]
  rw [List.getElem?_append_left (by rw [keysE_len]; exact h)]
theorem rowToE_pre (n k : Nat) (E : List (Nat × Option Nat)) (q : Nat) : ∃ F, rowToE n k E q = E ++ F := fold_pre _ _ _
theorem rowToE_E {n k : Nat} {E : List (Nat × Option Nat)} (q : Nat) (hn : n ≤ 5) (h : EOk n E) (hk : k < E.length) : EOk n (rowToE n k E q) := by
  have hc := h.keys.get (k := k) (by rw [keysE_len]; exact hk)
  exact h.fold hc fun y hy => nbI_in hn hc y (List.mem_of_mem_take hy)
theorem ents_bound {n : Nat} {E : List (Nat × Option Nat)} (h : EOk n E) : E.length ≤ (trs n).length := by
  rw [← keysE_len E]
  have : (keysE E).length ≤ (List.range (trs n).length).length := List.Nodup.length_le_of_subset h.nodup fun x hx => List.mem_range.2 (h.keys x hx)
  rwa [List.length_range] at this
def pathOp (E : List (Nat × Option Nat)) (f : Nat) : Option Nat → Option (List Nat)
  | none => some []
  | some y => pathO E f y
theorem pathOp_step {E : List (Nat × Option Nat)} {f y : Nat} : pathOp E (f + 1) (some y) = (pathOp E f (parE E y)).map (y :: ·) := by
  show pathO E (f + 1) y = _
  unfold pathO
  cases parE E y with
  | none => rfl
  | some x => rfl
def MidR (n i j : Nat) (h0 : H) (fr : Fr) (h : H) : Prop := ∃ bm, Less fr [(1, .str (tr n j).txt), (6, .map bm)] ∧ St h0 h [(bm, .map (ents n (bfsE n i (stopE n i j))))]

set_option maxHeartbeats 4000000 in
theorem wayFind {n i j : Nat} {h0 : H} {Q : Exit → Fr → H → Prop} (hn : n ≤ 5) (hi : i < (trs n).length) (hj : j < (trs n).length) (rest : ∀ fr h, MidR n i j h0 fr h → AW env 83 (restL 5 (bodyOf Tryz.f28)) fr h Q) : ∀ fr, Less fr [(0, .str (tr n i).txt), (1, .str (tr n j).txt)] → AW env 83 (restL 0 (bodyOf Tryz.f28)) fr h0 Q := by
  intro fr l1
  refine AW.less l1 ?_
  have hs := St.refl h0
  have ta := tree_tr hn hi
  have tb := tree_tr hn hj
  have za := (nb_ok hn hi).size
  have zb := (nb_ok hn hj).size
  have al : alikeF (tr n i).txt (tr n j).txt 5 = true := by
    unfold alikeF
    rw [ta, tb]
    exact decide_eq_true ⟨by show (0 : Int) ≤ ((tr n i).size : Nat); omega, by show (((tr n i).size : Nat) : Int) ≤ 5; omega, by show (((tr n i).size : Nat) : Int) = ((tr n j).size : Nat); omega⟩
  have wo := way_ok2 hn hi hj
  have ws := wo.stop
  have c42 := trs_le hn
  obtain ⟨M, hM⟩ : ∃ M, M = MidR n i j h0 := ⟨_, rfl⟩
  rw [← hM] at rest
  refine AW.seqS [_, _, _, _, _] (M := M) ?_ rest
  conv => whnf
  repeat' (first
    | (refine (alike_ok _ _ _ _).mono ?_; rw [al]; rintro v h1 ⟨rfl, k1⟩; have hs1 := St.keep hs k1; conv => whnf)
    | (refine NewG.st hs1 (fun bm h2 hs2 => ?_); conv => whnf)
    | (refine MapSetG.putSt hs2 .here (strLaw strUnder) (by simp) (strKOk strUnder (txt_small hn hi).1) (by simp) (fun h3 hs3 => ?_); conv => whnf)
    | (refine NewG.st hs3 (fun bt h4 hs4 => ?_); conv => whnf)
    | refine AW.seq ?_
    | (refine AW.region ?_; conv => whnf)
    | refine AW.block ?_
    | (refine AW.skip ?_; conv => whnf)
    | refine AW.cond (by rfl) ?_
    | (refine Br.ff ?_; conv => whnf))
  have hsB : St h0 h4 [(bt, row (strs (txI n (keysE (bfsE n i 0))))), (bm, .map (ents n (bfsE n i 0)))] := hs4
  clear hs4 hs3 hs2 hs1 hs
  refine AW.loop3 (fun (k bt N : Nat) => [(1, .str (tr n j).txt), (6, .map bm), (7, .slice bt 0 N N), (8, .int .i64 (k : Int))]) (fun k bt N h' => (k ≤ stopE n i j ∧ N = (bfsE n i k).length) ∧ St h0 h' [(bt, row (strs (txI n (keysE (bfsE n i k))))), (bm, .map (ents n (bfsE n i k)))]) (fun k _ _ => (trs n).length + 1 - k) 0 bt 1
    (Less.cons rfl (Less.cons rfl (Less.cons rfl (Less.cons rfl (Less.nil _))))) ⟨⟨by omega, rfl⟩, hsB⟩ ?_
  clear hsB
  rintro k bt N h2 ⟨⟨hk, hN⟩, hs2⟩
  have eok := bfsE_E hn hi k (by omega)
  have le := ents_bound eok
  have e2 : bfsE n i (k + 1) = rowE n k (bfsE n i k) := rfl
  by_cases hlt : k < N
  · by_cases hst : k = stopE n i j
    · have hd : decide (j ∈ keysE (bfsE n i k)) = true := decide_eq_true (by rw [hst]; exact wo.here)
      repeat' (first
        | (refine LookG.tree hn hs2 (.tail _ (.head _)) eok hj ?_; rw [hd]; conv => whnf)
        | refine AW.seq ?_
        | (refine AW.region ?_; conv => whnf)
        | refine AW.block ?_
        | (refine AW.skip ?_; conv => whnf)
        | (refine AW.exit ?_; conv => whnf)
        | refine AW.cond (by rfl) ?_
        | (refine Br.tt ?_; conv => whnf)
        | (refine Br.dt (by omega) ?_; conv => whnf))
      rw [hM]
      exact ⟨bm, (Less.cons rfl (Less.cons rfl (Less.nil _))), by rw [← hst]; exact hs2.tail⟩
    · have hd : decide (j ∈ keysE (bfsE n i k)) = false := decide_eq_false (wo.no k (by omega))
      obtain ⟨E, hE⟩ : ∃ E, E = bfsE n i k := ⟨_, rfl⟩
      rw [← hE] at hN hs2 eok hd le e2
      have kE : k < E.length := by omega
      have xC := eok.keys.get (k := k) (by rw [keysE_len]; exact kE)
      have hx0 : headE E k = (keysE E).getD k 0 := rfl
      rw [← hx0] at xC
      obtain ⟨x, hx⟩ : ∃ x, x = headE E k := ⟨_, rfl⟩
      rw [← hx] at xC
      have nk := nb_ok hn xC
      have nl : (nbrs (tr n x)).length = (nbI n x).length := by rw [nk.nb, List.length_map]
      have nt : txts (nbrs (tr n x)) = txI n (nbI n x) := by rw [nk.nb]; rfl
      have nb10 := nbrs_len (tr n x)
      have nsz := nk.size
      repeat' (first
        | (refine LookG.tree hn hs2 (.tail _ (.head _)) eok hj ?_; rw [hd]; conv => whnf)
        | (refine Has.loadAt (v := .str (tr n x).txt) (St.has hs2 (.head _)) rfl (by rw [hx]; exact txI_get (by rw [keysE_len]; exact kE)) ?_; conv => whnf)
        | (refine (iNbrs_ok (tr n x) _ (by omega)).mono ?_; rw [nl, nt]; rintro w h3 ⟨bn, rfl, hnn⟩; have hs3 := hs2.newCall hnn; conv => whnf)
        | refine AW.seq ?_
        | (refine AW.region ?_; conv => whnf)
        | refine AW.block ?_
        | (refine AW.skip ?_; conv => whnf)
        | refine AW.cond (by rfl) ?_
        | (refine Br.ff ?_; conv => whnf)
        | (refine Br.dt (by omega) ?_; conv => whnf)
        | (refine Ck.mk (by omega) ?_; conv => whnf))
      clear hs2 hnn
      refine AW.loop3 (fun (q bt N : Nat) => [(1, .str (tr n j).txt), (6, .map bm), (7, .slice bt 0 N N), (8, .int .i64 (k : Int)), (44, .slice bn 0 (nbI n x).length (nbI n x).length), (45, .int .i64 ((nbI n x).length : Int)), (46, .int .i64 (q : Int))]) (fun q bt N h' => (q ≤ (nbI n x).length ∧ N = (rowToE n k E q).length) ∧ St h0 h' [(bn, row (strs (txI n (nbI n x)))), (bt, row (strs (txI n (keysE (rowToE n k E q))))), (bm, .map (ents n (rowToE n k E q)))]) (fun q _ _ => (nbI n x).length - q) 0 bt N
        (Less.cons rfl (Less.cons rfl (Less.cons rfl (Less.cons rfl (Less.cons rfl (Less.cons rfl (Less.cons rfl (Less.nil _)))))))) ⟨⟨by omega, hN⟩, hs3⟩ ?_
      clear hs3 hN
      rintro q bt N h4 ⟨⟨hq, hN⟩, hs4⟩
      have rok := rowToE_E q hn eok kE
      have rle := ents_bound rok
      obtain ⟨G, hG⟩ := rowToE_pre n k E q
      have hdx : headE (rowToE n k E q) k = x := by rw [hG, headE_pre kE, hx]
      have klt : k < (rowToE n k E q).length := by rw [hG, List.length_append]; omega
      by_cases hlt2 : q < (nbI n x).length
      · obtain ⟨y, hy⟩ : ∃ y, y = (nbI n x).getD q 0 := ⟨_, rfl⟩
        have yC : y < (trs n).length := by
          rw [hy]
          exact inC.get (S := nbI n x) (fun z hz => nk.lt z hz) hlt2
        have e1 : rowToE n k E (q + 1) = addE x (rowToE n k E q) y := by
          have := rowToE_succ (n := n) (i := k) (E := E) (k := q) (by rw [← hx]; exact hlt2)
          rw [this, ← hx, hy]
        obtain ⟨R, hR⟩ : ∃ R, R = rowToE n k E q := ⟨_, rfl⟩
        rw [← hR] at hN hs4 rok rle hdx klt e1
        by_cases hit : y ∈ keysE R
        · have hd2 : decide (y ∈ keysE R) = true := decide_eq_true hit
          have e3 : addE x R y = R := if_pos hit
          repeat' (first
            | (refine Has.loadAt (v := .str (tr n y).txt) (St.has hs4 (.head _)) rfl (by rw [hy]; exact txI_get hlt2) ?_; conv => whnf)
            | (refine LookG.tree hn hs4 (.tail _ (.tail _ (.head _))) rok yC ?_; rw [hd2]; conv => whnf)
            | refine AW.seq ?_
            | (refine AW.region ?_; conv => whnf)
            | refine AW.block ?_
            | (refine AW.skip ?_; conv => whnf)
            | refine AW.cond (by rfl) ?_
            | (refine Br.ff ?_; conv => whnf)
            | (refine Br.dt (by omega) ?_; conv => whnf)
            | (refine Wr.i64 (by omega) ?_; conv => whnf)
            | (refine Ck.mk (by omega) ?_; conv => whnf))
          exact ⟨q + 1, bt, N, (Less.cons rfl (Less.cons rfl (Less.cons rfl (Less.cons rfl (Less.cons rfl (Less.cons rfl (Less.cons rfl (Less.nil _)))))))), ⟨⟨by omega, by rw [e1, e3]; exact hN⟩, by rw [e1, e3]; exact hs4⟩, by omega⟩
        · have hd2 : decide (y ∈ keysE R) = false := decide_eq_false hit
          have e3 : addE x R y = R ++ [(y, some x)] := if_neg hit
          have t1 : txI n (keysE (R ++ [(y, some x)])) = txI n (keysE R) ++ [(tr n y).txt] := by rw [keysE_append]; exact txI_append n _ _
          have t2 : ents n (R ++ [(y, some x)]) = ents n R ++ [(.str (tr n y).txt, .str (tr n x).txt)] := ents_append n _ _
          have kl := keysE_len R
          repeat' (first
            | (refine Has.loadAt (v := .str (tr n y).txt) (St.has hs4 (.head _)) rfl (by rw [hy]; exact txI_get hlt2) ?_; conv => whnf)
            | (refine LookG.tree hn hs4 (.tail _ (.tail _ (.head _))) rok yC ?_; rw [hd2]; conv => whnf)
            | (refine Has.loadAt (v := .str (tr n x).txt) (St.has hs4 (.tail _ (.head _))) rfl (by rw [← hdx]; exact txI_get (by rw [keysE_len]; exact klt)) ?_; conv => whnf)
            | (refine MapSetG.putSt hs4 (.there (.there .here)) (strLaw strUnder) (ents_ok hn rok) (strKOk strUnder (txt_small hn yC).1) (ents_no hn rok yC hit) (fun h5 hs5 => ?_); conv => whnf)
            | (refine NewG.st hs5 (fun bq h6 hs6 => ?_); conv => whnf)
            | (refine LoadsG.has (St.has hs6 (.head _)) (by simp) ?_; conv => whnf)
            | (refine AppG.stS (l := txI n (keysE R)) (y := (tr n y).txt) hs6 (fun b' => .there (.there .here)) (by simp; omega) (by simp; omega) (by decide) (fun bt' h7 hs7 => ?_); have hs8 := hs7.tail; conv => whnf)
            | refine AW.seq ?_
            | (refine AW.region ?_; conv => whnf)
            | refine AW.block ?_
            | (refine AW.skip ?_; conv => whnf)
            | refine AW.cond (by rfl) ?_
            | (refine Br.tt ?_; conv => whnf)
            | (refine Br.dt (by omega) ?_; conv => whnf)
            | (refine Wr.i64 (by omega) ?_; conv => whnf)
            | (refine Ck.mk (by omega) ?_; conv => whnf))
          exact ⟨q + 1, bt', N + 1, (Less.cons rfl (Less.cons rfl (Less.cons rfl (Less.cons rfl (Less.cons rfl (Less.cons rfl (Less.cons rfl (Less.nil _)))))))), ⟨⟨by omega, by rw [e1, e3, hN]; simp⟩, by rw [e1, e3, t1, t2]; exact hs8⟩, by omega⟩
      · obtain rfl : q = (nbI n x).length := by omega
        have e1 : rowToE n k E (nbI n x).length = rowE n k E := by rw [hx]; exact rowToE_all n k E
        rw [e1] at hN hs4
        repeat' (first
          | refine AW.seq ?_
          | (refine AW.region ?_; conv => whnf)
          | (refine AW.exit ?_; conv => whnf)
          | refine AW.cond (by rfl) ?_
          | (refine Br.df (by omega) ?_; conv => whnf)
          | (refine Wr.i64 (by omega) ?_; conv => whnf))
        exact ⟨k + 1, bt, N, (Less.cons rfl (Less.cons rfl (Less.cons rfl (Less.cons rfl (Less.nil _))))), ⟨⟨by omega, by rw [e2]; exact hN⟩, by rw [e2]; exact hs4.tail⟩, by omega⟩
  · have hst : k = stopE n i j := by
      apply Classical.byContradiction
      intro h
      have := (bfsE_ok hn hi).more k (by omega)
      omega
    repeat' (first
      | refine AW.seq ?_
      | (refine AW.region ?_; conv => whnf)
      | (refine AW.exit ?_; conv => whnf)
      | refine AW.cond (by rfl) ?_
      | (refine Br.df (by omega) ?_; conv => whnf))
    rw [hM]
    exact ⟨bm, (Less.cons rfl (Less.cons rfl (Less.nil _))), by rw [← hst]; exact hs2.tail⟩
set_option maxHeartbeats 4000000 in
theorem wayBack (n i j : Nat) (h0 : H) (hn : n ≤ 5) (hi : i < (trs n).length) (hj : j < (trs n).length) : ∀ fr h, MidR n i j h0 fr h → AW env 83 (restL 5 (bodyOf Tryz.f28)) fr h (retK Tryz.f28.results.toList fun w h' => ∃ c, w = .tup [.slice c 0 (wayI n i j).length (wayI n i j).length, .bool true] ∧ New h0 h' c (strs (txI n (wayI n i j)))) := by
  rintro fr h ⟨bm, l1, hs⟩
  refine AW.less l1 ?_
  have wo := way_ok2 hn hi hj
  have wp := wo.path
  have wh := wo.here
  have ws := wo.stop
  have eok := bfsE_E hn hi (stopE n i j) ws
  have clo := bfsE_clo hn hi (stopE n i j) ws
  obtain ⟨E, hE⟩ : ∃ E, E = bfsE n i (stopE n i j) := ⟨_, rfl⟩
  rw [← hE] at hs wp wh eok clo
  obtain ⟨W, hW⟩ : ∃ W, W = wayI n i j := ⟨_, rfl⟩
  rw [← hW] at wp ⊢
  repeat' (first
    | (refine NewG.st hs (fun bo h1 hs1 => ?_); conv => whnf)
    | refine AW.seq ?_
    | (refine AW.region ?_; conv => whnf)
    | refine AW.block ?_)
  clear hs
  refine AW.loop4 (fun (o : Option Nat) (f : Nat) (out : List Nat) (bo : Nat) => [(6, .map bm), (15, .slice bo 0 out.length out.length), (16, .str (ptx n o))]) (fun o f out bo h' => (∃ r, pathOp E f o = some r ∧ out ++ r = W.reverse ∧ out.length + f ≤ 50 ∧ ∀ y, o = some y → y ∈ keysE E) ∧ St h0 h' [(bo, row (strs (txI n out))), (bm, .map (ents n E))]) (fun o f _ _ => 2 * f + (match o with | none => 0 | some _ => 1)) (some j) 50 [] bo
    (Less.cons rfl (Less.cons rfl (Less.cons rfl (Less.nil _)))) ⟨⟨_, wp, rfl, by simp, fun y hy => by cases hy; exact wh⟩, hs1⟩ ?_
  clear hs1
  rintro o f out bo h2 ⟨⟨r, hr, ho, hf, hm⟩, hs2⟩
  cases o with
  | none =>
    have hr2 : r = [] := by cases hr; rfl
    rw [hr2, List.append_nil] at ho
    have ow : out.reverse = W := by rw [ho, List.reverse_reverse]
    have ol : out.length = W.length := by rw [← ow, List.length_reverse]
    have tw : (txI n out).reverse = txI n W := by rw [← ow]; simp [txI, txts, List.map_reverse]
    repeat' (first
      | (refine (reverse_ok (txI n out) _ _ _ _ _ _ hs2 (by simp) (by omega)).mono ?_; rw [tw, ol]; rintro w h' ⟨rfl, hs3⟩; conv => whnf)
      | refine AW.seq ?_
      | (refine AW.region ?_; conv => whnf)
      | (refine AW.ret ?_; conv => whnf)
      | (refine AW.exit ?_; conv => whnf)
      | refine AW.cond (by rfl) ?_
      | (refine Br.ff ?_; conv => whnf))
    exact ⟨bo, rfl, hs3.toNew⟩
  | some y =>
    have yK := hm y rfl
    have yC := eok.keys y yK
    have hd : decide (y ∈ keysE E) = true := decide_eq_true yK
    have ty := (txt_small hn yC).2
    have hne : ((ptx n (some y)) == []) = false := beq_eq_false_iff_ne.2 fun e => by
      have e2 : (tr n y).txt = [] := e
      rw [e2] at ty
      simp at ty
    cases f with
    | zero => cases hr
    | succ f =>
      rw [pathOp_step] at hr
      obtain ⟨r2, hr2, e2⟩ := Option.map_eq_some_iff.1 hr
      have e2 : y :: r2 = r := e2
      subst e2
      have t1 : txI n (out ++ [y]) = txI n out ++ [(tr n y).txt] := txI_append n _ _
      repeat' (first
        | (refine Br.f hne ?_; conv => whnf)
        | (refine NewG.st hs2 (fun bq h3 hs3 => ?_); conv => whnf)
        | (refine LoadsG.has (St.has hs3 (.head _)) (by simp) ?_; conv => whnf)
        | (refine AppG.stS (l := txI n out) (y := (tr n y).txt) hs3 (fun b' => .there .here) (by simp) (by simp; omega) (by decide) (fun bo' h4 hs4 => ?_); have hs5 := hs4.tail; conv => whnf)
        | (refine LookG.tree hn hs5 (.tail _ (.head _)) eok yC ?_; rw [hd]; conv => whnf)
        | refine AW.seq ?_
        | (refine AW.region ?_; conv => whnf)
        | refine AW.block ?_
        | (refine AW.skip ?_; conv => whnf)
        | refine AW.cond (by rfl) ?_
        | refine Br.not ?_)
      refine ⟨parE E y, f, out ++ [y], bo', ?_, ⟨⟨r2, hr2, by rw [List.append_assoc]; exact ho, by simp only [List.length_append, List.length_cons, List.length_nil]; omega, fun z hz => ?_⟩, by rw [t1]; exact hs5⟩, ?_⟩
      · simp only [List.length_append, List.length_cons, List.length_nil]
        exact (Less.cons rfl (Less.cons rfl (Less.cons rfl (Less.nil _))))
      · obtain ⟨p, hp, e⟩ := parE_mem hz
        exact clo p hp z e
      · cases parE E y <;> simp <;> omega
theorem iWay_ok (n i j : Nat) (h0 : H) (hn : n ≤ 5) (hi : i < (trs n).length) (hj : j < (trs n).length) : AC env 28 [.str (tr n i).txt, .str (tr n j).txt] h0 fun w h' => ∃ c, w = .tup [.slice c 0 (wayI n i j).length (wayI n i j).length, .bool true] ∧ New h0 h' c (strs (txI n (wayI n i j))) := by
  refine AC.enter Tryz.func28 Tryz.call28 rfl Tryz.ntmps28 (of_decide_eq_true (by rfl)) ?_
  exact wayFind hn hi hj (wayBack n i j h0 hn hi hj) _ (Less.cons rfl (Less.cons rfl (Less.nil _)))
theorem alike_fit {a b : List UInt8} (no : ¬ fitW a b) : alikeF a b 5 = false := by
  refine decide_eq_false fun h => no ?_
  cases ha : treeOf a with
  | none => rw [ha] at h; exact absurd h.1 (by decide)
  | some t =>
    cases hb : treeOf b with
    | none => rw [ha, hb] at h; have h1 := h.1; have h2 := h.2.2; rw [h2] at h1; exact absurd h1 (by decide)
    | some u =>
      rw [ha, hb] at h
      have h1 : ((t.size : Nat) : Int) ≤ 5 := h.2.1
      have h2 : ((t.size : Nat) : Int) = (u.size : Nat) := h.2.2
      exact fitW_of ha hb (by omega) (by omega)
theorem iWayNo_ok (a b : List UInt8) (h0 : H) (no : ¬ fitW a b) : AC env 28 [.str a, .str b] h0 fun w h' => ∃ c, w = .tup [.slice c 0 0 0, .bool false] ∧ New h0 h' c (strs []) := by
  have hs := St.refl h0
  have al := alike_fit no
  refine AC.enter Tryz.func28 Tryz.call28 rfl Tryz.ntmps28 (of_decide_eq_true (by rfl)) ?_
  repeat' (first
    | (refine (alike_ok _ _ _ _).mono ?_; rw [al]; rintro v h1 ⟨rfl, k1⟩; have hs1 := St.keep hs k1; conv => whnf)
    | (refine NewG.st hs1 (fun bm h2 hs2 => ?_); conv => whnf)
    | refine AW.seq ?_
    | (refine AW.region ?_; conv => whnf)
    | (refine AW.ret ?_; conv => whnf)
    | refine AW.cond (by rfl) ?_
    | (refine Br.tt ?_; conv => whnf))
  exact ⟨_, rfl, hs2.toNew⟩
theorem iDist_ok (n i j : Nat) (h0 : H) (hn : n ≤ 5) (hi : i < (trs n).length) (hj : j < (trs n).length) (hl : (wayI n i j).length ≤ 1000) : AC env 30 [.str (tr n i).txt, .str (tr n j).txt] h0 fun w h' => w = .int .i64 (((wayI n i j).length : Int) - 1) ∧ Keeps h0 h' := by
  have hs := St.refl h0
  refine AC.enter Tryz.func30 Tryz.call30 rfl Tryz.ntmps30 (of_decide_eq_true (by rfl)) ?_
  repeat' (first
    | (refine (iWay_ok n i j _ hn hi hj).mono ?_; rintro w h' ⟨c, rfl, hnw⟩; conv => whnf)
    | refine AW.seq ?_
    | (refine AW.region ?_; conv => whnf)
    | (refine AW.skip ?_; conv => whnf)
    | (refine AW.ret ?_; conv => whnf)
    | refine AW.cond (by rfl) ?_
    | (refine Br.ff ?_; conv => whnf)
    | (refine Wr.i64 (by omega) ?_; conv => whnf))
  exact ⟨rfl, hnw.keeps⟩
theorem iDistNo_ok (a b : List UInt8) (h0 : H) (no : ¬ fitW a b) : AC env 30 [.str a, .str b] h0 fun w h' => w = .int .i64 (-1) ∧ Keeps h0 h' := by
  have hs := St.refl h0
  refine AC.enter Tryz.func30 Tryz.call30 rfl Tryz.ntmps30 (of_decide_eq_true (by rfl)) ?_
  repeat' (first
    | (refine (iWayNo_ok a b _ no).mono ?_; rintro w h' ⟨c, rfl, hnw⟩; conv => whnf)
    | refine AW.seq ?_
    | (refine AW.region ?_; conv => whnf)
    | (refine AW.ret ?_; conv => whnf)
    | refine AW.cond (by rfl) ?_
    | (refine Br.tt ?_; conv => whnf))
  exact ⟨rfl, hnw.keeps⟩

end Go.Proofs.YtbicfognbbeigaaGreat
