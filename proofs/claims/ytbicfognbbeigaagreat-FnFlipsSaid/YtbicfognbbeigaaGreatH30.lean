/-
  Contracts of the reference's ways of rotations and of distances are proved.
  They hold for all texts.
-/
import Derived.Test.YtbicfognbbeigaaGreatH29
import Derived.Test.YtbicfognbbeigaaGreatH4
import Derived.WideKeyMaps
import Derived.MapKept
set_option linter.unusedVariables false
set_option linter.unusedSimpArgs false
namespace Go.Proofs.YtbicfognbbeigaaGreat
open Go.Proofs.YtbicfognbbeigaaGreat.Ab Go.Proofs.YtbicfognbbeigaaGreat.Pl

theorem goalP_at {S : List Nat} {b i : Nat} (hi : i < S.length) (h : S.getD i 0 = b) (no : ∀ j, j < i → S.getD j 0 ≠ b) : goalP S b = i := by
  unfold goalP
  refine (List.findIdx_eq hi).2 ⟨?_, fun j hj => ?_⟩
  · have e : S.getD i 0 = S[i] := by simp only [List.getD, List.getElem?_eq_getElem hi, Option.getD_some]
    rw [← e, h]
    exact beq_self_eq_true b
  · have hj2 : j < S.length := by omega
    have e : S.getD j 0 = S[j] := by simp only [List.getD, List.getElem?_eq_getElem hj2, Option.getD_some]
    have := no j hj
    rw [e] at this
    exact beq_eq_false_iff_ne.2 this
theorem goalP_lt {S : List Nat} {b : Nat} (h : b ∈ S) : goalP S b < S.length ∧ S.getD (goalP S b) 0 = b := by
  have lt : goalP S b < S.length := List.findIdx_lt_length_of_exists ⟨b, h, beq_self_eq_true b⟩
  refine ⟨lt, ?_⟩
  have e : S.getD (goalP S b) 0 = S[goalP S b] := by simp only [List.getD, List.getElem?_eq_getElem lt, Option.getD_some]
  rw [e]
  exact beq_iff_eq.1 (List.findIdx_getElem (p := fun x => x == b) (w := lt))
/-- what is left of a way, from a place on backwards -/
def restW (fr : List Int) (f : Nat) (k : Int) : List Nat := if k < 0 then [] else back fr f k.toNat
theorem restW_step {fr : List Int} {f k : Nat} : restW fr (f + 1) (k : Int) = k :: restW fr f (fr.getD k 0) := by
  unfold restW
  rw [if_neg (by omega)]
  rfl
/-- both texts are trees of the same size, at most five -/
def fitW (a b : List UInt8) : Prop := ∃ n i j, n ≤ 5 ∧ i < (trs n).length ∧ j < (trs n).length ∧ a = (tr n i).txt ∧ b = (tr n j).txt
theorem fitW_of {a b : List UInt8} {t u : BT} (ha : treeOf a = some t) (hb : treeOf b = some u) (hz : t.size = u.size) (h5 : t.size ≤ 5) : fitW a b := by
  obtain ⟨i, hi, e1⟩ := tr_at h5 rfl
  obtain ⟨j, hj, e2⟩ := tr_at h5 hz.symm
  exact ⟨t.size, i, j, h5, hi, hj, by rw [(treeOf_some ha).1, ← e1], by rw [(treeOf_some hb).1, ← e2]⟩
theorem tree_tr {n i : Nat} (hn : n ≤ 5) (hi : i < (trs n).length) : treeOf (tr n i).txt = some (tr n i) := treeOf_txt (by rw [(nb_ok hn hi).size]; omega)

theorem sFit_ok (a b : List UInt8) (h0 : H) : AC env 74 [.str a, .str b] h0 fun w h' => w = .bool ((treeOf a).isSome && ((treeOf b).isSome && decide ((a.length : Int) = b.length))) ∧ h' = h0 := by
  cases ha : treeOf a with
  | none =>
    refine AC.enter Tryz.func74 Tryz.call74 rfl Tryz.ntmps74 (of_decide_eq_true (by rfl)) ?_
    repeat' (first
      | (refine (sIsBinary_ok a _).mono ?_; rw [ha]; rintro v h' ⟨rfl, e'⟩; subst h'; conv => whnf)
      | refine AW.seq ?_
      | (refine AW.region ?_; conv => whnf)
      | (refine AW.ret ?_; conv => whnf)
      | (refine Br.ff ?_; conv => whnf))
    exact ⟨rfl, rfl⟩
  | some t =>
    cases hb : treeOf b with
    | none =>
      refine AC.enter Tryz.func74 Tryz.call74 rfl Tryz.ntmps74 (of_decide_eq_true (by rfl)) ?_
      repeat' (first
        | (refine (sIsBinary_ok a _).mono ?_; rw [ha]; rintro v h' ⟨rfl, e'⟩; subst h'; conv => whnf)
        | (refine (sIsBinary_ok b _).mono ?_; rw [hb]; rintro v h' ⟨rfl, e'⟩; subst h'; conv => whnf)
        | refine AW.seq ?_
        | (refine AW.region ?_; conv => whnf)
        | (refine AW.ret ?_; conv => whnf)
        | (refine Br.tt ?_; conv => whnf)
        | (refine Br.ff ?_; conv => whnf))
      exact ⟨rfl, rfl⟩
    | some u =>
      by_cases e : (a.length : Int) = b.length
      · rw [decide_eq_true e]
        refine AC.enter Tryz.func74 Tryz.call74 rfl Tryz.ntmps74 (of_decide_eq_true (by rfl)) ?_
        repeat' (first
          | (refine (sIsBinary_ok a _).mono ?_; rw [ha]; rintro v h' ⟨rfl, e'⟩; subst h'; conv => whnf)
          | (refine (sIsBinary_ok b _).mono ?_; rw [hb]; rintro v h' ⟨rfl, e'⟩; subst h'; conv => whnf)
          | refine AW.seq ?_
          | (refine AW.region ?_; conv => whnf)
          | (refine AW.ret ?_; conv => whnf)
          | (refine Br.tt ?_; conv => whnf))
        exact ⟨by rw [beq_iff_eq.2 e]; rfl, rfl⟩
      · rw [decide_eq_false e]
        refine AC.enter Tryz.func74 Tryz.call74 rfl Tryz.ntmps74 (of_decide_eq_true (by rfl)) ?_
        repeat' (first
          | (refine (sIsBinary_ok a _).mono ?_; rw [ha]; rintro v h' ⟨rfl, e'⟩; subst h'; conv => whnf)
          | (refine (sIsBinary_ok b _).mono ?_; rw [hb]; rintro v h' ⟨rfl, e'⟩; subst h'; conv => whnf)
          | refine AW.seq ?_
          | (refine AW.region ?_; conv => whnf)
          | (refine AW.ret ?_; conv => whnf)
          | (refine Br.tt ?_; conv => whnf))
        exact ⟨by rw [beq_eq_false_iff_ne.2 e]; rfl, rfl⟩

theorem sWayNo_ok (a b : List UInt8) (h0 : H) (no : ¬ fitW a b) : AC env 29 [.str a, .str b] h0 fun w h' => ∃ c, w = .tup [.slice c 0 0 0, .bool false] ∧ New h0 h' c (strs []) := by
  have hs := St.refl h0
  cases ha : treeOf a with
  | none =>
    refine AC.enter Tryz.func29 Tryz.call29 rfl Tryz.ntmps29 (of_decide_eq_true (by rfl)) ?_
    repeat' (first
      | (refine (sFit_ok a b _).mono ?_; rw [ha]; dsimp only [Option.isSome, Bool.false_and]; rintro v h' ⟨rfl, e'⟩; subst h'; conv => whnf)
      | refine AW.seq ?_
      | (refine AW.region ?_; conv => whnf)
      | (refine AW.ret ?_; conv => whnf)
      | refine AW.cond (by rfl) ?_
      | (refine Br.tt ?_; conv => whnf)
      | (refine NewG.st (by assumption) (fun bt h' hs' => ?_); conv => whnf))
    exact ⟨_, rfl, hs'.toNew⟩
  | some t =>
    cases hb : treeOf b with
    | none =>
      refine AC.enter Tryz.func29 Tryz.call29 rfl Tryz.ntmps29 (of_decide_eq_true (by rfl)) ?_
      repeat' (first
        | (refine (sFit_ok a b _).mono ?_; rw [ha, hb]; dsimp only [Option.isSome, Bool.false_and, Bool.true_and]; rintro v h' ⟨rfl, e'⟩; subst h'; conv => whnf)
        | refine AW.seq ?_
        | (refine AW.region ?_; conv => whnf)
        | (refine AW.ret ?_; conv => whnf)
        | refine AW.cond (by rfl) ?_
        | (refine Br.tt ?_; conv => whnf)
        | (refine NewG.st (by assumption) (fun bt h' hs' => ?_); conv => whnf))
      exact ⟨_, rfl, hs'.toNew⟩
    | some u =>
      have la := t.txt_length
      have lb := u.txt_length
      obtain ⟨ea, za⟩ := treeOf_some ha
      obtain ⟨eb, zb⟩ := treeOf_some hb
      have ga : a.length = t.txt.length := by rw [← ea]
      have gb : b.length = u.txt.length := by rw [← eb]
      have nz : sizeO (some t) = t.size := rfl
      by_cases e : (a.length : Int) = b.length
      · have big : ¬ t.size ≤ 5 := fun h => no (fitW_of ha hb (by omega) h)
        refine AC.enter Tryz.func29 Tryz.call29 rfl Tryz.ntmps29 (of_decide_eq_true (by rfl)) ?_
        repeat' (first
          | (refine (sFit_ok a b _).mono ?_; rw [ha, hb, decide_eq_true e]; dsimp only [Option.isSome, Bool.true_and]; rintro v h' ⟨rfl, e'⟩; subst h'; conv => whnf)
          | (refine (sNodesOf_ok a _).mono ?_; rw [ha, nz]; rintro w h' ⟨rfl, e'⟩; subst h'; conv => whnf)
          | refine AW.seq ?_
          | (refine AW.region ?_; conv => whnf)
          | (refine AW.ret ?_; conv => whnf)
          | refine AW.cond (by rfl) ?_
          | (refine Br.ff ?_; conv => whnf)
          | (refine Br.dt (by omega) ?_; conv => whnf)
          | (refine NewG.st (by assumption) (fun bt h' hs' => ?_); conv => whnf))
        exact ⟨_, rfl, hs'.toNew⟩
      · refine AC.enter Tryz.func29 Tryz.call29 rfl Tryz.ntmps29 (of_decide_eq_true (by rfl)) ?_
        repeat' (first
          | (refine (sFit_ok a b _).mono ?_; rw [ha, hb, decide_eq_false e]; dsimp only [Option.isSome, Bool.true_and]; rintro v h' ⟨rfl, e'⟩; subst h'; conv => whnf)
          | refine AW.seq ?_
          | (refine AW.region ?_; conv => whnf)
          | (refine AW.ret ?_; conv => whnf)
          | refine AW.cond (by rfl) ?_
          | (refine Br.tt ?_; conv => whnf)
          | (refine NewG.st (by assumption) (fun bt h' hs' => ?_); conv => whnf))
        exact ⟨_, rfl, hs'.toNew⟩
set_option maxHeartbeats 4000000 in
theorem sWay_ok (n i j : Nat) (h0 : H) (hn : n ≤ 5) (hi : i < (trs n).length) (hj : j < (trs n).length) : AC env 29 [.str (tr n i).txt, .str (tr n j).txt] h0 fun w h' => ∃ c, w = .tup [.slice c 0 (wayI n i j).length (wayI n i j).length, .bool true] ∧ New h0 h' c (strs (txI n (wayI n i j))) := by
  have hs := St.refl h0
  have ta := tree_tr hn hi
  have tb := tree_tr hn hj
  have za := (nb_ok hn hi).size
  have zb := (nb_ok hn hj).size
  have la := (tr n i).txt_length
  have lb := (tr n j).txt_length
  have nz : sizeO (some (tr n i)) = (tr n i).size := rfl
  have e : (((tr n i).txt.length : Nat) : Int) = (tr n j).txt.length := by omega
  have bk := bfs_ok hn hi
  have c42 := trs_le hn
  have sk := bfs_S hn hi _ (Nat.le_refl _)
  have ew : wayI n i j = ((restW (bfs n i (trs n).length).2 50 (goalP (bfs n i (trs n).length).1 j : Nat)).map fun j => (bfs n i (trs n).length).1.getD j 0).reverse := by
    unfold wayI restW
    rw [if_neg (by omega)]
    rfl
  obtain ⟨S, hS⟩ : ∃ S, S = (bfs n i (trs n).length).1 := ⟨_, rfl⟩
  obtain ⟨F, hF⟩ : ∃ F, F = (bfs n i (trs n).length).2 := ⟨_, rfl⟩
  have bAll := bk.all
  have bHas := bk.has j hj
  have bDown := bk.down
  have sm := sk.mem
  have sl := sk.len
  rw [← hS, ← hF] at ew
  rw [← hS] at bAll bHas sm sl
  rw [← hF] at bDown sl
  obtain ⟨g1, g2⟩ := goalP_lt bHas
  have se := fun h0 => sSearch_ok n i h0 hn hi
  rw [← hS, ← hF] at se
  obtain ⟨W, hW⟩ : ∃ W, W = wayI n i j := ⟨_, rfl⟩
  rw [← hW] at ew ⊢
  refine AC.enter Tryz.func29 Tryz.call29 rfl Tryz.ntmps29 (of_decide_eq_true (by rfl)) ?_
  repeat' (first
    | (refine (sFit_ok _ _ _).mono ?_; rw [ta, tb, decide_eq_true e]; dsimp only [Option.isSome, Bool.true_and]; rintro v h' ⟨rfl, e'⟩; subst h'; conv => whnf)
    | (refine (sNodesOf_ok _ _).mono ?_; rw [ta, nz]; rintro w h' ⟨rfl, e'⟩; subst h'; conv => whnf)
    | (refine (se _).mono ?_; rintro w h1 ⟨bs, bf, rfl, hs1⟩; conv => whnf)
    | refine AW.seq ?_
    | (refine AW.region ?_; conv => whnf)
    | refine AW.block ?_
    | (refine AW.skip ?_; conv => whnf)
    | refine AW.cond (by rfl) ?_
    | (refine Br.ff ?_; conv => whnf)
    | (refine Br.df (by omega) ?_; conv => whnf))
  clear hs se
  refine AW.loop1 (fun (k : Nat) => [(1, .str (tr n j).txt), (6, .slice bs 0 (trs n).length (trs n).length), (7, .slice bf 0 (trs n).length (trs n).length), (8, .int .i64 (k : Int))]) (fun k h' => (k ≤ goalP S j ∧ ∀ q, q < k → S.getD q 0 ≠ j) ∧ St h0 h' [(bs, row (strs (txI n S))), (bf, row (ints F))]) (fun k => (trs n).length - k) 0
    (Less.cons rfl (Less.cons rfl (Less.cons rfl (Less.cons rfl (Less.nil _))))) ⟨⟨by omega, fun q hq => by omega⟩, hs1⟩ ?_
  clear hs1
  rintro k h2 ⟨⟨hk, hno⟩, hs2⟩
  have kC : k < S.length := by omega
  have xC := sm.get kC
  by_cases hit : S.getD k 0 = j
  · have gk : goalP S j = k := goalP_at kC hit hno
    have heq : ((tr n (S.getD k 0)).txt == (tr n j).txt) = true := by rw [hit]; exact beq_self_eq_true _
    repeat' (first
      | (refine Has.loadAt (v := .str (tr n (S.getD k 0)).txt) (St.has hs2 (.head _)) rfl (txI_get kC) ?_; conv => whnf)
      | (refine Br.t heq ?_; conv => whnf)
      | (refine NewG.st hs2 (fun bo h' hs3 => ?_); conv => whnf)
      | refine AW.seq ?_
      | (refine AW.region ?_; conv => whnf)
      | refine AW.block ?_
      | (refine AW.skip ?_; conv => whnf)
      | refine AW.cond (by rfl) ?_
      | refine Br.not ?_
      | (refine Br.dt (by omega) ?_; conv => whnf)
      | (refine Ck.mk (by omega) ?_; conv => whnf))
    rw [gk] at ew
    clear hs2
    refine AW.loop4 (fun (k : Int) (f : Nat) (out : List Nat) (bo : Nat) => [(6, .slice bs 0 (trs n).length (trs n).length), (7, .slice bf 0 (trs n).length (trs n).length), (9, .slice bo 0 out.length out.length), (10, .int .i64 k)]) (fun k f out bo h' => (-1 ≤ k ∧ k < (trs n).length ∧ k < f ∧ f ≤ 50 ∧ out.length + f ≤ 50 ∧ W = ((restW F f k).map fun j => S.getD j 0).reverse ++ out) ∧ St h0 h' [(bo, row (strs (txI n out))), (bs, row (strs (txI n S))), (bf, row (ints F))]) (fun k _ _ _ => (k + 1).toNat) k 50 [] bo
      (Less.cons rfl (Less.cons rfl (Less.cons rfl (Less.cons rfl (Less.nil _))))) ⟨⟨by omega, by omega, by omega, by omega, by simp, by rw [ew, List.append_nil]⟩, hs3⟩ ?_
    clear hs3
    rintro q f out bo h4 ⟨⟨q1, q2, q3, q4, q5, q6⟩, hs4⟩
    by_cases hq : 0 ≤ q
    · obtain ⟨q, rfl⟩ := Int.eq_ofNat_of_zero_le hq
      obtain ⟨f, rfl⟩ : ∃ m, f = m + 1 := ⟨f - 1, by omega⟩
      have qC : q < S.length := by omega
      have dn := bDown q (by omega)
      have dn2 : F.getD ((q : Nat) : Int).toNat 0 < q ∧ -1 ≤ F.getD ((q : Nat) : Int).toNat 0 := dn
      rw [restW_step, List.map_cons, List.reverse_cons, List.append_assoc] at q6
      have t1 : txI n ([S.getD q 0] ++ out) = [(tr n (S.getD q 0)).txt] ++ txI n out := txI_append n _ _
      repeat' (first
        | (refine Has.loadAt (v := .str (tr n (S.getD q 0)).txt) (St.has (by assumption) (.tail _ (.head _))) rfl (txI_get qC) ?_; conv => whnf)
        | (refine NewG.st hs4 (fun bq h' hs5 => ?_); conv => whnf)
        | (refine LoadsG.has (St.has hs5 (.tail _ (.head _))) (by simp) ?_; conv => whnf)
        | (refine AppG.stSs (l := [(tr n (S.getD q 0)).txt]) (r := txI n out) hs5 (fun b' => .here) rfl (by simp; omega) (by decide) (fun bo' h' hs6 => ?_); have hs7 := hs6.sub (.cons_cons _ (List.sublist_cons_self _ _)); conv => whnf)
        | (refine Has.loadZ (St.has hs7 (.tail _ (.tail _ (.head _)))) rfl (by omega) ?_; conv => whnf)
        | refine AW.seq ?_
        | (refine AW.region ?_; conv => whnf)
        | refine AW.block ?_
        | (refine AW.skip ?_; conv => whnf)
        | refine AW.cond (by rfl) ?_
        | (refine Br.tt ?_; conv => whnf)
        | (refine Ck.mk (by omega) ?_; conv => whnf))
      refine ⟨F.getD q 0, f, [S.getD q 0] ++ out, bo', ?_, ⟨⟨by omega, by omega, by omega, by omega, by simp only [List.length_append, List.length_cons, List.length_nil]; omega, q6⟩, by rw [t1]; exact hs7⟩, by omega⟩
      simp only [List.length_append, List.length_cons, List.length_nil]
      rw [show 0 + 1 + out.length = 1 + out.length by omega]
      exact (Less.cons rfl (Less.cons rfl (Less.cons rfl (Less.cons rfl (Less.nil _)))))
    · have e0 : restW F f q = [] := if_pos (by omega)
      rw [e0] at q6
      have q6 : W = out := q6
      subst q6
      repeat' (first
        | refine AW.seq ?_
        | (refine AW.region ?_; conv => whnf)
        | (refine AW.ret ?_; conv => whnf)
        | (refine AW.exit ?_; conv => whnf)
        | refine AW.cond (by rfl) ?_
        | (refine Br.df (by omega) ?_; conv => whnf))
      exact ⟨bo, rfl, hs4.toNew⟩
  · have hlt : k < goalP S j := by
      have : k ≠ goalP S j := fun e => hit (by rw [e]; exact g2)
      omega
    have hne : ((tr n (S.getD k 0)).txt == (tr n j).txt) = false := beq_eq_false_iff_ne.2 fun h => hit ((tr_txt hn xC hj).1 h)
    repeat' (first
      | (refine Has.loadAt (v := .str (tr n (S.getD k 0)).txt) (St.has hs2 (.head _)) rfl (txI_get kC) ?_; conv => whnf)
      | (refine Br.f hne ?_; conv => whnf)
      | refine AW.seq ?_
      | (refine AW.region ?_; conv => whnf)
      | refine AW.block ?_
      | (refine AW.skip ?_; conv => whnf)
      | (refine AW.exit ?_; conv => whnf)
      | refine AW.cond (by rfl) ?_
      | refine Br.not ?_
      | (refine Br.dt (by omega) ?_; conv => whnf)
      | (refine Wr.i64 (by omega) ?_; conv => whnf)
      | (refine Ck.mk (by omega) ?_; conv => whnf))
    refine ⟨k + 1, (Less.cons rfl (Less.cons rfl (Less.cons rfl (Less.cons rfl (Less.nil _))))), ⟨⟨by omega, fun q hq => ?_⟩, hs2⟩, by omega⟩
    by_cases c : q = k
    · rw [c]; exact hit
    · exact hno q (by omega)
theorem sDist_ok (n i j : Nat) (h0 : H) (hn : n ≤ 5) (hi : i < (trs n).length) (hj : j < (trs n).length) (hl : (wayI n i j).length ≤ 1000) : AC env 32 [.str (tr n i).txt, .str (tr n j).txt] h0 fun w h' => w = .int .i64 (((wayI n i j).length : Int) - 1) ∧ Keeps h0 h' := by
  have hs := St.refl h0
  refine AC.enter Tryz.func32 Tryz.call32 rfl Tryz.ntmps32 (of_decide_eq_true (by rfl)) ?_
  repeat' (first
    | (refine (sWay_ok n i j _ hn hi hj).mono ?_; rintro w h' ⟨c, rfl, hnw⟩; conv => whnf)
    | refine AW.seq ?_
    | (refine AW.region ?_; conv => whnf)
    | (refine AW.skip ?_; conv => whnf)
    | (refine AW.ret ?_; conv => whnf)
    | refine AW.cond (by rfl) ?_
    | (refine Br.ff ?_; conv => whnf)
    | (refine Wr.i64 (by omega) ?_; conv => whnf))
  exact ⟨rfl, hnw.keeps⟩
theorem sDistNo_ok (a b : List UInt8) (h0 : H) (no : ¬ fitW a b) : AC env 32 [.str a, .str b] h0 fun w h' => w = .int .i64 (-1) ∧ Keeps h0 h' := by
  have hs := St.refl h0
  refine AC.enter Tryz.func32 Tryz.call32 rfl Tryz.ntmps32 (of_decide_eq_true (by rfl)) ?_
  repeat' (first
    | (refine (sWayNo_ok a b _ no).mono ?_; rintro w h' ⟨c, rfl, hnw⟩; conv => whnf)
    | refine AW.seq ?_
    | (refine AW.region ?_; conv => whnf)
    | (refine AW.ret ?_; conv => whnf)
    | refine AW.cond (by rfl) ?_
    | (refine Br.tt ?_; conv => whnf))
  exact ⟨rfl, hnw.keeps⟩

end Go.Proofs.YtbicfognbbeigaaGreat

/-
  Texts as keys of maps obey the law of keys, and rows of texts are turned round in place.
  It holds for rows of at most a thousand texts.
-/
set_option linter.unusedVariables false
set_option linter.unusedSimpArgs false
namespace Go.Proofs.YtbicfognbbeigaaGreat
open Go.Proofs.YtbicfognbbeigaaGreat.Ab Go.Proofs.YtbicfognbbeigaaGreat.Pl

theorem strKey {P : Program} {k : TypeId} (hu : P.underlying k = some .string) {v : Value} {l : Lit} (h : Go.keyOf P k v = some l) : ∃ s : ByteArray, v = .string s ∧ l = .string s.data.toList := by
  have h : mapKey P k v = some l := by rw [← Go.keyOf_string hu]; exact h
  unfold mapKey at h
  rw [hu] at h
  cases v <;> simp at h
  exact ⟨_, rfl, h.2.symm⟩
theorem strLaw {P : Program} {k : TypeId} (hu : P.underlying k = some .string) : Go.WideMaps.KeyLaw P k where
  str h := by
    obtain ⟨s, _, e⟩ := strKey hu h
    exact ⟨_, e⟩
  inj ha hb := by
    obtain ⟨s, e1, e2⟩ := strKey hu ha
    obtain ⟨t, e3, e4⟩ := strKey hu hb
    rw [e2] at e4
    injection e4 with e4
    rw [e1, e3]
    congr 1
    apply ByteArray.ext
    exact Array.toList_inj.1 e4
  check w em v l h := by
    obtain ⟨s, e1, _⟩ := strKey hu h
    subst e1
    exact Go.MapKept.run_checkKey hu (d := .string) (by simp [Go.MapKept.IsKey]) em 9999
  find w x lx hx es hes := by
    obtain ⟨s, e1, _⟩ := strKey hu hx
    subst e1
    have hk : ∀ e ∈ es, Go.MapKept.IsKey .string e.key := fun e he => by
      obtain ⟨l, hl⟩ := hes e he
      obtain ⟨t, e3, _⟩ := strKey hu hl
      rw [e3]
      simp [Go.MapKept.IsKey]
    rcases Go.MapKept.findNow_spec (d := .string) (k := .string s) (by simp [Go.MapKept.IsKey]) es 0 hk with ⟨h1, h2⟩ | ⟨j, e, h1, h2, h3⟩
    · exact .inl ⟨Go.MapKept.run_findKey hu h1, h2⟩
    · rw [Nat.zero_add] at h1
      exact .inr ⟨j, e, Go.MapKept.run_findKey hu h1, h2, h3⟩
  stays w v l h := by
    obtain ⟨s, e1, _⟩ := strKey hu h
    subst e1
    exact Go.MapKept.run_keyThatStays (d := .string) (by simp [Go.MapKept.IsKey])
theorem strKOk {P : Program} {k : TypeId} (hu : P.underlying k = some .string) {s : List UInt8} (hs : s.length ≤ 1000000) : KOk P k (.str s) := by
  refine ⟨rfl, .string s, ?_⟩
  show Go.keyOf P k (.string ⟨s.toArray⟩) = _
  rw [Go.keyOf_string hu]
  unfold mapKey
  rw [hu]
  have : (⟨s.toArray⟩ : ByteArray).size ≤ maxLen := by
    show s.toArray.size ≤ maxLen
    unfold maxLen
    simp
    omega
  simp [this]
theorem strUnder : env.P.underlying 9 = some .string := by kernel_rfl

end Go.Proofs.YtbicfognbbeigaaGreat
