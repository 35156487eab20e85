/-
  The reference's list of trees and its greatest distance have their contracts proved.
  They hold for trees of at most four nodes, and numbers from minus one to five.
-/
import Derived.Test.YtbicfognbbeigaaGreatC111
import Derived.Test.YtbicfognbbeigaaGreatH34
import Derived.Test.YtbicfognbbeigaaGreatH37
set_option linter.unusedVariables false
set_option linter.unusedSimpArgs false
namespace Go.Proofs.YtbicfognbbeigaaGreat
open Go.Proofs.YtbicfognbbeigaaGreat.Ab Go.Proofs.YtbicfognbbeigaaGreat.Pl

def binTr (n k : Nat) : Bool := match binF 20 ((dyP n).getD k []) with
  | some t => eqB t (tr n k) && decide (((dyP n).getD k []).length ≤ 20)
  | none => false
set_option maxRecDepth 100000 in
theorem binTr_fine : (List.range 6).all (fun n => (List.range (caT n)).all (binTr n)) = true := by decide +kernel
theorem bin_tr {n k : Nat} (hn : n ≤ 5) (hk : k < (trs n).length) : binF 20 ((dyP n).getD k []) = some (tr n k) ∧ ((dyP n).getD k []).length ≤ 20 := by
  rw [trs_ca hn] at hk
  have c := List.all_eq_true.1 (List.all_eq_true.1 binTr_fine n (List.mem_range.2 (by omega))) k (List.mem_range.2 hk)
  unfold binTr at c
  cases e : binF 20 ((dyP n).getD k []) with
  | none => rw [e] at c; cases c
  | some t =>
    rw [e] at c
    dsimp only at c
    rw [Bool.and_eq_true, decide_eq_true_iff] at c
    exact ⟨by rw [eqB_eq c.1], c.2⟩
theorem dyP_trs {n : Nat} (hn : n ≤ 5) : (dyP n).length = (trs n).length := by
  have c := List.all_eq_true.1 trs_fine n (List.mem_range.2 (by omega))
  rw [Bool.and_eq_true, Bool.and_eq_true, beq_iff_eq, beq_iff_eq] at c
  exact c.2.2.symm
theorem txts_take {T : List BT} {k : Nat} (h : k < T.length) : txts (T.take (k + 1)) = txts (T.take k) ++ [(T.getD k .leaf).txt] := by
  rw [List.take_succ_eq_append_getElem h, txts_append]
  simp only [List.getD, List.getElem?_eq_getElem h, Option.getD_some]
  rfl
theorem txts_get {T : List BT} {k : Nat} {i : Int} (e : i = k) (h : k < T.length) : (strs (txts T))[i.toNat]? = some (.str (T.getD k .leaf).txt) := by
  subst e
  rw [Int.toNat_natCast]
  unfold strs txts
  rw [List.getElem?_map, List.getElem?_map, List.getElem?_eq_getElem h]
  simp only [Option.map_some, List.getD, List.getElem?_eq_getElem h, Option.getD_some]
theorem trs_cap {n : Nat} (hn : n ≤ 5) : (trs n).length ≤ 42 := trs_le hn

set_option maxHeartbeats 1000000 in
theorem sTrees_ok (n : Nat) (h0 : H) (hn : n ≤ 5) : AC env 86 [.int .i64 (n : Int)] h0 fun w h' => ∃ b, w = .slice b 0 (trs n).length (trs n).length ∧ New h0 h' b (strs (txts (trs n))) := by
  have hs := St.refl h0
  have e0 : dyAll (2 * (n : Int).toNat + 1) [] n n = dyP n := rfl
  have lX := dyP_trs hn
  have c42 := trs_le hn
  have hX : ∀ k, k < (trs n).length → binF 20 ((dyP n).getD k []) = some ((trs n).getD k .leaf) ∧ ((dyP n).getD k []).length ≤ 20 ∧ ((trs n).getD k .leaf).size ≤ 5 := fun k hk => ⟨(bin_tr hn hk).1, (bin_tr hn hk).2, by have := (nb_ok hn hk).size; unfold tr at this; omega⟩
  generalize dyP n = X at e0 lX hX
  generalize trs n = T at lX c42 hX ⊢
  refine AC.enter Tryz.func86 Tryz.call86 rfl Tryz.ntmps86 (of_decide_eq_true (by rfl)) ?_
  repeat' (first
    | (refine NewG.st hs (fun bo h' hsA => ?_); conv => whnf)
    | (refine (sPathsOf_ok _ _ (by omega)).mono ?_; rw [e0]; rintro v h' ⟨bs, rfl, hnp⟩; have hsB := St.newCall hsA hnp; clear hnp; conv => whnf)
    | refine AW.seq ?_
    | (refine AW.region ?_; conv => whnf)
    | refine AW.block ?_)
  refine AW.loop3 (fun (k bo N : Nat) => [(3, .slice bo 0 N N), (4, .slice bs 0 X.length X.length), (5, .int .i64 (k : Int))]) (fun k bo N h' => (k ≤ T.length ∧ N = k) ∧ St h0 h' [(bo, row (strs (txts (T.take k)))), (bs, row (strs X))]) (fun k _ _ => T.length - k) 0 bo 0
    (Less.cons rfl (Less.cons rfl (Less.cons rfl (Less.nil _)))) ⟨⟨by omega, rfl⟩, hsB.perm (.swap _ _ _)⟩ ?_
  rintro k bo N h1 ⟨⟨hk, hN⟩, hs1⟩
  clear hs hsA hsB
  have tl : (txts (T.take k)).length = k := by rw [txts_length, List.length_take]; omega
  by_cases hlt : k < T.length
  · obtain ⟨b1, b2, b3⟩ := hX k hlt
    have e2 := txts_take hlt
    repeat' (first
      | (refine Has.loadAt (v := .str (X.getD k [])) (St.has hs1 (.tail _ (.head _))) rfl (strs_getI rfl (by omega)) ?_; conv => whnf)
      | (refine (l6Binary_ok 20 _ (T.getD k .leaf) _ b1 (by omega) (by omega)).mono ?_; rintro v h' ⟨rfl, e'⟩; subst h'; conv => whnf)
      | (refine NewG.st hs1 (fun bq h' hs2 => ?_); conv => whnf)
      | (refine LoadsG.has (St.has hs2 (.head _)) (by simp) ?_; conv => whnf)
      | (refine AppG.stS (l := txts (T.take k)) (y := (T.getD k .leaf).txt) hs2 (fun b' => .there .here) (by omega) (by omega) (by decide) (fun bo' h' hs3 => ?_); have hs4 := hs3.tail; conv => whnf)
      | refine AW.seq ?_
      | (refine AW.region ?_; conv => whnf)
      | refine AW.block ?_
      | (refine AW.skip ?_; conv => whnf)
      | refine AW.cond (by rfl) ?_
      | (refine Br.dt (by omega) ?_; conv => whnf)
      | (refine Wr.i64 (by omega) ?_; conv => whnf)
      | (refine Ck.mk (by omega) ?_; conv => whnf))
    exact ⟨k + 1, bo', N + 1, (Less.cons rfl (Less.cons rfl (Less.cons rfl (Less.nil _)))), ⟨⟨by omega, by omega⟩, by rw [e2]; exact hs4⟩, by omega⟩
  · obtain rfl : k = T.length := by omega
    rw [List.take_length] at hs1
    repeat' (first
      | refine AW.seq ?_
      | (refine AW.region ?_; conv => whnf)
      | (refine AW.ret ?_; conv => whnf)
      | (refine AW.exit ?_; conv => whnf)
      | refine AW.cond (by rfl) ?_
      | (refine Br.df (by omega) ?_; conv => whnf))
    exact ⟨bo, by rw [hN], hs1.toNew⟩

/-! greatest distances -/
def dd (n i j : Nat) : Int := ((wayI n i j).length : Int) - 1
def dRow (n i : Nat) (x : Int) : Nat → Int
  | 0 => x
  | m + 1 => max (dRow n i x m) (dd n i m)
def dHalf (n : Nat) : Nat → Int
  | 0 => 0
  | m + 1 => dRow n m (dHalf n m) m
def dAll (n c : Nat) : Nat → Int
  | 0 => 0
  | m + 1 => dRow n m (dAll n c m) c
set_option maxRecDepth 100000 in
theorem dia_fine : (List.range 5).all (fun n => decide (dHalf n (caT n) = (diT n : Nat)) && decide (dAll n (caT n) (caT n) = (diT n : Nat))) = true := by decide +kernel
theorem dia_ok {n : Nat} (hn : n ≤ 4) : dHalf n (trs n).length = (diT n : Nat) ∧ dAll n (trs n).length (trs n).length = (diT n : Nat) := by
  rw [trs_ca (by omega)]
  have c := List.all_eq_true.1 dia_fine n (List.mem_range.2 (by omega))
  rw [Bool.and_eq_true, decide_eq_true_iff, decide_eq_true_iff] at c
  exact c
def diaF (n : Int) : Int := if 0 ≤ n ∧ n ≤ 4 then (diT n.toNat : Nat) else -1
theorem diaF_in {n : Nat} (hn : n ≤ 4) : diaF n = (diT n : Nat) := by
  unfold diaF
  rw [if_pos (by omega), Int.toNat_natCast]
theorem diaF_out {n : Int} (hn : ¬ (0 ≤ n ∧ n ≤ 4)) : diaF n = -1 := if_neg hn

set_option maxHeartbeats 1000000 in
theorem sDiam_ok (m : Int) (h0 : H) (hm : -1 ≤ m ∧ m ≤ 5) : AC env 42 [.int .i64 m] h0 fun w h' => w = .int .i64 (diaF m) ∧ Keeps h0 h' := by
  by_cases hin : 0 ≤ m ∧ m ≤ 4
  · obtain ⟨n, rfl⟩ := Int.eq_ofNat_of_zero_le hin.1
    have hn : n ≤ 4 := by omega
    have dz := (dia_ok hn).1
    have ez := diaF_in hn
    have dl : ∀ i j, i < (trs n).length → j < (trs n).length → (wayI n i j).length ≤ 1000 := fun i j hi hj => by have := (dis_ok (by omega) hi hj).len; omega
    have hT : ∀ k, (trs n).getD k .leaf = tr n k := fun k => rfl
    have rd : ∀ (i j : Nat) (h0 : H), i < (trs n).length → j < (trs n).length → AC env 32 [.str ((trs n).getD i .leaf).txt, .str ((trs n).getD j .leaf).txt] h0 fun w h' => w = .int .i64 (dd n i j) ∧ Keeps h0 h' := fun i j h0 hi hj => sDist_ok n i j h0 (by omega) hi hj (dl i j hi hj)
    have st := fun h0 => sTrees_ok n h0 (by omega)
    have c42 := trs_le (show n ≤ 5 by omega)
    generalize trs n = T at dz dl hT rd st c42
    refine AC.enter Tryz.func42 Tryz.call42 rfl Tryz.ntmps42 (of_decide_eq_true (by rfl)) ?_
    repeat' (first
      | (refine (st _).mono ?_; rintro w h1 ⟨bl, rfl, hn1⟩; have hs1 := hn1.st; conv => whnf)
      | refine AW.seq ?_
      | (refine AW.region ?_; conv => whnf)
      | refine AW.block ?_
      | (refine AW.skip ?_; conv => whnf)
      | refine AW.cond (by rfl) ?_
      | (refine (l1In_ok _ _ _ _).mono ?_; rintro v h' ⟨rfl, e'⟩; subst h'; conv => whnf)
      | refine Br.not ?_
      | (refine Br.dt (by omega) ?_; conv => whnf))
    refine AW.loop1 (fun (i : Nat) => [(3, .slice bl 0 T.length T.length), (4, .int .i64 (dHalf n i)), (5, .int .i64 (i : Int))]) (fun i h' => i ≤ T.length ∧ St h0 h' [(bl, row (strs (txts T)))]) (fun i => T.length - i) 0
      (Less.cons rfl (Less.cons rfl (Less.cons rfl (Less.nil _)))) ⟨by omega, hs1⟩ ?_
    rintro i h2 ⟨hi, hs2⟩
    clear hs1 hn1
    by_cases hlt : i < T.length
    · repeat' (first
        | refine AW.seq ?_
        | (refine AW.region ?_; conv => whnf)
        | refine AW.block ?_
        | (refine AW.skip ?_; conv => whnf)
        | refine AW.cond (by rfl) ?_
        | (refine Br.dt (by omega) ?_; conv => whnf))
      refine AW.loop1 (fun (k : Nat) => [(3, .slice bl 0 T.length T.length), (4, .int .i64 (dRow n i (dHalf n i) k)), (5, .int .i64 (i : Int)), (6, .int .i64 (k : Int))]) (fun k h' => k ≤ i ∧ St h0 h' [(bl, row (strs (txts T)))]) (fun k => i - k) 0
        (Less.cons rfl (Less.cons rfl (Less.cons rfl (Less.cons rfl (Less.nil _))))) ⟨by omega, hs2⟩ ?_
      rintro k h3 ⟨hk, hs3⟩
      clear hs2
      by_cases hlt2 : k < i
      · repeat' (first
          | (refine Has.loadAt (v := .str (T.getD i .leaf).txt) (St.has hs3 (.head _)) rfl (txts_get rfl (by omega)) ?_; conv => whnf)
          | (refine Has.loadAt (v := .str (T.getD k .leaf).txt) (St.has hs3 (.head _)) rfl (txts_get rfl (by omega)) ?_; conv => whnf)
          | (refine (rd i k _ (by omega) (by omega)).mono ?_; rintro w h' ⟨rfl, k4⟩; have hs4 := hs3.keep k4; conv => whnf)
          | refine AW.seq ?_
          | (refine AW.region ?_; conv => whnf)
          | refine AW.block ?_
          | (refine AW.skip ?_; conv => whnf)
          | refine AW.cond (by rfl) ?_
          | (refine AW.draw (id := 11) (.p 0 (.p 1 (.p 2 (.p 3 (.p 5 (.p 6 (.p 7 (.r 4 [9, 10, 11] (.r 8 [9, 10, 11] (.all [9] fun _ => (.p 10 (.p 11 .done)))))))))))) (by kernel_rfl) (by kernel_rfl) ?_; conv => whnf)
          | (refine Br.dt (by omega) ?_; conv => whnf)
          | (refine Wr.i64 (by omega) ?_; conv => whnf)
          | (refine Ck.mk (by omega) ?_; conv => whnf))
        all_goals exact ⟨k + 1, (Less.cons rfl (Less.cons rfl (Less.cons rfl (Less.cons rfl (Less.nil _))))), ⟨by omega, hs4⟩, by omega⟩
      · obtain rfl : k = i := by omega
        repeat' (first
          | refine AW.seq ?_
          | (refine AW.region ?_; conv => whnf)
          | (refine AW.exit ?_; conv => whnf)
          | refine AW.cond (by rfl) ?_
          | (refine Br.df (by omega) ?_; conv => whnf)
          | (refine Wr.i64 (by omega) ?_; conv => whnf))
        exact ⟨k + 1, (Less.cons rfl (Less.cons rfl (Less.cons rfl (Less.nil _)))), ⟨by omega, hs3⟩, by omega⟩
    · obtain rfl : i = T.length := by omega
      repeat' (first
        | refine AW.seq ?_
        | (refine AW.region ?_; conv => whnf)
        | (refine AW.ret ?_; conv => whnf)
        | (refine AW.exit ?_; conv => whnf)
        | refine AW.cond (by rfl) ?_
        | (refine Br.df (by omega) ?_; conv => whnf))
      exact ⟨by rw [ez, dz], hs2.keeps⟩
  · have ez := diaF_out hin
    refine AC.enter Tryz.func42 Tryz.call42 rfl Tryz.ntmps42 (of_decide_eq_true (by rfl)) ?_
    repeat' (first
      | refine AW.seq ?_
      | (refine AW.region ?_; conv => whnf)
      | (refine AW.ret ?_; conv => whnf)
      | refine AW.cond (by rfl) ?_
      | (refine (l1In_ok _ _ _ _).mono ?_; rintro v h' ⟨rfl, e'⟩; subst h'; conv => whnf)
      | refine Br.not ?_
      | (refine Br.df (by omega) ?_; conv => whnf))
    all_goals exact ⟨by rw [ez], Keeps.refl _⟩

end Go.Proofs.YtbicfognbbeigaaGreat
