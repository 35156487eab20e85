/-
  The reference tells ways of rotations from other rows of texts.
  It holds for rows all of whose texts but the last are small trees.
-/
import Derived.Test.YtbicfognbbeigaaGreatH34
set_option linter.unusedVariables false
set_option linter.unusedSimpArgs false
namespace Go.Proofs.YtbicfognbbeigaaGreat
open Go.Proofs.YtbicfognbbeigaaGreat.Ab Go.Proofs.YtbicfognbbeigaaGreat.Pl

set_option maxHeartbeats 2000000 in
theorem sIsWay_ok (l : List (List UInt8)) (w : WayRow l) (b N C : Nat) (h0 : H) (hb : Has h0 b (strs l)) (hN : N = l.length) : AC env 41 [.slice b 0 N C] h0 fun v h' => v = .bool (isWayF l) ∧ Keeps h0 h' := by
  have w1 := w.len
  refine AC.enter Tryz.func41 Tryz.call41 rfl Tryz.ntmps41 (of_decide_eq_true (by rfl)) ?_
  repeat' (first
    | refine AW.seq ?_
    | (refine AW.region ?_; conv => whnf)
    | refine AW.block ?_)
  refine AW.loop1 (fun (k : Nat) => [(0, .slice b 0 N C), (3, .int .i64 (k : Int))]) (fun k h' => (k ≤ N ∧ (1 ≤ k → (treeOf (l.getD 0 [])).isSome = true) ∧ ∀ j, j + 1 < k → stepOk (l.getD j []) (l.getD (j + 1) []) = true) ∧ Keeps h0 h') (fun k => N - k) 0 (Less.cons rfl (Less.cons rfl (Less.nil _))) ⟨⟨by omega, fun h => by omega, fun j hj => by omega⟩, Keeps.refl _⟩ ?_
  rintro k h1 ⟨⟨hk, ht, he⟩, k2⟩
  have hs := St.refl h1
  have hb2 := hb.keep k2
  by_cases hlt : k < N
  · by_cases hz0 : k = 0
    · subst hz0
      cases hd : (treeOf (l.getD 0 [])).isSome with
      | false =>
        repeat' (first
          | (refine Has.loadAt (v := .str (l.getD 0 [])) hb2 rfl (strs_get (by omega)) ?_; conv => whnf)
          | (refine (sIsBinary_ok _ _).mono ?_; rw [hd]; rintro v h' ⟨rfl, e'⟩; subst h'; conv => whnf)
          | (refine And.intro ?_ ?_ <;> (conv => whnf))
          | refine AW.seq ?_
          | (refine AW.region ?_; conv => whnf)
          | refine AW.block ?_
          | (refine AW.skip ?_; conv => whnf)
          | (refine AW.ret ?_; conv => whnf)
          | refine AW.cond (by rfl) ?_
          | (refine AW.draw (id := 4) (.p 0 (.p 1 (.p 2 (.p 3 (.p 4 (.p 5 (.p 6 (.r 7 [8, 9, 10, 11, 12, 13, 14, 15, 16, 17, 18, 19, 20, 21, 22, 23, 24, 25, 26, 27, 28] (.all [8] fun _ => (.p 9 (.p 10 (.p 11 (.p 12 (.p 13 (.p 14 (.p 15 (.p 16 (.p 17 (.p 18 (.p 21 (.p 22 (.p 23 (.r 19 [20, 25, 26, 27, 28] (.all [20, 24] fun i => bif Nat.beq i 20 then (.r 24 [25, 26, 27, 28] (.all [25] fun _ => (.p 26 (.p 27 (.p 28 .done))))) else (.all [20] fun _ => (.all [25] fun _ => (.p 26 (.p 27 (.p 28 .done))))))))))))))))))))))))))))) (by kernel_rfl) (by kernel_rfl) ?_; conv => whnf)
          | (refine Br.tt ?_; conv => whnf)
          | (refine Br.dt (by omega) ?_; conv => whnf)
          | (refine Br.df (by omega) ?_; conv => whnf)
          | (refine Ck.mk (by omega) ?_; conv => whnf))
        all_goals first
          | exact k2
          | (rw [isWayF_no0 hd]; done)
      | true =>
        repeat' (first
          | (refine Has.loadAt (v := .str (l.getD 0 [])) hb2 rfl (strs_get (by omega)) ?_; conv => whnf)
          | (refine (sIsBinary_ok _ _).mono ?_; rw [hd]; rintro v h' ⟨rfl, e'⟩; subst h'; conv => whnf)
          | (refine And.intro ?_ ?_ <;> (conv => whnf))
          | refine AW.seq ?_
          | (refine AW.region ?_; conv => whnf)
          | refine AW.block ?_
          | (refine AW.skip ?_; conv => whnf)
          | refine AW.cond (by rfl) ?_
          | (refine AW.draw (id := 4) (.p 0 (.p 1 (.p 2 (.p 3 (.p 4 (.p 5 (.p 6 (.r 7 [8, 9, 10, 11, 12, 13, 14, 15, 16, 17, 18, 19, 20, 21, 22, 23, 24, 25, 26, 27, 28] (.all [8] fun _ => (.p 9 (.p 10 (.p 11 (.p 12 (.p 13 (.p 14 (.p 15 (.p 16 (.p 17 (.p 18 (.p 21 (.p 22 (.p 23 (.r 19 [20, 25, 26, 27, 28] (.all [20, 24] fun i => bif Nat.beq i 20 then (.r 24 [25, 26, 27, 28] (.all [25] fun _ => (.p 26 (.p 27 (.p 28 .done))))) else (.all [20] fun _ => (.all [25] fun _ => (.p 26 (.p 27 (.p 28 .done))))))))))))))))))))))))))))) (by kernel_rfl) (by kernel_rfl) ?_; conv => whnf)
          | (refine Br.ff ?_; conv => whnf)
          | (refine Br.dt (by omega) ?_; conv => whnf)
          | (refine Br.df (by omega) ?_; conv => whnf)
          | (refine Wr.i64 (by omega) ?_; conv => whnf)
          | (refine Ck.mk (by omega) ?_; conv => whnf))
        all_goals exact ⟨0 + 1, (Less.cons rfl (Less.cons rfl (Less.nil _))), ⟨⟨by omega, fun _ => rfl, fun j hj => by omega⟩, k2⟩, by omega⟩
    · obtain ⟨k, rfl⟩ : ∃ j, k = j + 1 := ⟨k - 1, by omega⟩
      obtain ⟨t, et, hz⟩ := w.tree k (by omega)
      have nb10 := nbrs_len t
      have st := stepOk_eq (y := l.getD (k + 1) []) et hz
      by_cases hit : l.getD (k + 1) [] ∈ txts (nbrs t)
      · rw [decide_eq_true hit] at st
        have hd2 : decide (l.getD (k + 1) [] ∈ txts (nbrs t)) = true := decide_eq_true hit
        have hd := stepOk_tree hz hit
        repeat' (first
          | (refine Has.loadAt (v := .str t.txt) hb2 rfl (by rw [← et]; exact strs_getI (by omega) (by omega)) ?_; conv => whnf)
          | (refine Has.loadAt (v := .str (l.getD (k + 1) [])) (hb2.keep (St.keeps (by assumption))) rfl (strs_getI (by omega) (by omega)) ?_; conv => whnf)
          | (refine (sIsBinary_ok (l.getD (k + 1) []) _).mono ?_; rw [hd]; rintro v h' ⟨rfl, e'⟩; subst h'; conv => whnf)
          | (refine (sNbrs_ok t _ hz).mono ?_; rintro w h' ⟨bn, rfl, hn⟩; have hs' := St.newCall (St.refl _) hn; conv => whnf)
          | (refine (l15HasS_ok (txts (nbrs t)) (l.getD (k + 1) []) _ _ _ _ (St.has hs' (.head _)) (by simp [txts]) (by omega)).mono ?_; rw [hd2]; rintro w h' ⟨rfl, e'⟩; subst h'; conv => whnf)
          | (refine And.intro ?_ ?_ <;> (conv => whnf))
          | refine AW.seq ?_
          | (refine AW.region ?_; conv => whnf)
          | refine AW.block ?_
          | (refine AW.skip ?_; conv => whnf)
          | refine AW.cond (by rfl) ?_
          | (refine AW.draw (id := 4) (.p 0 (.p 1 (.p 2 (.p 3 (.p 4 (.p 5 (.p 6 (.r 7 [8, 9, 10, 11, 12, 13, 14, 15, 16, 17, 18, 19, 20, 21, 22, 23, 24, 25, 26, 27, 28] (.all [8] fun _ => (.p 9 (.p 10 (.p 11 (.p 12 (.p 13 (.p 14 (.p 15 (.p 16 (.p 17 (.p 18 (.p 21 (.p 22 (.p 23 (.r 19 [20, 25, 26, 27, 28] (.all [20, 24] fun i => bif Nat.beq i 20 then (.r 24 [25, 26, 27, 28] (.all [25] fun _ => (.p 26 (.p 27 (.p 28 .done))))) else (.all [20] fun _ => (.all [25] fun _ => (.p 26 (.p 27 (.p 28 .done))))))))))))))))))))))))))))) (by kernel_rfl) (by kernel_rfl) ?_; conv => whnf)
          | (refine Br.ff ?_; conv => whnf)
          | (refine Br.dt (by omega) ?_; conv => whnf)
          | (refine Br.df (by omega) ?_; conv => whnf)
          | (refine Wr.i64 (by omega) ?_; conv => whnf)
          | (refine Ck.mk (by omega) ?_; conv => whnf))
        all_goals
          refine ⟨k + 1 + 1, (Less.cons rfl (Less.cons rfl (Less.nil _))), ⟨⟨by omega, fun _ => ht (by omega), fun j hj => ?_⟩, k2.trans hs'.keeps⟩, by omega⟩
          by_cases c : j = k
          · rw [c]; exact st
          · exact he j (by omega)
      · rw [decide_eq_false hit] at st
        have hd2 : decide (l.getD (k + 1) [] ∈ txts (nbrs t)) = false := decide_eq_false hit
        cases hd : (treeOf (l.getD (k + 1) [])).isSome
        all_goals
          repeat' (first
            | (refine Has.loadAt (v := .str t.txt) hb2 rfl (by rw [← et]; exact strs_getI (by omega) (by omega)) ?_; conv => whnf)
            | (refine Has.loadAt (v := .str (l.getD (k + 1) [])) (hb2.keep (St.keeps (by assumption))) rfl (strs_getI (by omega) (by omega)) ?_; conv => whnf)
            | (refine (sIsBinary_ok (l.getD (k + 1) []) _).mono ?_; rw [hd]; rintro v h' ⟨rfl, e'⟩; subst h'; conv => whnf)
            | (refine (sNbrs_ok t _ hz).mono ?_; rintro w h' ⟨bn, rfl, hn⟩; have hs' := St.newCall (St.refl _) hn; conv => whnf)
            | (refine (l15HasS_ok (txts (nbrs t)) (l.getD (k + 1) []) _ _ _ _ (St.has hs' (.head _)) (by simp [txts]) (by omega)).mono ?_; rw [hd2]; rintro w h' ⟨rfl, e'⟩; subst h'; conv => whnf)
            | (refine And.intro ?_ ?_ <;> (conv => whnf))
            | refine AW.seq ?_
            | (refine AW.region ?_; conv => whnf)
            | refine AW.block ?_
            | (refine AW.skip ?_; conv => whnf)
            | (refine AW.ret ?_; conv => whnf)
            | refine AW.cond (by rfl) ?_
            | (refine AW.draw (id := 4) (.p 0 (.p 1 (.p 2 (.p 3 (.p 4 (.p 5 (.p 6 (.r 7 [8, 9, 10, 11, 12, 13, 14, 15, 16, 17, 18, 19, 20, 21, 22, 23, 24, 25, 26, 27, 28] (.all [8] fun _ => (.p 9 (.p 10 (.p 11 (.p 12 (.p 13 (.p 14 (.p 15 (.p 16 (.p 17 (.p 18 (.p 21 (.p 22 (.p 23 (.r 19 [20, 25, 26, 27, 28] (.all [20, 24] fun i => bif Nat.beq i 20 then (.r 24 [25, 26, 27, 28] (.all [25] fun _ => (.p 26 (.p 27 (.p 28 .done))))) else (.all [20] fun _ => (.all [25] fun _ => (.p 26 (.p 27 (.p 28 .done))))))))))))))))))))))))))))) (by kernel_rfl) (by kernel_rfl) ?_; conv => whnf)
            | (refine Br.tt ?_; conv => whnf)
            | (refine Br.ff ?_; conv => whnf)
            | (refine Br.dt (by omega) ?_; conv => whnf)
            | (refine Br.df (by omega) ?_; conv => whnf)
            | (refine Wr.i64 (by omega) ?_; conv => whnf)
            | (refine Ck.mk (by omega) ?_; conv => whnf))
          all_goals first
            | exact k2
            | exact k2.trans hs'.keeps
            | (rw [isWayF_no (k := k) (by omega) st]; done)
  · repeat' (first
      | refine AW.seq ?_
      | (refine AW.region ?_; conv => whnf)
      | (refine AW.ret ?_; conv => whnf)
      | (refine AW.exit ?_; conv => whnf)
      | refine AW.cond (by rfl) ?_
      | (refine Br.df (by omega) ?_; conv => whnf))
    have hw : isWayF l = true := isWayF_yes (ht (by omega)) fun j hj => he j (by omega)
    exact ⟨by rw [hw, decide_eq_true (by omega)], k2⟩

end Go.Proofs.YtbicfognbbeigaaGreat
