/-
  Contracts of ballot numbers are proved.
  They hold for up to fifteen letters of each kind.
-/
import Derived.Test.YtdfdlnjijccpeaaC17
import Derived.Test.YtdfdlnjijccpeaaP8
import Derived.Test.YtdfdlnjijccpeaaGY
set_option linter.unusedVariables false
set_option linter.unusedSimpArgs false
namespace Go.Proofs.Ytdfdlnjijccpeaa
open Go.Proofs.Ytdfdlnjijccpeaa.Ab Go.Proofs.Ytdfdlnjijccpeaa.Pl

def balRow (dn i k : Nat) : List Int := tab (dn + 1) fun j => if j < k then (bal i j : Int) else 0
theorem balRow_zero (dn i k : Nat) (h : k ≤ i) : balRow dn i k = List.replicate (dn + 1) 0 := by
  apply List.ext_getElem?
  intro j
  unfold balRow tab
  by_cases hj : j < dn + 1
  · rw [List.getElem?_map, List.getElem?_range hj, List.getElem?_replicate, if_pos hj]
    simp only [Option.map_some]
    split
    · cases i with
      | zero => omega
      | succ i => rw [bal_low (by omega)]; rfl
    · rfl
  · rw [List.getElem?_eq_none (by simp; omega), List.getElem?_eq_none (by simp; omega)]
theorem balRow_set {dn i k : Nat} (hk : k < dn + 1) {y : Int} (e : y = bal i k) : (balRow dn i k).set k y = balRow dn i (k + 1) := by
  subst e
  unfold balRow
  rw [tab_set]
  exact tab_congr fun j hj => by
    split
    · rename_i h
      subst h
      rw [if_pos (by omega)]
    · split <;> split <;> first | rfl | omega
theorem balRow_get {dn i k j : Nat} (hj : j < dn + 1) (hk : j < k) : (balRow dn i k).getD j 0 = bal i j := by
  unfold balRow
  rw [tab_getD _ hj, if_pos hk]
theorem balRow_len (dn i k : Nat) : (balRow dn i k).length = dn + 1 := tab_length _ _

set_option maxHeartbeats 1000000 in
theorem l3Ways_ok (u d : Int) (h0 : H) (hu : 0 ≤ u ∧ u ≤ d ∧ d ≤ 15) : AC env 98 [.int .i64 u, .int .i64 d] h0 fun v h' => v = .int .i64 (bal u.toNat d.toNat : Nat) ∧ Keeps h0 h' := by
  obtain ⟨up, rfl⟩ := Int.eq_ofNat_of_zero_le (show 0 ≤ u by omega)
  obtain ⟨dn, rfl⟩ := Int.eq_ofNat_of_zero_le (show 0 ≤ d by omega)
  rw [Int.toNat_natCast, Int.toNat_natCast]
  have hs := St.refl h0
  have b30 : ∀ i k, i ≤ 15 → k ≤ 15 → bal i k ≤ 1073741824 := fun i k hi hk => Nat.le_trans (bal_le i k) (Nat.pow_le_pow_right (n := 2) (by decide) (show i + k ≤ 30 by omega))
  refine AC.enter Try.func98 Try.call98 rfl Try.ntmps98 (of_decide_eq_true (by rfl)) ?_
  repeat' (first
    | refine AW.seq ?_
    | (refine AW.region ?_; conv => whnf)
    | refine AW.block ?_
    | (refine NewG.st (by assumption) (fun bt h' hs' => ?_); conv => whnf))
  refine AW.loop3 (fun (R : RL) (b i : Nat) => [(0, .int .i64 up), (1, .int .i64 dn), (5, .slice b 0 i i), (6, .int .i64 i)])
    (fun R b i h' => i ≤ up + 1 ∧ R.length = i ∧ (∀ j, j < i → rl R j = balRow dn j (dn + 1)) ∧ St h0 h' ((b, row (slcs R)) :: (blks R ++ []))) (fun _ _ i => up + 1 - i) [] bt 0
    (Less.cons rfl (Less.cons rfl (Less.cons rfl (Less.cons rfl (Less.nil _))))) ⟨by omega, rfl, fun j hj => by omega, by simpa [slcs, blks] using hs'⟩ ?_
  rintro R b i h1 ⟨hi, hR, hrows, hs1⟩
  clear hs hs'
  by_cases hlt : i < up + 1
  · repeat' (first
      | (refine NewG.stZ hs1 rfl (fun bz h' hs2 => ?_); rw [show ((dn : Int) + 1).toNat = dn + 1 by omega, ← balRow_zero dn i i (Nat.le_refl _)] at hs2; conv => whnf)
      | (refine NewG.st hs2 (fun bt h' hs3 => ?_); conv => whnf)
      | (refine AppG.stR hs3.tail hR.symm (by rw [balRow_len]; omega) (by omega) (by decide) (fun b2 h' hs4 => ?_); conv => whnf)
      | refine AW.seq ?_
      | (refine AW.region ?_; conv => whnf)
      | refine AW.block ?_
      | (refine AW.skip ?_; conv => whnf)
      | refine AW.cond (by rfl) ?_
      | (refine Br.dt (by omega) ?_; conv => whnf)
      | (refine Wr.i64 (by omega) ?_; conv => whnf)
      | (refine Ck.slice (by omega) (by omega) (by omega) (by decide) ?_; conv => whnf)
      | (refine LoadsG.has (by first | assumption | exact St.has (by assumption) (by repeat first | exact .head _ | apply List.Mem.tail) | exact St.arg (by assumption) (by assumption)) (by simp) ?_; conv => whnf))
    clear hs2 hs3
    refine AW.loop2 (fun (R' : RL) (k : Nat) => [(0, .int .i64 up), (1, .int .i64 dn), (5, .slice b2 0 (i + 1) (i + 1)), (6, .int .i64 i), (7, .int .i64 k)])
      (fun R' k h' => i ≤ k ∧ k ≤ dn + 1 ∧ R'.length = i + 1 ∧ (∀ j, j < i → rl R' j = balRow dn j (dn + 1)) ∧ rl R' i = balRow dn i k ∧ St h0 h' ((b2, row (slcs R')) :: (blks R' ++ []))) (fun _ k => dn + 1 - k) (R ++ [(bz, balRow dn i i)]) i
      (Less.cons rfl (Less.cons rfl (Less.cons rfl (Less.cons rfl (Less.cons rfl (Less.nil _)))))) ⟨by omega, by omega, by simp; omega, fun j hj => by rw [rl_before _ _ (by omega)]; exact hrows j hj, by rw [← hR, rl_last], hs4⟩ ?_
    rintro R2 k h2 ⟨hik, hk, hl2, hr2, hri, hs5⟩
    by_cases hlt2 : k < dn + 1
    · obtain ⟨f, hf⟩ : ∃ f, rws R2 = f := ⟨_, rfl⟩
      have hg := hs5.rows
      have g0 : ∀ j, j < i + 1 → (f.getD j []).length = dn + 1 := fun j hj => by
        rw [rws_at hf]
        by_cases e : j = i
        · rw [e, hri, balRow_len]
        · rw [hr2 j (by omega), balRow_len]
      have v1 : ∀ j k', j < i → k' < dn + 1 → ent f j k' = bal j k' := fun j k' hj hk' => by rw [ent_rws hf, hr2 j hj, balRow_get hk' hk']
      have v2 : ∀ k', k' < k → ent f i k' = bal i k' := fun k' hk' => by rw [ent_rws hf, hri, balRow_get (by omega) hk']
      cases i with
      | zero =>
        repeat' (first
          | (refine Grid.rowAt hg hf 0 rfl (by omega) (by omega) (g0 0 (by omega)) ?_; conv => whnf)
          | (refine StoreG.stR hs5 (i := 0) (by omega) rfl (by rw [hri, balRow_len]; omega) (fun h' hs6 => ?_); conv => whnf)
          | refine AW.seq ?_
          | (refine AW.region ?_; conv => whnf)
          | refine AW.block ?_
          | (refine AW.skip ?_; conv => whnf)
          | refine AW.cond (by rfl) ?_
          | (refine Br.tt ?_; conv => whnf)
          | (refine Br.dt (by omega) ?_; conv => whnf)
          | (refine Wr.i64 (by omega) ?_; conv => whnf)
          | (refine Ck.mk (by omega) ?_; conv => whnf))
        exact ⟨_, k + 1, (Less.cons rfl (Less.cons rfl (Less.cons rfl (Less.cons rfl (Less.cons rfl (Less.nil _)))))), ⟨by omega, by omega, by rw [List.length_set]; exact hl2, fun j hj => by omega, by rw [rl_set (by omega), hri]; exact balRow_set (by omega) (by rw [bal_zero]; rfl), hs6⟩, by omega⟩
      | succ i =>
        have w1 := v1 i k (by omega) (by omega)
        have c1 := b30 i k (by omega) (by omega)
        by_cases e : k = i + 1
        · repeat' (first
            | (refine Grid.rowAt hg hf (i + 1) rfl (by omega) (by omega) (g0 (i + 1) (by omega)) ?_; conv => whnf)
            | (refine Grid.rowAt hg hf i rfl (by omega) (by omega) (g0 i (by omega)) ?_; conv => whnf)
            | (refine Grid.numAt hg hf i k rfl (by omega) (by omega) (by rw [g0 i (by omega)]; omega) ?_; conv => whnf)
            | (refine StoreG.stR hs5 (i := i + 1) (by omega) rfl (by rw [hri, balRow_len]; omega) (fun h' hs6 => ?_); conv => whnf)
            | refine AW.seq ?_
            | (refine AW.region ?_; conv => whnf)
            | refine AW.block ?_
            | (refine AW.skip ?_; conv => whnf)
            | refine AW.cond (by rfl) ?_
            | (refine AW.draw (id := 13) (.p 0 (.p 1 (.p 2 (.p 4 (.p 5 (.p 6 (.p 7 (.p 8 (.p 10 (.r 3 [13, 14] (.r 9 [11, 12, 13, 14] (.p 11 (.r 12 [13, 14] (.p 13 (.all [14] fun _ => .done))))))))))))))) (by kernel_rfl) (by kernel_rfl) ?_; conv => whnf)
            | (refine Br.ff ?_; conv => whnf)
            | (refine Br.dt (by omega) ?_; conv => whnf)
            | (refine Wr.i64 (by omega) ?_; conv => whnf)
            | (refine Ck.mk (by omega) ?_; conv => whnf))
          exact ⟨_, k + 1, (Less.cons rfl (Less.cons rfl (Less.cons rfl (Less.cons rfl (Less.cons rfl (Less.nil _)))))), ⟨by omega, by omega, by rw [List.length_set]; exact hl2, fun j hj => by rw [rl_set_ne (by omega)]; exact hr2 j hj, by rw [rl_set (by omega), hri]; exact balRow_set (by omega) (by rw [w1, e, bal_diag]), hs6⟩, by omega⟩
        · have w2 := v2 (k - 1) (by omega)
          have c2 := b30 (i + 1) (k - 1) (by omega) (by omega)
          repeat' (first
            | (refine Grid.rowAt hg hf (i + 1) rfl (by omega) (by omega) (g0 (i + 1) (by omega)) ?_; conv => whnf)
            | (refine Grid.rowAt hg hf i rfl (by omega) (by omega) (g0 i (by omega)) ?_; conv => whnf)
            | (refine Grid.numAt hg hf i k rfl (by omega) (by omega) (by rw [g0 i (by omega)]; omega) ?_; conv => whnf)
            | (refine Grid.numAt hg hf (i + 1) (k - 1) rfl (by omega) (by omega) (by rw [g0 (i + 1) (by omega)]; omega) ?_; conv => whnf)
            | (refine StoreG.stR hs5 (i := i + 1) (by omega) rfl (by rw [hri, balRow_len]; omega) (fun h' hs6 => ?_); conv => whnf)
            | refine AW.seq ?_
            | (refine AW.region ?_; conv => whnf)
            | refine AW.block ?_
            | (refine AW.skip ?_; conv => whnf)
            | refine AW.cond (by rfl) ?_
            | (refine AW.draw (id := 9) (.p 0 (.p 1 (.p 2 (.p 4 (.p 5 (.p 6 (.p 7 (.p 8 (.p 10 (.p 13 (.p 14 (.p 15 (.p 17 (.p 18 (.r 3 [22, 23] (.r 9 [11, 12, 21, 22, 23] (.p 11 (.r 12 [21, 22, 23] (.r 16 [19, 20, 21, 22, 23] (.p 19 (.r 20 [21, 22, 23] (.p 21 (.p 22 (.all [23] fun _ => .done)))))))))))))))))))))))) (by kernel_rfl) (by kernel_rfl) ?_; conv => whnf)
            | (refine Br.ff ?_; conv => whnf)
            | (refine Br.dt (by omega) ?_; conv => whnf)
            | (refine Br.df (by omega) ?_; conv => whnf)
            | (refine Wr.i64 (by omega) ?_; conv => whnf)
            | (refine Ck.mk (by omega) ?_; conv => whnf))
          exact ⟨_, k + 1, (Less.cons rfl (Less.cons rfl (Less.cons rfl (Less.cons rfl (Less.cons rfl (Less.nil _)))))), ⟨by omega, by omega, by rw [List.length_set]; exact hl2, fun j hj => by rw [rl_set_ne (by omega)]; exact hr2 j hj, by
            rw [rl_set (by omega), hri]
            refine balRow_set (by omega) ?_
            obtain ⟨k', rfl⟩ : ∃ k', k = k' + 1 := ⟨k - 1, by omega⟩
            rw [w1, w2, bal_step (show i < k' by omega), Nat.add_sub_cancel]
            omega, hs6⟩, by omega⟩
    · repeat' (first
        | refine AW.seq ?_
        | (refine AW.region ?_; conv => whnf)
        | (refine AW.exit ?_; conv => whnf)
        | refine AW.cond (by rfl) ?_
        | (refine Br.df (by omega) ?_; conv => whnf)
        | (refine Wr.i64 (by omega) ?_; conv => whnf))
      have ek : k = dn + 1 := by omega
      subst ek
      refine ⟨R2, b2, i + 1, (Less.cons rfl (Less.cons rfl (Less.cons rfl (Less.cons rfl (Less.nil _))))), ⟨by omega, hl2, fun j hj => ?_, hs5⟩, by omega⟩
      by_cases e : j = i
      · rw [e]; exact hri
      · exact hr2 j (by omega)
  · obtain ⟨f, hf⟩ : ∃ f, rws R = f := ⟨_, rfl⟩
    have hg := hs1.rows
    have g0 : (f.getD up []).length = dn + 1 := by rw [rws_at hf, hrows up (by omega), balRow_len]
    have v1 : ent f up dn = bal up dn := by rw [ent_rws hf, hrows up (by omega), balRow_get (by omega) (by omega)]
    repeat' (first
      | (refine Grid.rowAt hg hf up rfl (by omega) (by omega) g0 ?_; conv => whnf)
      | (refine Grid.numAt hg hf up dn rfl (by omega) (by omega) (by omega) ?_; conv => whnf)
      | refine AW.seq ?_
      | (refine AW.region ?_; conv => whnf)
      | (refine AW.ret ?_; conv => whnf)
      | (refine AW.exit ?_; conv => whnf)
      | refine AW.cond (by rfl) ?_
      | (refine Br.df (by omega) ?_; conv => whnf)
      | (refine Ck.mk (by omega) ?_; conv => whnf))
    exact ⟨by rw [v1], hs1.keeps⟩

end Go.Proofs.Ytdfdlnjijccpeaa
