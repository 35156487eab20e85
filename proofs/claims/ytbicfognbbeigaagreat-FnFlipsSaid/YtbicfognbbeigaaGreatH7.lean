/-
  Contracts of the order of rows are proved.
  They hold for all rows.
-/
import Derived.Test.YtbicfognbbeigaaGreatH2
import Derived.Test.YtbicfognbbeigaaGreatGY
set_option linter.unusedVariables false
set_option linter.unusedSimpArgs false
namespace Go.Proofs.YtbicfognbbeigaaGreat
open Go.Proofs.YtbicfognbbeigaaGreat.Ab Go.Proofs.YtbicfognbbeigaaGreat.Pl

def cmpI (x y : Int) : Int := if x < y then -1 else if y < x then 1 else 0
/-- the order of rows -/
def cmpL : List Int → List Int → Int
  | [], [] => 0
  | [], _ :: _ => -1
  | _ :: _, [] => 1
  | x :: l, y :: m => if x < y then -1 else if y < x then 1 else cmpL l m

theorem isNaN_ok (x : Int) (h0 : H) : AC env 127 [.int .i64 x] h0 fun v h' => v = .bool false ∧ h' = h0 := by
  refine AC.enter Tryz.func127 Tryz.call127 rfl Tryz.ntmps127 (of_decide_eq_true (by rfl)) ?_
  repeat' (first
    | refine AW.seq ?_
    | (refine AW.region ?_; conv => whnf)
    | (refine AW.ret ?_; conv => whnf))
  all_goals first
    | exact ⟨rfl, rfl⟩
    | exact ⟨by simp, rfl⟩
theorem cmpI_ok (x y : Int) (h0 : H) : AC env 94 [.int .i64 x, .int .i64 y] h0 fun v h' => v = .int .i64 (cmpI x y) ∧ h' = h0 := by
  refine AC.enter Tryz.func94 Tryz.call94 rfl Tryz.ntmps94 (of_decide_eq_true (by rfl)) ?_
  repeat' (first
    | refine AW.seq ?_
    | (refine AW.region ?_; conv => whnf)
    | (refine AW.skip ?_; conv => whnf)
    | (refine AW.ret ?_; conv => whnf)
    | refine AW.cond (by rfl) ?_
    | (refine (isNaN_ok _ _).mono ?_; rintro v h' ⟨rfl, e'⟩; subst h'; conv => whnf)
    | (refine Br.ff ?_; conv => whnf)
    | (refine Br.dec (fun hc => ?_) (fun hc => ?_) <;> conv => whnf))
  all_goals first
    | exact ⟨by rw [cmpI, if_pos (by omega)], rfl⟩
    | exact ⟨by rw [cmpI, if_neg (by omega), if_pos (by omega)], rfl⟩
    | exact ⟨by rw [cmpI, if_neg (by omega), if_neg (by omega)], rfl⟩

theorem cmpL_at {l m : List Int} {k : Nat} (h1 : k < l.length) (h2 : k < m.length) : cmpL (l.drop k) (m.drop k) = if l.getD k 0 < m.getD k 0 then -1 else if m.getD k 0 < l.getD k 0 then 1 else cmpL (l.drop (k + 1)) (m.drop (k + 1)) := by
  rw [List.drop_eq_getElem_cons h1, List.drop_eq_getElem_cons h2, cmpL]
  simp [List.getD, h1, h2]

theorem cmpL_ok (l m : List Int) (b c C D : Nat) (h0 : H) (hb : Has h0 b (ints l)) (hc' : Has h0 c (ints m)) (hL : l.length ≤ 1000000) (hM : m.length ≤ 1000000) : AC env 51 [.slice b 0 l.length C, .slice c 0 m.length D] h0 fun v h' => v = .int .i64 (cmpL l m) ∧ h' = h0 := by
  refine AC.enter Tryz.func51 Tryz.call51 rfl Tryz.ntmps51 (of_decide_eq_true (by rfl)) ?_
  repeat' (first
    | refine AW.seq ?_
    | (refine AW.region ?_; conv => whnf)
    | refine AW.block ?_)
  refine AW.loop1 (fun (k : Nat) => [(0, .slice b 0 l.length C), (1, .slice c 0 m.length D), (9, .slice b 0 l.length C), (10, .int .i64 l.length), (11, .int .i64 k)]) (fun k h' => k ≤ l.length ∧ k ≤ m.length ∧ cmpL l m = cmpL (l.drop k) (m.drop k) ∧ h' = h0) (fun k => l.length - k) 0
    (Less.cons rfl (Less.cons rfl (Less.cons rfl (Less.cons rfl (Less.cons rfl (Less.nil _)))))) ⟨by omega, by omega, rfl, rfl⟩ ?_
  rintro k h1 ⟨hk, hk2, e, rfl⟩
  by_cases h1 : k < l.length
  · by_cases h2 : k < m.length
    · have ea := cmpL_at h1 h2
      by_cases c1 : l.getD k 0 < m.getD k 0
      · have c2 : cmpI (l.getD (k : Int).toNat 0) (m.getD (k : Int).toNat 0) = -1 := if_pos c1
        repeat' (first
          | refine AW.seq ?_
          | (refine AW.region ?_; conv => whnf)
          | refine AW.block ?_
          | (refine AW.skip ?_; conv => whnf)
          | (refine AW.ret ?_; conv => whnf)
          | refine AW.cond (by rfl) ?_
          | (refine (cmpI_ok _ _ _).mono ?_; rintro v h' ⟨rfl, e'⟩; subst h'; conv => whnf)
          | refine Br.not ?_
          | (refine Br.dt (by omega) ?_; conv => whnf)
          | (refine Br.df (by omega) ?_; conv => whnf)
          | (refine Ck.mk (by omega) ?_; conv => whnf)
          | (refine Has.loadZ (by first | assumption | exact St.has (by assumption) (by repeat first | exact .head _ | apply List.Mem.tail) | exact St.arg (by assumption) (by assumption)) rfl (by first | (simp; done) | omega | (simp only [List.length_set, List.length_append, List.length_cons, List.length_nil, List.length_replicate, tab_length]; omega) | (simp; omega)) ?_; conv => whnf))
        exact ⟨by rw [e, ea, if_pos c1, c2], rfl⟩
      · by_cases c3 : m.getD k 0 < l.getD k 0
        · have c2 : cmpI (l.getD (k : Int).toNat 0) (m.getD (k : Int).toNat 0) = 1 := (if_neg c1).trans (if_pos c3)
          repeat' (first
            | refine AW.seq ?_
            | (refine AW.region ?_; conv => whnf)
            | refine AW.block ?_
            | (refine AW.skip ?_; conv => whnf)
            | (refine AW.ret ?_; conv => whnf)
            | refine AW.cond (by rfl) ?_
            | (refine (cmpI_ok _ _ _).mono ?_; rintro v h' ⟨rfl, e'⟩; subst h'; conv => whnf)
            | refine Br.not ?_
            | (refine Br.dt (by omega) ?_; conv => whnf)
            | (refine Br.df (by omega) ?_; conv => whnf)
            | (refine Ck.mk (by omega) ?_; conv => whnf)
            | (refine Has.loadZ (by first | assumption | exact St.has (by assumption) (by repeat first | exact .head _ | apply List.Mem.tail) | exact St.arg (by assumption) (by assumption)) rfl (by first | (simp; done) | omega | (simp only [List.length_set, List.length_append, List.length_cons, List.length_nil, List.length_replicate, tab_length]; omega) | (simp; omega)) ?_; conv => whnf))
          exact ⟨by rw [e, ea, if_neg c1, if_pos c3, c2], rfl⟩
        · have c2 : cmpI (l.getD (k : Int).toNat 0) (m.getD (k : Int).toNat 0) = 0 := (if_neg c1).trans (if_neg c3)
          repeat' (first
            | refine AW.seq ?_
            | (refine AW.region ?_; conv => whnf)
            | refine AW.block ?_
            | (refine AW.skip ?_; conv => whnf)
            | refine AW.cond (by rfl) ?_
            | (refine (cmpI_ok _ _ _).mono ?_; rintro v h' ⟨rfl, e'⟩; subst h'; conv => whnf)
            | refine Br.not ?_
            | (refine Br.dt (by omega) ?_; conv => whnf)
            | (refine Br.df (by omega) ?_; conv => whnf)
            | (refine Wr.i64 (by omega) ?_; conv => whnf)
            | (refine Ck.mk (by omega) ?_; conv => whnf)
            | (refine Has.loadZ (by first | assumption | exact St.has (by assumption) (by repeat first | exact .head _ | apply List.Mem.tail) | exact St.arg (by assumption) (by assumption)) rfl (by first | (simp; done) | omega | (simp only [List.length_set, List.length_append, List.length_cons, List.length_nil, List.length_replicate, tab_length]; omega) | (simp; omega)) ?_; conv => whnf))
          exact ⟨k + 1, (Less.cons rfl (Less.cons rfl (Less.cons rfl (Less.cons rfl (Less.cons rfl (Less.nil _)))))), ⟨by omega, by omega, by rw [e, ea, if_neg c1, if_neg c3], rfl⟩, by omega⟩
    · repeat' (first
        | refine AW.seq ?_
        | (refine AW.region ?_; conv => whnf)
        | refine AW.block ?_
        | (refine AW.skip ?_; conv => whnf)
        | (refine AW.ret ?_; conv => whnf)
        | refine AW.cond (by rfl) ?_
        | (refine Br.dt (by omega) ?_; conv => whnf)
        | (refine Ck.mk (by omega) ?_; conv => whnf)
        | (refine Has.loadZ (by first | assumption | exact St.has (by assumption) (by repeat first | exact .head _ | apply List.Mem.tail) | exact St.arg (by assumption) (by assumption)) rfl (by first | (simp; done) | omega | (simp only [List.length_set, List.length_append, List.length_cons, List.length_nil, List.length_replicate, tab_length]; omega) | (simp; omega)) ?_; conv => whnf))
      refine ⟨?_, rfl⟩
      have em : m.drop k = [] := List.drop_eq_nil_of_le (by omega)
      rw [e, em, List.drop_eq_getElem_cons h1]
      rfl
  · by_cases h2 : k < m.length
    · repeat' (first
        | refine AW.seq ?_
        | (refine AW.region ?_; conv => whnf)
        | (refine AW.ret ?_; conv => whnf)
        | (refine AW.exit ?_; conv => whnf)
        | refine AW.cond (by rfl) ?_
        | (refine Br.dt (by omega) ?_; conv => whnf)
        | (refine Br.df (by omega) ?_; conv => whnf))
      refine ⟨?_, rfl⟩
      have el : l.drop k = [] := List.drop_eq_nil_of_le (by omega)
      rw [e, el, List.drop_eq_getElem_cons h2]
      rfl
    · repeat' (first
        | refine AW.seq ?_
        | (refine AW.region ?_; conv => whnf)
        | (refine AW.skip ?_; conv => whnf)
        | (refine AW.ret ?_; conv => whnf)
        | (refine AW.exit ?_; conv => whnf)
        | refine AW.cond (by rfl) ?_
        | (refine Br.df (by omega) ?_; conv => whnf))
      refine ⟨?_, rfl⟩
      have el : l.drop k = [] := List.drop_eq_nil_of_le (by omega)
      have em : m.drop k = [] := List.drop_eq_nil_of_le (by omega)
      rw [e, el, em]
      rfl

end Go.Proofs.YtbicfognbbeigaaGreat

/-
  Contracts of short sorts of rows are proved.
  They hold for up to twelve rows.
-/
set_option linter.unusedVariables false
set_option linter.unusedSimpArgs false
namespace Go.Proofs.YtbicfognbbeigaaGreat
open Go.Proofs.YtbicfognbbeigaaGreat.Ab Go.Proofs.YtbicfognbbeigaaGreat.Pl

/-- two rows change places -/
def swp (R : RL) (j : Nat) : RL := (R.set (j + 1) (R.getD j (0, []))).set j (R.getD (j + 1) (0, []))
def insJ : Nat → RL → RL
  | 0, R => R
  | j + 1, R => if cmpL (rl R (j + 1)) (rl R j) < 0 then insJ j (swp R j) else R
def insO (R : RL) : Nat → RL
  | 0 => R
  | i + 1 => insJ (i + 1) (insO R i)
theorem swp_len (R : RL) (j : Nat) : (swp R j).length = R.length := by simp [swp]
theorem insJ_len : ∀ j R, (insJ j R).length = R.length
  | 0, R => rfl
  | j + 1, R => by
    rw [insJ]
    split
    · rw [insJ_len j, swp_len]
    · rfl
theorem insO_len (R : RL) : ∀ i, (insO R i).length = R.length
  | 0 => rfl
  | i + 1 => by rw [insO, insJ_len, insO_len R i]
theorem swp_perm {R : RL} {j : Nat} (h : j + 1 < R.length) : (swp R j).Perm R := by
  unfold swp
  have e1 : R.getD j (0, []) = R[j] := by simp [List.getD, show j < R.length by omega]
  have e2 : R.getD (j + 1) (0, []) = R[j + 1] := by simp [List.getD, h]
  rw [e1, e2]
  exact List.set_set_perm h (by omega)
theorem slcs_swp {R : RL} {j : Nat} (h : j + 1 < R.length) : ((slcs R).set (j + 1) (.slice (rb R j) 0 (rl R j).length (rl R j).length)).set j (.slice (rb R (j + 1)) 0 (rl R (j + 1)).length (rl R (j + 1)).length) = slcs (swp R j) := by
  unfold swp slcs
  rw [List.map_set, List.map_set]
  rfl
theorem swpSt {h0 h : H} {L : List (Nat × Blk)} {b j : Nat} {R : RL} (s : St h0 h ((b, row (slcs (swp R j))) :: (blks R ++ L))) (hj : j + 1 < R.length) : St h0 h ((b, row (slcs (swp R j))) :: (blks (swp R j) ++ L)) :=
  s.perm (.cons _ (List.Perm.append_right _ ((swp_perm hj).map _).symm))

theorem insJ_perm : ∀ j R, j < R.length → (insJ j R).Perm R
  | 0, R, _ => List.Perm.refl _
  | j + 1, R, h => by
    rw [insJ]
    split
    · exact (insJ_perm j (swp R j) (by rw [swp_len]; omega)).trans (swp_perm h)
    · exact List.Perm.refl _
theorem insO_perm (R : RL) : ∀ i, i < R.length → (insO R i).Perm R
  | 0, _ => List.Perm.refl _
  | i + 1, h => by
    rw [insO]
    exact (insJ_perm (i + 1) (insO R i) (by rw [insO_len]; omega)).trans (insO_perm R i (by omega))

set_option maxHeartbeats 1000000 in
theorem insSort_ok (R : RL) (L : List (Nat × Blk)) (b N C : Nat) (H0 hp : H) (hs : St H0 hp ((b, row (slcs R)) :: (blks R ++ L))) (hN : N = R.length) (hl : N ≤ 12) (hr : ∀ r ∈ R, r.2.length ≤ 1000) :
    AC env 117 [.slice b 0 N C, .int .i64 0, .int .i64 N, .func 51 []] hp fun v h' => v = .tup [] ∧ St H0 h' ((b, row (slcs (insO R (N - 1)))) :: (blks (insO R (N - 1)) ++ L)) := by
  refine AC.enter Tryz.func117 Tryz.call117 rfl Tryz.ntmps117 (of_decide_eq_true (by rfl)) ?_
  repeat' (first
    | refine AW.seq ?_
    | (refine AW.region ?_; conv => whnf)
    | refine AW.block ?_
    | (refine Wr.i64 (by omega) ?_; conv => whnf))
  refine AW.loop2 (fun (R1 : RL) (i : Nat) => [(0, .slice b 0 N C), (1, .int .i64 0), (2, .int .i64 N), (3, .func 51 []), (8, .int .i64 ((i + 1 : Nat) : Int))])
    (fun R1 i h' => i ≤ N - 1 ∧ R1 = insO R i ∧ St H0 h' ((b, row (slcs R1)) :: (blks R1 ++ L))) (fun _ i => N - i) R 0 (Less.cons rfl (Less.cons rfl (Less.cons rfl (Less.cons rfl (Less.cons rfl (Less.nil _)))))) ⟨by omega, rfl, hs⟩ ?_
  rintro R1 i h1 ⟨hi, rfl, hs1⟩
  clear hs
  by_cases hlt : i + 1 < N
  · have l1 : (insO R i).length = N := by rw [insO_len, hN]
    have r1 : ∀ r ∈ insO R i, r.2.length ≤ 1000 := fun r h => hr r ((insO_perm R i (by omega)).mem_iff.1 h)
    repeat' (first
      | refine AW.seq ?_
      | (refine AW.region ?_; conv => whnf)
      | refine AW.block ?_
      | (refine AW.skip ?_; conv => whnf)
      | refine AW.cond (by rfl) ?_
      | (refine Br.dt (by omega) ?_; conv => whnf))
    refine AW.loop2 (fun (R2 : RL) (j : Nat) => [(0, .slice b 0 N C), (1, .int .i64 0), (2, .int .i64 N), (3, .func 51 []), (8, .int .i64 ((i + 1 : Nat) : Int)), (9, .int .i64 j)])
      (fun R2 j h' => j ≤ i + 1 ∧ R2.length = N ∧ (∀ r ∈ R2, r.2.length ≤ 1000) ∧ insJ j R2 = insJ (i + 1) (insO R i) ∧ St H0 h' ((b, row (slcs R2)) :: (blks R2 ++ L))) (fun _ j => j) (insO R i) (i + 1) (Less.cons rfl (Less.cons rfl (Less.cons rfl (Less.cons rfl (Less.cons rfl (Less.cons rfl (Less.nil _))))))) ⟨by omega, l1, r1, rfl, hs1⟩ ?_
    rintro R2 j h2 ⟨hj, l2, r2, e, hs2⟩
    clear hs1
    cases j with
    | zero =>
      repeat' (first
        | refine AW.seq ?_
        | (refine AW.region ?_; conv => whnf)
        | (refine AW.exit ?_; conv => whnf)
        | refine AW.cond (by rfl) ?_
        | (refine AW.draw (id := 4) (.p 0 (.p 1 (.p 2 (.p 3 (.p 4 (.p 5 (.p 6 (.p 7 (.p 9 (.p 10 (.p 11 (.p 12 (.r 8 [14, 15, 16] (.r 13 [14, 15, 16] (.all [14] fun _ => (.p 15 (.p 16 .done))))))))))))))))) (by kernel_rfl) (by kernel_rfl) ?_; conv => whnf)
        | (refine Br.ff ?_; conv => whnf)
        | (refine Wr.i64 (by omega) ?_; conv => whnf))
      exact ⟨R2, i + 1, (Less.cons rfl (Less.cons rfl (Less.cons rfl (Less.cons rfl (Less.cons rfl (Less.nil _)))))), ⟨by omega, e, hs2⟩, by omega⟩
    | succ j =>
      have hg := hs2.rows
      have q1 : (rl R2 (j + 1)).length ≤ 1000 := r2 _ (rl_mem R2 (j + 1) (by omega))
      have q0 : (rl R2 j).length ≤ 1000 := r2 _ (rl_mem R2 j (by omega))
      have ei : ((((j + 1 : Nat) : Int)) - 1).toNat = j := by omega
      by_cases c : cmpL (rl R2 (j + 1)) (rl R2 j) < 0
      · repeat' (first
          | (refine Grid.rowAt hg rfl (j + 1) rfl (by omega) (by omega) (congrArg List.length (rws_at rfl _)) ?_; conv => whnf)
          | (refine Grid.rowAt hg rfl j rfl (by omega) (by omega) (congrArg List.length (rws_at rfl _)) ?_; conv => whnf)
          | (refine (cmpL_ok (rl R2 (j + 1)) (rl R2 j) _ _ _ _ _ (hg.at (by omega)) (hg.at (by omega)) (by omega) (by omega)).mono ?_; rintro v h' ⟨rfl, e'⟩; subst h'; conv => whnf)
          | (refine StoreG.stV hs2 .here rfl (by simp; omega) rfl (fun h' hs3 => ?_); conv => whnf)
          | (refine StoreG.stV hs3 .here rfl (by simp; omega) rfl (fun h' hs4 => ?_); conv => whnf)
          | refine AW.seq ?_
          | (refine AW.region ?_; conv => whnf)
          | refine AW.block ?_
          | (refine AW.skip ?_; conv => whnf)
          | refine AW.cond (by rfl) ?_
          | (refine AW.draw (id := 4) (.p 0 (.p 1 (.p 2 (.p 3 (.p 4 (.p 5 (.p 6 (.p 7 (.p 9 (.p 10 (.p 11 (.p 12 (.r 8 [14, 15, 16] (.r 13 [14, 15, 16] (.all [14] fun _ => (.p 15 (.p 16 .done))))))))))))))))) (by kernel_rfl) (by kernel_rfl) ?_; conv => whnf)
          | (refine AW.draw (id := 6) (.p 0 (.p 1 (.p 2 (.p 3 (.p 4 (.p 5 (.p 6 (.p 7 (.p 8 (.p 10 (.p 11 (.p 12 (.r 9 [14, 15, 16, 17] (.r 13 [14, 15, 16, 17] (.p 14 (.all [15] fun _ => (.p 16 (.all [17] fun _ => .done)))))))))))))))))) (by kernel_rfl) (by kernel_rfl) ?_; conv => whnf)
          | (refine Br.dt (by omega) ?_; conv => whnf)
          | (refine Wr.i64 (by omega) ?_; conv => whnf)
          | (refine Ck.mk (by omega) ?_; conv => whnf))
        rw [ei, show (((j + 1 : Nat) : Int)).toNat = j + 1 from rfl, slcs_swp (by omega)] at hs4
        refine ⟨swp R2 j, j, ?_, ⟨by omega, by rw [swp_len, l2], fun r h => r2 r ((swp_perm (by omega)).mem_iff.1 h), by rw [← e, insJ, if_pos c], swpSt hs4 (by omega)⟩, by omega⟩
        rw [show (j : Int) = ((j + 1 : Nat) : Int) - 1 by omega]
        exact (Less.cons rfl (Less.cons rfl (Less.cons rfl (Less.cons rfl (Less.cons rfl (Less.cons rfl (Less.nil _)))))))
      · repeat' (first
          | (refine Grid.rowAt hg rfl (j + 1) rfl (by omega) (by omega) (congrArg List.length (rws_at rfl _)) ?_; conv => whnf)
          | (refine Grid.rowAt hg rfl j rfl (by omega) (by omega) (congrArg List.length (rws_at rfl _)) ?_; conv => whnf)
          | (refine (cmpL_ok (rl R2 (j + 1)) (rl R2 j) _ _ _ _ _ (hg.at (by omega)) (hg.at (by omega)) (by omega) (by omega)).mono ?_; rintro v h' ⟨rfl, e'⟩; subst h'; conv => whnf)
          | refine AW.seq ?_
          | (refine AW.region ?_; conv => whnf)
          | (refine AW.exit ?_; conv => whnf)
          | refine AW.cond (by rfl) ?_
          | (refine AW.draw (id := 4) (.p 0 (.p 1 (.p 2 (.p 3 (.p 4 (.p 5 (.p 6 (.p 7 (.p 9 (.p 10 (.p 11 (.p 12 (.r 8 [14, 15, 16] (.r 13 [14, 15, 16] (.all [14] fun _ => (.p 15 (.p 16 .done))))))))))))))))) (by kernel_rfl) (by kernel_rfl) ?_; conv => whnf)
          | (refine Br.dt (by omega) ?_; conv => whnf)
          | (refine Br.df (by omega) ?_; conv => whnf)
          | (refine Wr.i64 (by omega) ?_; conv => whnf)
          | (refine Ck.mk (by omega) ?_; conv => whnf))
        exact ⟨R2, i + 1, (Less.cons rfl (Less.cons rfl (Less.cons rfl (Less.cons rfl (Less.cons rfl (Less.nil _)))))), ⟨by omega, by rw [insO, ← e, insJ, if_neg c], hs2⟩, by omega⟩
  · repeat' (first
      | refine AW.seq ?_
      | (refine AW.region ?_; conv => whnf)
      | (refine AW.exit ?_; conv => whnf)
      | refine AW.cond (by rfl) ?_
      | (refine Br.df (by omega) ?_; conv => whnf))
    rw [show N - 1 = i by omega]
    exact ⟨rfl, hs1⟩

theorem Wr.letter {c : UInt8} {K : Int → Prop} (hk : ∀ k : Int, 0 ≤ k → k ≤ 255 → K k) : Wr .i64 ((c.toNat : Nat) : Int) K := by
  have h := c.toNat_lt
  exact Wr.i64 (by omega) (hk _ (by omega) (by omega))

set_option maxRecDepth 8000 in
theorem bitsLen64_ok (x : Int) (h0 : H) (hx : 0 ≤ x ∧ x ≤ 12) : AC env 126 [.int .u64 x] h0 fun v h' => (∃ k, v = .int .i64 k ∧ 0 ≤ k ∧ k ≤ 255) ∧ h' = h0 := by
  refine AC.enter Tryz.func126 Tryz.call126 rfl Tryz.ntmps126 (of_decide_eq_true (by rfl)) ?_
  repeat' (first
    | (refine Wr.letter (fun k hk0 hk1 => ?_); conv => whnf)
    | refine AW.seq ?_
    | (refine AW.region ?_; conv => whnf)
    | (refine AW.skip ?_; conv => whnf)
    | (refine AW.ret ?_; conv => whnf)
    | refine AW.cond (by rfl) ?_
    | (refine Br.df (by omega) ?_; conv => whnf)
    | (refine Wr.i64 (by omega) ?_; conv => whnf)
    | (refine Wr.u8 (by omega) ?_; conv => whnf)
    | (refine Ck.mk (by simp; omega) ?_; conv => whnf))
  exact ⟨⟨_, rfl, by omega, by omega⟩, rfl⟩
theorem bitsLen_ok (x : Int) (h0 : H) (hx : 0 ≤ x ∧ x ≤ 12) : AC env 93 [.int .u64 x] h0 fun v h' => (∃ k, v = .int .i64 k ∧ 0 ≤ k ∧ k ≤ 255) ∧ h' = h0 := by
  refine AC.enter Tryz.func93 Tryz.call93 rfl Tryz.ntmps93 (of_decide_eq_true (by rfl)) ?_
  repeat' (first
    | (refine (bitsLen64_ok _ _ hx).mono ?_; rintro v h' ⟨⟨k, rfl, hk0, hk1⟩, e'⟩; subst h'; conv => whnf)
    | refine AW.seq ?_
    | (refine AW.region ?_; conv => whnf)
    | (refine AW.skip ?_; conv => whnf)
    | (refine AW.ret ?_; conv => whnf)
    | refine AW.cond (by rfl) ?_
    | (refine Br.ff ?_; conv => whnf))
  exact ⟨⟨_, rfl, by omega, by omega⟩, rfl⟩

theorem pdqsort_ok (R : RL) (L : List (Nat × Blk)) (b N C : Nat) (lim : Int) (H0 hp : H) (hs : St H0 hp ((b, row (slcs R)) :: (blks R ++ L))) (hN : N = R.length) (hl : N ≤ 12) (hr : ∀ r ∈ R, r.2.length ≤ 1000) :
    AC env 92 [.slice b 0 N C, .int .i64 0, .int .i64 N, .int .i64 lim, .func 51 []] hp fun v h' => v = .tup [] ∧ St H0 h' ((b, row (slcs (insO R (N - 1)))) :: (blks (insO R (N - 1)) ++ L)) := by
  refine AC.enter Tryz.func92 Tryz.call92 rfl Tryz.ntmps92 (of_decide_eq_true (by rfl)) ?_
  repeat' (first
    | refine AW.seq ?_
    | (refine AW.region ?_; conv => whnf)
    | refine AW.block ?_)
  refine AW.once ?_
  repeat' (first
    | (refine (insSort_ok R L b N C H0 _ hs hN hl hr).mono ?_; rintro v h' ⟨rfl, hs2⟩; conv => whnf)
    | refine AW.seq ?_
    | (refine AW.region ?_; conv => whnf)
    | refine AW.block ?_
    | (refine AW.ret ?_; conv => whnf)
    | refine AW.cond (by rfl) ?_
    | (refine Br.dt (by omega) ?_; conv => whnf)
    | (refine Wr.i64 (by omega) ?_; conv => whnf))
  exact ⟨rfl, hs2⟩

theorem sortFunc_ok (R : RL) (L : List (Nat × Blk)) (b N C : Nat) (H0 hp : H) (hs : St H0 hp ((b, row (slcs R)) :: (blks R ++ L))) (hN : N = R.length) (hl : N ≤ 12) (hr : ∀ r ∈ R, r.2.length ≤ 1000) :
    AC env 50 [.slice b 0 N C, .func 51 []] hp fun v h' => v = .tup [] ∧ St H0 h' ((b, row (slcs (insO R (N - 1)))) :: (blks (insO R (N - 1)) ++ L)) := by
  refine AC.enter Tryz.func50 Tryz.call50 rfl Tryz.ntmps50 (of_decide_eq_true (by rfl)) ?_
  repeat' (first
    | (refine (bitsLen_ok _ _ (by omega)).mono ?_; rintro v h' ⟨⟨k, rfl, hk0, hk1⟩, e'⟩; subst h'; conv => whnf)
    | (refine (pdqsort_ok R L b N C _ H0 _ hs hN hl hr).mono ?_; rintro v h' ⟨rfl, hs2⟩; conv => whnf)
    | refine AW.seq ?_
    | (refine AW.region ?_; conv => whnf)
    | (refine Wr.u64 (by omega) ?_; conv => whnf))
  exact ⟨rfl, hs2⟩

end Go.Proofs.YtbicfognbbeigaaGreat
