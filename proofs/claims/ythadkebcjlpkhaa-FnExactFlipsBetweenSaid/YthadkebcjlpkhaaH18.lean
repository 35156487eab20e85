/-
  Contracts of rotations and of neighbours of a tree are proved.
  They hold for all trees of at most eight nodes.
-/
import Derived.Test.YthadkebcjlpkhaaH17
import Derived.Test.YthadkebcjlpkhaaH15
import Derived.Test.YthadkebcjlpkhaaH8
set_option linter.unusedVariables false
set_option linter.unusedSimpArgs false
namespace Go.Proofs.Ythadkebcjlpkhaa
open Go.Proofs.Ythadkebcjlpkhaa.Ab Go.Proofs.Ythadkebcjlpkhaa.Pl


theorem TreeL.invR {S : List (Nat × Blk)} {b0 : Nat} {a b y : BT} (m : TreeL S (.ptr b0 0) (.node (.node a b) y)) : ∃ b1 va vb vy A B C, S = (b0, .cells true 2 [.ptr b1 0, vy]) :: (((b1, .cells true 2 [va, vb]) :: (A ++ B)) ++ C) ∧ TreeL A va a ∧ TreeL B vb b ∧ TreeL C vy y := by
  cases m with
  | node hl hr =>
    cases hl with
    | node ha hb => exact ⟨_, _, _, _, _, _, _, rfl, ha, hb, hr⟩
theorem TreeL.invL {S : List (Nat × Blk)} {b0 : Nat} {x a b : BT} (m : TreeL S (.ptr b0 0) (.node x (.node a b))) : ∃ b1 vx va vb X A B, S = (b0, .cells true 2 [vx, .ptr b1 0]) :: (X ++ ((b1, .cells true 2 [va, vb]) :: (A ++ B))) ∧ TreeL X vx x ∧ TreeL A va a ∧ TreeL B vb b := by
  cases m with
  | node hl hr =>
    cases hr with
    | node ha hb => exact ⟨_, _, _, _, _, _, _, rfl, hl, ha, hb⟩
theorem TreeL.inv0 {S : List (Nat × Blk)} {b0 : Nat} {y : BT} (m : TreeL S (.ptr b0 0) (.node .leaf y)) : ∃ vy C, S = (b0, .cells true 2 [.nilptr, vy]) :: C := by
  cases m with
  | node hl hr =>
    cases hl
    exact ⟨_, _, rfl⟩
theorem TreeL.inv1 {S : List (Nat × Blk)} {b0 : Nat} {y : BT} (m : TreeL S (.ptr b0 0) (.node y .leaf)) : ∃ vy C, S = (b0, .cells true 2 [vy, .nilptr]) :: C := by
  cases m with
  | node hl hr =>
    cases hr
    exact ⟨_, _, rfl⟩
theorem St.turnR {h0 h : H} {p0 p1 p2 : Nat × Blk} {A B C R : List (Nat × Blk)} (s : St h0 h (p2 :: p0 :: p1 :: (A ++ (B ++ (C ++ R))))) : St h0 h ((p0 :: (A ++ (p2 :: (B ++ C)))) ++ R) := by
  have s2 := s.sub (.cons_cons _ (.cons_cons _ (List.sublist_cons_self _ _)))
  have s3 := s2.perm ((List.Perm.swap _ _ _).trans (.cons _ List.perm_middle.symm))
  simpa only [List.cons_append, List.append_assoc] using s3
theorem St.turnL {h0 h : H} {p0 p1 p2 : Nat × Blk} {A B C R : List (Nat × Blk)} (s : St h0 h (p2 :: p0 :: p1 :: (A ++ (B ++ (C ++ R))))) : St h0 h ((p0 :: ((p2 :: (A ++ B)) ++ C)) ++ R) := by
  have s2 := s.sub (.cons_cons _ (.cons_cons _ (List.sublist_cons_self _ _)))
  have s3 := s2.perm (List.Perm.swap _ _ _)
  simpa only [List.cons_append, List.append_assoc] using s3
theorem St.flatR {h0 h : H} {p0 p1 : Nat × Blk} {A B C R : List (Nat × Blk)} (s : St h0 h ((p0 :: ((p1 :: (A ++ B)) ++ C)) ++ R)) : St h0 h (p0 :: p1 :: (A ++ (B ++ (C ++ R)))) := by
  simpa only [List.cons_append, List.append_assoc] using s
theorem St.flatL {h0 h : H} {p0 p1 : Nat × Blk} {A B C R : List (Nat × Blk)} (s : St h0 h ((p0 :: (A ++ (p1 :: (B ++ C)))) ++ R)) : St h0 h (p0 :: p1 :: (A ++ (B ++ (C ++ R)))) := by
  have s2 : St h0 h (p0 :: (A ++ (p1 :: (B ++ (C ++ R))))) := by simpa only [List.cons_append, List.append_assoc] using s
  exact s2.perm (.cons _ List.perm_middle)



end Go.Proofs.Ythadkebcjlpkhaa

/-
  Contracts of triangulations and of joined corners are proved.
  They hold for all rows of rows.
-/
set_option linter.unusedVariables false
set_option linter.unusedSimpArgs false
namespace Go.Proofs.Ythadkebcjlpkhaa
open Go.Proofs.Ythadkebcjlpkhaa.Ab Go.Proofs.Ythadkebcjlpkhaa.Pl

theorem ent_rl {R : RL} {f : List (List Int)} (hR : rws R = f) (r i : Nat) : ent f r i = (rl R r).getD i 0 := ent_rws hR r i
theorem Grid.num2 {h : H} {b : Nat} {R : RL} {f : List (List Int)} (m : Grid h b R) (hf : rws R = f) (r i : Nat) {o : Nat} {K : AV → Prop} (e : o = i) (hr : r < R.length) (hl : (f.getD r []).length = 2) (hi : i < 2) (hk : K (.int .i64 (ent f r i))) : LoadG h (rb R r) o K := by
  subst e hf
  rw [← rl_rws] at hl
  refine (m.at hr).load (ints_get _ o (by omega)) ?_
  have : ent (rws R) r o = (rl R r).getD o 0 := ent_rws rfl r o
  rw [← this]
  exact hk

set_option maxHeartbeats 4000000 in
theorem crosses_ok (x y : List Int) (b c C D : Nat) (h0 : H) (hb : Has h0 b (ints x)) (hc' : Has h0 c (ints y)) (hx : x.length = 2) (hy : y.length = 2) :
    AC env 28 [.slice b 0 2 C, .slice c 0 2 D] h0 fun v h' => v = .bool (decide (crossR x y)) ∧ h' = h0 := by
  have d : crossR x y ↔ (x.getD 0 0 < y.getD 0 0 ∧ y.getD 0 0 < x.getD 1 0 ∧ x.getD 1 0 < y.getD 1 0) ∨ (y.getD 0 0 < x.getD 0 0 ∧ x.getD 0 0 < y.getD 1 0 ∧ y.getD 1 0 < x.getD 1 0) := Iff.rfl
  have x0 : x.getD (Int.toNat 0) 0 = x.getD 0 0 := rfl
  have x1 : x.getD (Int.toNat 1) 0 = x.getD 1 0 := rfl
  have y0 : y.getD (Int.toNat 0) 0 = y.getD 0 0 := rfl
  have y1 : y.getD (Int.toNat 1) 0 = y.getD 1 0 := rfl
  refine AC.enter Try.func28 Try.call28 rfl Try.ntmps28 (of_decide_eq_true (by rfl)) ?_
  repeat' (first
    | refine AW.seq ?_
    | (refine AW.region ?_; conv => whnf)
    | (refine AW.ret ?_; conv => whnf)
    | (refine AW.draw (id := 1) (.p 0 (.p 1 (.p 3 (.p 4 (.r 2 [6, 7, 8, 9, 10, 11, 12, 13, 14, 15, 16, 17, 18, 19, 20, 21, 22, 23, 24, 25, 26, 27, 28, 29, 30, 31, 32, 33, 34, 35, 36, 37, 38, 39, 40, 41, 42, 43, 44, 45, 46, 47, 48, 49, 50, 51, 52] (.r 5 [6, 7, 8, 9, 10, 11, 12, 13, 14, 15, 16, 17, 18, 19, 20, 21, 22, 23, 24, 25, 26, 27, 28, 29, 30, 31, 32, 33, 34, 35, 36, 37, 38, 39, 40, 41, 42, 43, 44, 45, 46, 47, 48, 49, 50, 51, 52] (.p 6 (.p 7 (.p 8 (.p 9 (.p 11 (.p 12 (.r 10 [14, 15, 16, 17, 18, 19, 20, 21, 22, 23, 24, 25, 26, 27, 28, 29, 30, 31, 32, 33, 34, 35, 36, 37, 38, 39, 40, 41, 42, 43, 44, 45, 46, 47, 48, 49, 50, 51, 52] (.r 13 [14, 15, 16, 17, 18, 19, 20, 21, 22, 23, 24, 25, 26, 27, 28, 29, 30, 31, 32, 33, 34, 35, 36, 37, 38, 39, 40, 41, 42, 43, 44, 45, 46, 47, 48, 49, 50, 51, 52] (.p 14 (.p 15 (.p 16 (.p 17 (.p 18 (.p 20 (.p 21 (.r 19 [23, 24, 25, 26, 27, 28, 29, 30, 31, 32, 33, 34, 35, 36, 37, 38, 39, 40, 41, 42, 43, 44, 45, 46, 47, 48, 49, 50, 51, 52] (.r 22 [23, 24, 25, 26, 27, 28, 29, 30, 31, 32, 33, 34, 35, 36, 37, 38, 39, 40, 41, 42, 43, 44, 45, 46, 47, 48, 49, 50, 51, 52] (.p 23 (.p 24 (.p 25 (.p 26 (.p 27 (.p 29 (.p 30 (.r 28 [32, 33, 34, 35, 36, 37, 38, 39, 40, 41, 42, 43, 44, 45, 46, 47, 48, 49, 50, 51, 52] (.r 31 [32, 33, 34, 35, 36, 37, 38, 39, 40, 41, 42, 43, 44, 45, 46, 47, 48, 49, 50, 51, 52] (.p 32 (.p 33 (.p 34 (.p 35 (.p 37 (.p 38 (.r 36 [40, 41, 42, 43, 44, 45, 46, 47, 48, 49, 50, 51, 52] (.r 39 [40, 41, 42, 43, 44, 45, 46, 47, 48, 49, 50, 51, 52] (.p 40 (.p 41 (.p 42 (.p 43 (.p 44 (.p 46 (.p 47 (.r 45 [49, 50, 51, 52] (.r 48 [49, 50, 51, 52] (.p 49 (.p 50 (.p 51 (.p 52 .done))))))))))))))))))))))))))))))))))))))))))))))))))))) (by kernel_rfl) (by kernel_rfl) ?_; conv => whnf)
    | (refine Br.ff ?_; conv => whnf)
    | (refine Br.dt (by omega) ?_; conv => whnf)
    | (refine Br.df (by omega) ?_; conv => whnf)
    | (refine Br.dec (fun hc => ?_) (fun hc => ?_) <;> conv => whnf)
    | (refine Ck.mk (by omega) ?_; conv => whnf)
    | (refine Has.loadZ (by first | assumption | exact St.has (by assumption) (by repeat first | exact .head _ | apply List.Mem.tail) | exact St.arg (by assumption) (by assumption)) rfl (by first | (simp; done) | omega | (simp only [List.length_set, List.length_append, List.length_cons, List.length_nil, List.length_replicate, tab_length]; omega) | (simp; omega)) ?_; conv => whnf))
  all_goals refine ⟨?_, rfl⟩
  all_goals congr 1
  all_goals first
    | (symm; apply decide_eq_false; rw [d]; omega)
    | (symm; apply decide_eq_true; rw [d]; omega)
    | (rw [decide_eq_decide, d]; omega)

/-- rows as far as they are looked at -/
theorem triRow_no1 {n : Int} {f : List (List Int)} {i : Nat} (h : ¬ diagOk n (f.getD i [])) : ¬ triRow n f i := fun a => h a.1
theorem triRow_no2 {n : Int} {f : List (List Int)} {i : Nat} (h0 : 0 < i) (h : ¬ cmpL (f.getD (i - 1) []) (f.getD i []) < 0) : ¬ triRow n f i := fun a => h (a.2.1 h0)
theorem triRow_no3 {n : Int} {f : List (List Int)} {i k : Nat} (hk : k < i) (h : crossR (f.getD k []) (f.getD i [])) : ¬ triRow n f i := fun a => a.2.2 k hk h

end Go.Proofs.Ythadkebcjlpkhaa
