/-
  Contracts of sums and of rows that are compared are proved.
  They hold for all rows of at most 1000 numbers.
-/
import Derived.Test.YtbicfognbbeigaaGreatH16
import Derived.Test.YtbicfognbbeigaaGreatH18
import Derived.Test.YtbicfognbbeigaaGreatH19
import Derived.Test.YtbicfognbbeigaaGreatC41
import Derived.Test.YtbicfognbbeigaaGreatH3
set_option linter.unusedVariables false
set_option linter.unusedSimpArgs false
namespace Go.Proofs.YtbicfognbbeigaaGreat
open Go.Proofs.YtbicfognbbeigaaGreat.Ab Go.Proofs.YtbicfognbbeigaaGreat.Pl

theorem sameInts_ok (l : List Int) (b c N C D : Nat) (h0 : H) (hb : Has h0 b (ints l)) (hc' : Has h0 c (ints l)) (hN : N = l.length) (hl : N ≤ 1000000000) : AC env 55 [.slice b 0 N C, .slice c 0 N D] h0 fun v h' => v = .bool true ∧ h' = h0 := by
  refine AC.enter Tryz.func55 Tryz.call55 rfl Tryz.ntmps55 (of_decide_eq_true (by rfl)) ?_
  repeat' (first
    | refine AW.seq ?_
    | (refine AW.region ?_; conv => whnf)
    | refine AW.block ?_
    | (refine AW.skip ?_; conv => whnf)
    | refine AW.cond (by rfl) ?_
    | refine Br.not ?_
    | (refine Br.t (beq_self_eq_true _) ?_; conv => whnf))
  refine AW.loop1 (fun (k : Nat) => [(0, .slice b 0 N C), (1, .slice c 0 N D), (5, .int .i64 k)]) (fun k h' => k ≤ N ∧ h' = h0) (fun k => N - k) 0 (Less.cons rfl (Less.cons rfl (Less.cons rfl (Less.nil _)))) ⟨by omega, rfl⟩ ?_
  rintro k h' ⟨hk, rfl⟩
  by_cases hlt : k < N
  · repeat' (first
      | (refine Has.loadZ hb rfl (by omega) ?_; conv => whnf)
      | (refine Has.loadZ hc' rfl (by omega) ?_; conv => whnf)
      | refine AW.seq ?_
      | (refine AW.region ?_; conv => whnf)
      | refine AW.block ?_
      | (refine AW.skip ?_; conv => whnf)
      | refine AW.cond (by rfl) ?_
      | (refine AW.draw (id := 6) (.p 0 (.p 1 (.p 2 (.p 4 (.p 5 (.p 6 (.r 3 [8] (.r 7 [8] (.p 8 .done))))))))) (by kernel_rfl) (by kernel_rfl) ?_; conv => whnf)
      | refine Br.not ?_
      | (refine Br.t (beq_self_eq_true _) ?_; conv => whnf)
      | (refine Br.dt (by omega) ?_; conv => whnf)
      | (refine Wr.i64 (by omega) ?_; conv => whnf)
      | (refine Ck.mk (by omega) ?_; conv => whnf))
    all_goals exact ⟨k + 1, (Less.cons rfl (Less.cons rfl (Less.cons rfl (Less.nil _)))), ⟨by omega, rfl⟩, by omega⟩
  · repeat' (first
      | refine AW.seq ?_
      | (refine AW.region ?_; conv => whnf)
      | (refine AW.ret ?_; conv => whnf)
      | (refine AW.exit ?_; conv => whnf)
      | refine AW.cond (by rfl) ?_
      | (refine Br.df (by omega) ?_; conv => whnf))
    exact ⟨rfl, rfl⟩


end Go.Proofs.YtbicfognbbeigaaGreat

/-
  What the functions that draw paths give is one of the paths of that size.
  It holds for all sizes of at most 6.
-/
set_option linter.unusedVariables false
set_option linter.unusedSimpArgs false
namespace Go.Proofs.YtbicfognbbeigaaGreat
open Go.Proofs.YtbicfognbbeigaaGreat.Ab Go.Proofs.YtbicfognbbeigaaGreat.Pl

theorem dyAll_up {f : Nat} {w : List UInt8} {u d : Int} (hd : d ≠ 0) (hu : 0 < u) {y : List UInt8} (h : y ∈ dyAll f (w ++ [117]) (u - 1) d) : y ∈ dyAll (f + 1) w u d := by
  unfold dyAll
  rw [if_neg hd, if_pos hu]
  exact List.mem_append_left _ h
theorem dyAll_down {f : Nat} {w : List UInt8} {u d : Int} (hd : d ≠ 0) (hu : u < d) {y : List UInt8} (h : y ∈ dyAll f (w ++ [100]) u (d - 1)) : y ∈ dyAll (f + 1) w u d := by
  unfold dyAll
  rw [if_neg hd, if_pos hu]
  exact List.mem_append_right _ h
theorem dyAll_end {f : Nat} {w : List UInt8} {u : Int} : w ∈ dyAll (f + 1) w u 0 := by
  unfold dyAll
  rw [if_pos rfl]
  exact List.mem_singleton.2 rfl

theorem l2DrawP_ok (n : Nat) (H0 h : H) (c : Nat) (L : List (Nat × Blk)) (s : CurSt H0 h c L) (hn : n ≤ 100) : AC env 101 [.ptr c 0, .int .i64 (n : Int)] h fun w h' => ∃ x : List UInt8, w = .str x ∧ x ∈ dyP n ∧ CurSt H0 h' c L := by
  refine AC.enter Tryz.func101 Tryz.call101 rfl Tryz.ntmps101 (of_decide_eq_true (by rfl)) ?_
  repeat' (first
    | refine AW.seq ?_
    | (refine AW.region ?_; conv => whnf)
    | refine AW.block ?_)
  refine AW.loop3 (fun (u d : Int) (w : List UInt8) => [(0, .ptr c 0), (1, .int .i64 (n : Int)), (5, .str w), (6, .int .i64 u), (7, .int .i64 d)]) (fun u d w h' => (0 ≤ d ∧ d ≤ u ∧ u ≤ n) ∧ (∀ f : Nat, (f : Int) = 2 * n - u - d → ∀ y, y ∈ dyAll (f + 1) w (n - u) (n - d) → y ∈ dyP n) ∧ w.length = u + d ∧ CurSt H0 h' c L) (fun u d _ => (2 * n - u - d).toNat) 0 0 []
    (Less.cons rfl (Less.cons rfl (Less.cons rfl (Less.cons rfl (Less.cons rfl (Less.nil _)))))) ⟨by omega, fun f hf y hy => (by
      obtain rfl : f = 2 * n := by omega
      rw [Int.sub_zero] at hy
      exact hy), by simp, s⟩ ?_
  rintro u d w h1 ⟨hd, hm, hw, hc1⟩
  clear s
  by_cases hlt : d < n
  · have upS : u < n → ∀ f : Nat, (f : Int) = 2 * n - (u + 1) - d → ∀ y, y ∈ dyAll (f + 1) (w ++ [117]) (n - (u + 1)) (n - d) → y ∈ dyP n := fun hu f hf y hy => hm (f + 1) (by omega) y (dyAll_up (by omega) (by omega) (by
      rw [show (n : Int) - u - 1 = n - (u + 1) from by omega]
      exact hy))
    have dnS : d < u → ∀ f : Nat, (f : Int) = 2 * n - u - (d + 1) → ∀ y, y ∈ dyAll (f + 1) (w ++ [100]) (n - u) (n - (d + 1)) → y ∈ dyP n := fun hu f hf y hy => hm (f + 1) (by omega) y (dyAll_down (by omega) (by omega) (by
      rw [show (n : Int) - d - 1 = n - (d + 1) from by omega]
      exact hy))
    repeat' (first
      | refine AW.seq ?_
      | (refine AW.region ?_; conv => whnf)
      | refine AW.block ?_
      | (refine AW.skip ?_; conv => whnf)
      | refine AW.cond (by rfl) ?_
      | (refine (l1Once_ok _ _ _ _ _ (by assumption)).mono ?_; rintro w h' ⟨xO, rfl, hcur⟩; conv => whnf)
      | (refine Br.tt ?_; conv => whnf)
      | (refine Br.ff ?_; conv => whnf)
      | (refine Br.dt (by omega) ?_; conv => whnf)
      | (refine Br.df (by omega) ?_; conv => whnf)
      | (refine Br.dec (fun hc => ?_) (fun hc => ?_) <;> conv => whnf)
      | (refine Br.mk (fun hc => ?_) (fun hc => ?_) <;> conv => whnf)
      | (refine Wr.i64 (by omega) ?_; conv => whnf)
      | (refine Ck.mk (by simp only [List.length_drop, List.length_take, List.length_append, List.length_cons, List.length_nil]; omega) ?_; conv => whnf))
    all_goals first
      | exact ⟨u + 1, d, _, (Less.cons rfl (Less.cons rfl (Less.cons rfl (Less.cons rfl (Less.cons rfl (Less.nil _)))))), ⟨by omega, upS (by omega), by simp only [List.length_append, List.length_cons, List.length_nil]; omega, by assumption⟩, by omega⟩
      | exact ⟨u, d + 1, _, (Less.cons rfl (Less.cons rfl (Less.cons rfl (Less.cons rfl (Less.cons rfl (Less.nil _)))))), ⟨by omega, dnS (by omega), by simp only [List.length_append, List.length_cons, List.length_nil]; omega, by assumption⟩, by omega⟩
  · obtain rfl : d = n := by omega
    obtain rfl : u = n := by omega
    repeat' (first
      | refine AW.seq ?_
      | (refine AW.region ?_; conv => whnf)
      | (refine AW.ret ?_; conv => whnf)
      | (refine AW.exit ?_; conv => whnf)
      | refine AW.cond (by rfl) ?_
      | (refine Br.df (by omega) ?_; conv => whnf))
    refine ⟨w, rfl, hm 0 (by omega) w ?_, hc1⟩
    rw [Int.sub_self]
    exact dyAll_end
theorem l2DrawI_ok (m : Int) (H0 h : H) (c : Nat) (L : List (Nat × Blk)) (s : CurSt H0 h c L) (hm : 0 ≤ m ∧ m ≤ 100) : AC env 101 [.ptr c 0, .int .i64 m] h fun w h' => ∃ x : List UInt8, w = .str x ∧ x ∈ dyP m.toNat ∧ CurSt H0 h' c L := by
  have h1 := l2DrawP_ok m.toNat H0 h c L s (by omega)
  rw [Int.toNat_of_nonneg hm.1] at h1
  exact h1

theorem l2PathP_ok (H0 h : H) (c : Nat) (L : List (Nat × Blk)) (s : CurSt H0 h c L) : AC env 87 [.ptr c 0] h fun w h' => ∃ (n : Nat) (x : List UInt8), w = .str x ∧ n ≤ 6 ∧ x ∈ dyP n ∧ CurSt H0 h' c L := by
  refine AC.enter Tryz.func87 Tryz.call87 rfl Tryz.ntmps87 (of_decide_eq_true (by rfl)) ?_
  repeat' (first
    | (refine (l2DrawI_ok _ _ _ _ _ (by assumption) (by omega)).mono ?_; rintro w h' ⟨x, rfl, hx, hcur⟩; conv => whnf)
    | refine AW.seq ?_
    | (refine AW.region ?_; conv => whnf)
    | (refine AW.ret ?_; conv => whnf)
    | (refine (l1Below_ok _ _ _ _ _ (by assumption)).mono ?_; rintro w h' ⟨xB, rfl, hxB, hxB2, hcur⟩; conv => whnf))
  exact ⟨_, x, rfl, by omega, hx, hcur⟩

end Go.Proofs.YtbicfognbbeigaaGreat

/-
  Contracts of triangulations and of joined corners are proved.
  They hold for all rows of rows.
-/
set_option linter.unusedVariables false
set_option linter.unusedSimpArgs false
namespace Go.Proofs.YtbicfognbbeigaaGreat
open Go.Proofs.YtbicfognbbeigaaGreat.Ab Go.Proofs.YtbicfognbbeigaaGreat.Pl

theorem ent_rl {R : RL} {f : List (List Int)} (hR : rws R = f) (r i : Nat) : ent f r i = (rl R r).getD i 0 := ent_rws hR r i
theorem Grid.num2 {h : H} {b : Nat} {R : RL} {f : List (List Int)} (m : Grid h b R) (hf : rws R = f) (r i : Nat) {o : Nat} {K : AV → Prop} (e : o = i) (hr : r < R.length) (hl : (f.getD r []).length = 2) (hi : i < 2) (hk : K (.int .i64 (ent f r i))) : LoadG h (rb R r) o K := by
  subst e hf
  rw [← rl_rws] at hl
  refine (m.at hr).load (ints_get _ o (by omega)) ?_
  have : ent (rws R) r o = (rl R r).getD o 0 := ent_rws rfl r o
  rw [← this]
  exact hk

set_option maxHeartbeats 4000000 in
theorem crosses_ok (x y : List Int) (b c C D : Nat) (h0 : H) (hb : Has h0 b (ints x)) (hc' : Has h0 c (ints y)) (hx : x.length = 2) (hy : y.length = 2) :
    AC env 96 [.slice b 0 2 C, .slice c 0 2 D] h0 fun v h' => v = .bool (decide (crossR x y)) ∧ h' = h0 := by
  have d : crossR x y ↔ (x.getD 0 0 < y.getD 0 0 ∧ y.getD 0 0 < x.getD 1 0 ∧ x.getD 1 0 < y.getD 1 0) ∨ (y.getD 0 0 < x.getD 0 0 ∧ x.getD 0 0 < y.getD 1 0 ∧ y.getD 1 0 < x.getD 1 0) := Iff.rfl
  have x0 : x.getD (Int.toNat 0) 0 = x.getD 0 0 := rfl
  have x1 : x.getD (Int.toNat 1) 0 = x.getD 1 0 := rfl
  have y0 : y.getD (Int.toNat 0) 0 = y.getD 0 0 := rfl
  have y1 : y.getD (Int.toNat 1) 0 = y.getD 1 0 := rfl
  refine AC.enter Tryz.func96 Tryz.call96 rfl Tryz.ntmps96 (of_decide_eq_true (by rfl)) ?_
  repeat' (first
    | refine AW.seq ?_
    | (refine AW.region ?_; conv => whnf)
    | (refine AW.ret ?_; conv => whnf)
    | (refine AW.draw (id := 1) (.p 0 (.p 1 (.p 3 (.p 4 (.r 2 [6, 7, 8, 9, 10, 11, 12, 13, 14, 15, 16, 17, 18, 19, 20, 21, 22, 23, 24, 25, 26, 27, 28, 29, 30, 31, 32, 33, 34, 35, 36, 37, 38, 39, 40, 41, 42, 43, 44, 45, 46, 47, 48, 49, 50, 51, 52] (.r 5 [6, 7, 8, 9, 10, 11, 12, 13, 14, 15, 16, 17, 18, 19, 20, 21, 22, 23, 24, 25, 26, 27, 28, 29, 30, 31, 32, 33, 34, 35, 36, 37, 38, 39, 40, 41, 42, 43, 44, 45, 46, 47, 48, 49, 50, 51, 52] (.p 6 (.p 7 (.p 8 (.p 9 (.p 11 (.p 12 (.r 10 [14, 15, 16, 17, 18, 19, 20, 21, 22, 23, 24, 25, 26, 27, 28, 29, 30, 31, 32, 33, 34, 35, 36, 37, 38, 39, 40, 41, 42, 43, 44, 45, 46, 47, 48, 49, 50, 51, 52] (.r 13 [14, 15, 16, 17, 18, 19, 20, 21, 22, 23, 24, 25, 26, 27, 28, 29, 30, 31, 32, 33, 34, 35, 36, 37, 38, 39, 40, 41, 42, 43, 44, 45, 46, 47, 48, 49, 50, 51, 52] (.p 14 (.p 15 (.p 16 (.p 17 (.p 18 (.p 20 (.p 21 (.r 19 [23, 24, 25, 26, 27, 28, 29, 30, 31, 32, 33, 34, 35, 36, 37, 38, 39, 40, 41, 42, 43, 44, 45, 46, 47, 48, 49, 50, 51, 52] (.r 22 [23, 24, 25, 26, 27, 28, 29, 30, 31, 32, 33, 34, 35, 36, 37, 38, 39, 40, 41, 42, 43, 44, 45, 46, 47, 48, 49, 50, 51, 52] (.p 23 (.p 24 (.p 25 (.p 26 (.p 27 (.p 29 (.p 30 (.r 28 [32, 33, 34, 35, 36, 37, 38, 39, 40, 41, 42, 43, 44, 45, 46, 47, 48, 49, 50, 51, 52] (.r 31 [32, 33, 34, 35, 36, 37, 38, 39, 40, 41, 42, 43, 44, 45, 46, 47, 48, 49, 50, 51, 52] (.p 32 (.p 33 (.p 34 (.p 35 (.p 37 (.p 38 (.r 36 [40, 41, 42, 43, 44, 45, 46, 47, 48, 49, 50, 51, 52] (.r 39 [40, 41, 42, 43, 44, 45, 46, 47, 48, 49, 50, 51, 52] (.p 40 (.p 41 (.p 42 (.p 43 (.p 44 (.p 46 (.p 47 (.r 45 [49, 50, 51, 52] (.r 48 [49, 50, 51, 52] (.p 49 (.p 50 (.p 51 (.p 52 .done))))))))))))))))))))))))))))))))))))))))))))))))))))) (by kernel_rfl) (by kernel_rfl) ?_; conv => whnf)
    | (refine Br.ff ?_; conv => whnf)
    | (refine Br.dt (by omega) ?_; conv => whnf)
    | (refine Br.df (by omega) ?_; conv => whnf)
    | (refine Br.dec (fun hc => ?_) (fun hc => ?_) <;> conv => whnf)
    | (refine Ck.mk (by omega) ?_; conv => whnf)
    | (refine Has.loadZ (by first | assumption | exact St.has (by assumption) (by repeat first | exact .head _ | apply List.Mem.tail) | exact St.arg (by assumption) (by assumption)) rfl (by first | (simp; done) | omega | (simp only [List.length_set, List.length_append, List.length_cons, List.length_nil, List.length_replicate, tab_length]; omega) | (simp; omega)) ?_; conv => whnf))
  all_goals refine ⟨?_, rfl⟩
  all_goals congr 1
  all_goals first
    | (symm; apply decide_eq_false; rw [d]; omega)
    | (symm; apply decide_eq_true; rw [d]; omega)
    | (rw [decide_eq_decide, d]; omega)

/-- rows as far as they are looked at -/
theorem triRow_no1 {n : Int} {f : List (List Int)} {i : Nat} (h : ¬ diagOk n (f.getD i [])) : ¬ triRow n f i := fun a => h a.1
theorem triRow_no2 {n : Int} {f : List (List Int)} {i : Nat} (h0 : 0 < i) (h : ¬ cmpL (f.getD (i - 1) []) (f.getD i []) < 0) : ¬ triRow n f i := fun a => h (a.2.1 h0)
theorem triRow_no3 {n : Int} {f : List (List Int)} {i k : Nat} (hk : k < i) (h : crossR (f.getD k []) (f.getD i [])) : ¬ triRow n f i := fun a => a.2.2 k hk h

end Go.Proofs.YtbicfognbbeigaaGreat
