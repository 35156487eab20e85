/-
  What the functions that draw paths give is one of the paths of that size.
  It holds for all sizes of at most 6.
-/
import Derived.Test.YtbicfognbbeigaaH32
import Derived.Test.YtbicfognbbeigaaH30
set_option linter.unusedVariables false
set_option linter.unusedSimpArgs false
namespace Go.Proofs.Ytbicfognbbeigaa
open Go.Proofs.Ytbicfognbbeigaa.Ab Go.Proofs.Ytbicfognbbeigaa.Pl

theorem dyAll_up {f : Nat} {w : List UInt8} {u d : Int} (hd : d ≠ 0) (hu : 0 < u) {y : List UInt8} (h : y ∈ dyAll f (w ++ [117]) (u - 1) d) : y ∈ dyAll (f + 1) w u d := by
  unfold dyAll
  rw [if_neg hd, if_pos hu]
  exact List.mem_append_left _ h
theorem dyAll_down {f : Nat} {w : List UInt8} {u d : Int} (hd : d ≠ 0) (hu : u < d) {y : List UInt8} (h : y ∈ dyAll f (w ++ [100]) u (d - 1)) : y ∈ dyAll (f + 1) w u d := by
  unfold dyAll
  rw [if_neg hd, if_pos hu]
  exact List.mem_append_right _ h
theorem dyAll_end {f : Nat} {w : List UInt8} {u : Int} : w ∈ dyAll (f + 1) w u 0 := by
  unfold dyAll
  rw [if_pos rfl]
  exact List.mem_singleton.2 rfl

theorem l2DrawP_ok (n : Nat) (H0 h : H) (c : Nat) (L : List (Nat × Blk)) (s : CurSt H0 h c L) (hn : n ≤ 100) : AC env 78 [.ptr c 0, .int .i64 (n : Int)] h fun w h' => ∃ x : List UInt8, w = .str x ∧ x ∈ dyP n ∧ CurSt H0 h' c L := by
  refine AC.enter Try.func78 Try.call78 rfl Try.ntmps78 (of_decide_eq_true (by rfl)) ?_
  repeat' (first
    | refine AW.seq ?_
    | (refine AW.region ?_; conv => whnf)
    | refine AW.block ?_)
  refine AW.loop3 (fun (u d : Int) (w : List UInt8) => [(0, .ptr c 0), (1, .int .i64 (n : Int)), (5, .str w), (6, .int .i64 u), (7, .int .i64 d)]) (fun u d w h' => (0 ≤ d ∧ d ≤ u ∧ u ≤ n) ∧ (∀ f : Nat, (f : Int) = 2 * n - u - d → ∀ y, y ∈ dyAll (f + 1) w (n - u) (n - d) → y ∈ dyP n) ∧ w.length = u + d ∧ CurSt H0 h' c L) (fun u d _ => (2 * n - u - d).toNat) 0 0 []
    (Less.cons rfl (Less.cons rfl (Less.cons rfl (Less.cons rfl (Less.cons rfl (Less.nil _)))))) ⟨by omega, fun f hf y hy => (by
      obtain rfl : f = 2 * n := by omega
      rw [Int.sub_zero] at hy
      exact hy), by simp, s⟩ ?_
  rintro u d w h1 ⟨hd, hm, hw, hc1⟩
  clear s
  by_cases hlt : d < n
  · have upS : u < n → ∀ f : Nat, (f : Int) = 2 * n - (u + 1) - d → ∀ y, y ∈ dyAll (f + 1) (w ++ [117]) (n - (u + 1)) (n - d) → y ∈ dyP n := fun hu f hf y hy => hm (f + 1) (by omega) y (dyAll_up (by omega) (by omega) (by
      rw [show (n : Int) - u - 1 = n - (u + 1) from by omega]
      exact hy))
    have dnS : d < u → ∀ f : Nat, (f : Int) = 2 * n - u - (d + 1) → ∀ y, y ∈ dyAll (f + 1) (w ++ [100]) (n - u) (n - (d + 1)) → y ∈ dyP n := fun hu f hf y hy => hm (f + 1) (by omega) y (dyAll_down (by omega) (by omega) (by
      rw [show (n : Int) - d - 1 = n - (d + 1) from by omega]
      exact hy))
    repeat' (first
      | refine AW.seq ?_
      | (refine AW.region ?_; conv => whnf)
      | refine AW.block ?_
      | (refine AW.skip ?_; conv => whnf)
      | refine AW.cond (by rfl) ?_
      | (refine (l1Once_ok _ _ _ _ _ (by assumption)).mono ?_; rintro w h' ⟨xO, rfl, hcur⟩; conv => whnf)
      | (refine Br.tt ?_; conv => whnf)
      | (refine Br.ff ?_; conv => whnf)
      | (refine Br.dt (by omega) ?_; conv => whnf)
      | (refine Br.df (by omega) ?_; conv => whnf)
      | (refine Br.dec (fun hc => ?_) (fun hc => ?_) <;> conv => whnf)
      | (refine Br.mk (fun hc => ?_) (fun hc => ?_) <;> conv => whnf)
      | (refine Wr.i64 (by omega) ?_; conv => whnf)
      | (refine Ck.mk (by simp only [List.length_drop, List.length_take, List.length_append, List.length_cons, List.length_nil]; omega) ?_; conv => whnf))
    all_goals first
      | exact ⟨u + 1, d, _, (Less.cons rfl (Less.cons rfl (Less.cons rfl (Less.cons rfl (Less.cons rfl (Less.nil _)))))), ⟨by omega, upS (by omega), by simp only [List.length_append, List.length_cons, List.length_nil]; omega, by assumption⟩, by omega⟩
      | exact ⟨u, d + 1, _, (Less.cons rfl (Less.cons rfl (Less.cons rfl (Less.cons rfl (Less.cons rfl (Less.nil _)))))), ⟨by omega, dnS (by omega), by simp only [List.length_append, List.length_cons, List.length_nil]; omega, by assumption⟩, by omega⟩
  · obtain rfl : d = n := by omega
    obtain rfl : u = n := by omega
    repeat' (first
      | refine AW.seq ?_
      | (refine AW.region ?_; conv => whnf)
      | (refine AW.ret ?_; conv => whnf)
      | (refine AW.exit ?_; conv => whnf)
      | refine AW.cond (by rfl) ?_
      | (refine Br.df (by omega) ?_; conv => whnf))
    refine ⟨w, rfl, hm 0 (by omega) w ?_, hc1⟩
    rw [Int.sub_self]
    exact dyAll_end
theorem l2DrawI_ok (m : Int) (H0 h : H) (c : Nat) (L : List (Nat × Blk)) (s : CurSt H0 h c L) (hm : 0 ≤ m ∧ m ≤ 100) : AC env 78 [.ptr c 0, .int .i64 m] h fun w h' => ∃ x : List UInt8, w = .str x ∧ x ∈ dyP m.toNat ∧ CurSt H0 h' c L := by
  have h1 := l2DrawP_ok m.toNat H0 h c L s (by omega)
  rw [Int.toNat_of_nonneg hm.1] at h1
  exact h1

theorem l2PathP_ok (H0 h : H) (c : Nat) (L : List (Nat × Blk)) (s : CurSt H0 h c L) : AC env 60 [.ptr c 0] h fun w h' => ∃ (n : Nat) (x : List UInt8), w = .str x ∧ n ≤ 6 ∧ x ∈ dyP n ∧ CurSt H0 h' c L := by
  refine AC.enter Try.func60 Try.call60 rfl Try.ntmps60 (of_decide_eq_true (by rfl)) ?_
  repeat' (first
    | (refine (l2DrawI_ok _ _ _ _ _ (by assumption) (by omega)).mono ?_; rintro w h' ⟨x, rfl, hx, hcur⟩; conv => whnf)
    | refine AW.seq ?_
    | (refine AW.region ?_; conv => whnf)
    | (refine AW.ret ?_; conv => whnf)
    | (refine (l1Below_ok _ _ _ _ _ (by assumption)).mono ?_; rintro w h' ⟨xB, rfl, hxB, hxB2, hcur⟩; conv => whnf))
  exact ⟨_, x, rfl, by omega, hx, hcur⟩

end Go.Proofs.Ytbicfognbbeigaa
