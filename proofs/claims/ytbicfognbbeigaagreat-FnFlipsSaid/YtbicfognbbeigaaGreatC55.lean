/-
  The law of the flips of all diagonals is proved.
  It holds for all rows of rows.
-/
import Derived.Test.YtbicfognbbeigaaGreatH23
set_option linter.unusedVariables false
set_option linter.unusedSimpArgs false
namespace Go.Proofs.YtbicfognbbeigaaGreat
open Go.Proofs.YtbicfognbbeigaaGreat.Ab Go.Proofs.YtbicfognbbeigaaGreat.Pl

def nbR (n : Int) (f : List (List Int)) : List (List (List Int)) × Bool := if isTri n f = true then ((List.range f.length).map (flipR n.toNat f), true) else ([], false)
theorem nbR_succ (N : Nat) (f : List (List Int)) (i : Nat) : (List.range (i + 1)).map (flipR N f) = (List.range i).map (flipR N f) ++ [flipR N f i] := by
  rw [List.range_succ, List.map_append]
  rfl
theorem flipF_at {N : Nat} {f : List (List Int)} (h : isTri N f = true) {k : Nat} (hk : k < f.length) : flipF N f k = (flipR N f k, true) := by
  unfold flipF
  rw [if_pos ⟨h, by omega, by omega⟩, Int.toNat_natCast, Int.toNat_natCast]
theorem flipR_len {N : Nat} {f : List (List Int)} (h : isTri N f = true) {k : Nat} (hk : k < f.length) : (flipR N f k).length = f.length := by
  have a := (isTri_spec (flip_fine h hk).2).1.2
  have b := (isTri_spec h).1.2
  omega
theorem nbR_fine (n : Int) (f : List (List Int)) : (nbR n f).1.length ≤ 10 ∧ (∀ g ∈ (nbR n f).1, totL g ≤ 20 ∧ g.length ≤ 2000000) := by
  unfold nbR
  split
  · rename_i h
    obtain ⟨N, rfl⟩ := isTri_nat h
    have sz := tri_sz h
    refine ⟨by simp only [List.length_map, List.length_range]; omega, fun g hg => ?_⟩
    obtain ⟨k, hk, rfl⟩ := List.mem_map.1 hg
    have hk := List.mem_range.1 hk
    rw [Int.toNat_natCast]
    have ft := (flip_fine h hk).2
    have sz2 := tri_sz ft
    have := totL_le (m := 2) fun l hl => by have := (tri_diag ft l hl).1; omega
    exact ⟨by omega, by omega⟩
  · exact ⟨by simp, fun g hg => (nomatch hg)⟩
theorem nbR_tot (n : Int) (f : List (List Int)) : tot3 (nbR n f).1 ≤ 2000000 := by
  have := tot3_le fun g hg => ((nbR_fine n f).2 g hg).1
  have := (nbR_fine n f).1
  omega

set_option maxHeartbeats 4000000 in
theorem iNb_ok (n : Int) (R : RL) (f : List (List Int)) (b M C : Nat) (h0 : H) (hb : Grid h0 b R) (hR : rws R = f) (hM : M = f.length) (hl : M ≤ 1000000000) (hC : M ≤ C) (hn : -9223372036854775808 ≤ n ∧ n ≤ 9223372036854775807) :
    AC env 10 [.int .i64 n, .slice b 0 M C] h0 (Ret3 (nbR n f) h0) := by
  have hs := St.refl h0
  have lR : R.length = M := by rw [hM, ← hR, rws_length]
  by_cases ht : isTri n f = true
  · have e : nbR n f = ((List.range f.length).map (flipR n.toNat f), true) := if_pos ht
    obtain ⟨N, rfl⟩ := isTri_nat ht
    rw [Int.toNat_natCast] at e
    have sz := tri_sz ht
    refine AC.enter Tryz.func10 Tryz.call10 rfl Tryz.ntmps10 (of_decide_eq_true (by rfl)) ?_
    repeat' (first
      | (refine (iIsTri_ok (N : Int) R f _ _ _ _ (hb.arg (by assumption)) hR hM (by omega) hC (by omega)).mono ?_; rw [ht]; rintro v h' ⟨rfl, e'⟩; subst h'; conv => whnf)
      | refine AW.seq ?_
      | (refine AW.region ?_; conv => whnf)
      | refine AW.block ?_
      | (refine AW.skip ?_; conv => whnf)
      | refine AW.cond (by rfl) ?_
      | (refine Br.ff ?_; conv => whnf)
      | (refine NewG.st (by assumption) (fun bt h' hs' => ?_); conv => whnf))
    refine AW.loop4 (fun (i bo m : Nat) (S : RL3) => [(0, .int .i64 N), (1, .slice b 0 M C), (6, .slice bo 0 m m), (17, .int .i64 M), (18, .int .i64 i)]) (fun i bo m S h' => i ≤ M ∧ S.length = m ∧ m = i ∧ rw3 S = (List.range i).map (flipR N f) ∧ St h0 h' ((bo, row (slc3 S)) :: (blk3 S ++ []))) (fun i _ _ _ => M - i) 0 bt 0 []
      (Less.cons rfl (Less.cons rfl (Less.cons rfl (Less.cons rfl (Less.cons rfl (Less.nil _)))))) ⟨by omega, rfl, rfl, rfl, nil3 hs'⟩ ?_
    rintro i bo m S h1 ⟨hi, lS, hm, hS, hs1⟩
    clear hs' hs
    by_cases hlt : i < M
    · have hg := hb.arg hs1
      have fe := flipF_at ht (k := i) (by omega)
      have sc := nbR_succ N f i
      repeat' (first
        | (refine (iFlip_ok (N : Int) R f _ _ _ (i : Int) _ hg hR hM (by omega) hC (by omega)).mono ?_; rw [fe]; rintro v h' ⟨bF, RF, rfl, hRF, hLF, hsF⟩; have hs2 := St.callR hs1 hsF; clear hsF; conv => whnf)
        | (refine NewG.st hs2 (fun bx h3 hs3 => ?_); conv => whnf)
        | (refine AppG.st3 hs3.tail lS.symm hLF.symm (by omega) (by decide) (fun b2 h' hs4 => ?_); conv => whnf)
        | refine AW.seq ?_
        | (refine AW.region ?_; conv => whnf)
        | refine AW.block ?_
        | (refine AW.skip ?_; conv => whnf)
        | refine AW.cond (by rfl) ?_
        | (refine Br.dt (by omega) ?_; conv => whnf)
        | (refine Wr.i64 (by omega) ?_; conv => whnf)
        | (refine LoadsG.has (by first | assumption | exact St.has (by assumption) (by repeat first | exact .head _ | apply List.Mem.tail) | exact St.arg (by assumption) (by assumption)) (by simp) ?_; conv => whnf))
      exact ⟨i + 1, b2, m + 1, _, (Less.cons rfl (Less.cons rfl (Less.cons rfl (Less.cons rfl (Less.cons rfl (Less.nil _)))))), ⟨by omega, by simp [lS], by omega, by rw [rw3_append, hS, sc, ← (show rws RF = flipR N f i from hRF)]; rfl, hs4⟩, by omega⟩
    · obtain rfl : i = M := by omega
      repeat' (first
        | refine AW.seq ?_
        | (refine AW.region ?_; conv => whnf)
        | (refine AW.ret ?_; conv => whnf)
        | (refine AW.exit ?_; conv => whnf)
        | refine AW.cond (by rfl) ?_
        | (refine Br.df (by omega) ?_; conv => whnf))
      exact Ret3.mk' (by rw [e, hS, hM]) lS.symm hs1
  · have e : nbR n f = ([], false) := if_neg ht
    have ht : isTri n f = false := by simpa using ht
    refine AC.enter Tryz.func10 Tryz.call10 rfl Tryz.ntmps10 (of_decide_eq_true (by rfl)) ?_
    repeat' (first
      | (refine (iIsTri_ok n R f _ _ _ _ (hb.arg (by assumption)) hR hM (by omega) hC (by omega)).mono ?_; rw [ht]; rintro v h' ⟨rfl, e'⟩; subst h'; conv => whnf)
      | refine AW.seq ?_
      | (refine AW.region ?_; conv => whnf)
      | (refine AW.ret ?_; conv => whnf)
      | refine AW.cond (by rfl) ?_
      | (refine Br.tt ?_; conv => whnf)
      | (refine NewG.st (by assumption) (fun bt h' hs' => ?_); conv => whnf))
    all_goals exact Ret3.mk' (S := []) e rfl (nil3 hs')

set_option maxHeartbeats 4000000 in
theorem sNb_ok (n : Int) (R : RL) (f : List (List Int)) (b M C : Nat) (h0 : H) (hb : Grid h0 b R) (hR : rws R = f) (hM : M = f.length) (hl : M ≤ 1000000000) (hn : -9223372036854775808 ≤ n ∧ n ≤ 9223372036854775807) :
    AC env 24 [.int .i64 n, .slice b 0 M C] h0 (Ret3 (nbR n f) h0) := by
  have hs := St.refl h0
  have lR : R.length = M := by rw [hM, ← hR, rws_length]
  by_cases ht : isTri n f = true
  · have e : nbR n f = ((List.range f.length).map (flipR n.toNat f), true) := if_pos ht
    obtain ⟨N, rfl⟩ := isTri_nat ht
    rw [Int.toNat_natCast] at e
    have sz := tri_sz ht
    refine AC.enter Tryz.func24 Tryz.call24 rfl Tryz.ntmps24 (of_decide_eq_true (by rfl)) ?_
    repeat' (first
      | refine AW.seq ?_
      | (refine AW.region ?_; conv => whnf)
      | refine AW.block ?_
      | (refine NewG.st (by assumption) (fun bt h' hs' => ?_); conv => whnf))
    refine AW.loop4 (fun (i bo m : Nat) (S : RL3) => [(0, .int .i64 N), (1, .slice b 0 M C), (6, .slice bo 0 m m), (7, .int .i64 i)]) (fun i bo m S h' => i ≤ M ∧ S.length = m ∧ m = i ∧ rw3 S = (List.range i).map (flipR N f) ∧ St h0 h' ((bo, row (slc3 S)) :: (blk3 S ++ []))) (fun i _ _ _ => M - i) 0 bt 0 []
      (Less.cons rfl (Less.cons rfl (Less.cons rfl (Less.cons rfl (Less.nil _))))) ⟨by omega, rfl, rfl, rfl, nil3 hs'⟩ ?_
    rintro i bo m S h1 ⟨hi, lS, hm, hS, hs1⟩
    clear hs' hs
    have hg := hb.arg hs1
    by_cases hlt : i < M
    · have sc := nbR_succ N f i
      repeat' (first
        | (refine (sIsTri_ok (N : Int) R f _ _ _ _ hg hR hM (by omega) (by omega)).mono ?_; rw [ht]; rintro v h' ⟨rfl, e'⟩; subst h'; conv => whnf)
        | (refine (l21Flip_ok N R f _ _ _ i _ hg hR hM ht (by omega)).mono ?_; rintro v h' ⟨bF, RF, rfl, hRF, hLF, hsF⟩; have hs2 := St.callR hs1 hsF; clear hsF; conv => whnf)
        | (refine NewG.st hs2 (fun bx h3 hs3 => ?_); conv => whnf)
        | (refine AppG.st3 hs3.tail lS.symm hLF.symm (by omega) (by decide) (fun b2 h' hs4 => ?_); conv => whnf)
        | refine AW.seq ?_
        | (refine AW.region ?_; conv => whnf)
        | refine AW.block ?_
        | (refine AW.skip ?_; conv => whnf)
        | refine AW.cond (by rfl) ?_
        | (refine Br.tt ?_; conv => whnf)
        | (refine Br.dt (by omega) ?_; conv => whnf)
        | (refine Wr.i64 (by omega) ?_; conv => whnf)
        | (refine LoadsG.has (by first | assumption | exact St.has (by assumption) (by repeat first | exact .head _ | apply List.Mem.tail) | exact St.arg (by assumption) (by assumption)) (by simp) ?_; conv => whnf))
      exact ⟨i + 1, b2, m + 1, _, (Less.cons rfl (Less.cons rfl (Less.cons rfl (Less.cons rfl (Less.nil _))))), ⟨by omega, by simp [lS], by omega, by rw [rw3_append, hS, sc, ← (show rws RF = flipR N f i from hRF)]; rfl, hs4⟩, by omega⟩
    · obtain rfl : i = M := by omega
      repeat' (first
        | (refine (sIsTri_ok (N : Int) R f _ _ _ _ hg hR hM (by omega) (by omega)).mono ?_; rw [ht]; rintro v h' ⟨rfl, e'⟩; subst h'; conv => whnf)
        | refine AW.seq ?_
        | (refine AW.region ?_; conv => whnf)
        | (refine AW.ret ?_; conv => whnf)
        | (refine AW.exit ?_; conv => whnf)
        | refine AW.cond (by rfl) ?_
        | (refine Br.ff ?_; conv => whnf)
        | (refine Br.df (by omega) ?_; conv => whnf))
      exact Ret3.mk' (by rw [e, hS, hM]) lS.symm hs1
  · have e : nbR n f = ([], false) := if_neg ht
    have ht : isTri n f = false := by simpa using ht
    refine AC.enter Tryz.func24 Tryz.call24 rfl Tryz.ntmps24 (of_decide_eq_true (by rfl)) ?_
    repeat' (first
      | refine AW.seq ?_
      | (refine AW.region ?_; conv => whnf)
      | refine AW.block ?_
      | (refine NewG.st (by assumption) (fun bt h' hs' => ?_); conv => whnf))
    refine AW.once ?_
    by_cases hz : 0 < M
    all_goals
      repeat' (first
        | (refine (sIsTri_ok n R f _ _ _ _ (hb.arg (by assumption)) hR hM (by omega) (by omega)).mono ?_; rw [ht]; rintro v h' ⟨rfl, e'⟩; subst h'; conv => whnf)
        | refine AW.seq ?_
        | (refine AW.region ?_; conv => whnf)
        | (refine AW.ret ?_; conv => whnf)
        | (refine AW.exit ?_; conv => whnf)
        | refine AW.cond (by rfl) ?_
        | (refine Br.ff ?_; conv => whnf)
        | (refine Br.dt (by omega) ?_; conv => whnf)
        | (refine Br.df (by omega) ?_; conv => whnf))
      exact Ret3.mk' (S := []) e rfl (nil3 hs')


end Go.Proofs.YtbicfognbbeigaaGreat
