/-
  The law of the flips of all diagonals is proved.
  It holds for all rows of rows.
-/
import Derived.Test.YtcepogfmajlcjaaC54
set_option linter.unusedVariables false
set_option linter.unusedSimpArgs false
namespace Go.Proofs.Ytcepogfmajlcjaa
open Go.Proofs.Ytcepogfmajlcjaa.Ab Go.Proofs.Ytcepogfmajlcjaa.Pl

def nbR (n : Int) (f : List (List Int)) : List (List (List Int)) × Bool := if isTri n f = true then ((List.range f.length).map (flipR n.toNat f), true) else ([], false)
theorem nbR_succ (N : Nat) (f : List (List Int)) (i : Nat) : (List.range (i + 1)).map (flipR N f) = (List.range i).map (flipR N f) ++ [flipR N f i] := by
  rw [List.range_succ, List.map_append]
  rfl
theorem flipF_at {N : Nat} {f : List (List Int)} (h : isTri N f = true) {k : Nat} (hk : k < f.length) : flipF N f k = (flipR N f k, true) := by
  unfold flipF
  rw [if_pos ⟨h, by omega, by omega⟩, Int.toNat_natCast, Int.toNat_natCast]
theorem flipR_len {N : Nat} {f : List (List Int)} (h : isTri N f = true) {k : Nat} (hk : k < f.length) : (flipR N f k).length = f.length := by
  have a := (isTri_spec (flip_fine h hk).2).1.2
  have b := (isTri_spec h).1.2
  omega
theorem nbR_fine (n : Int) (f : List (List Int)) : (nbR n f).1.length ≤ 10 ∧ (∀ g ∈ (nbR n f).1, totL g ≤ 20 ∧ g.length ≤ 2000000) := by
  unfold nbR
  split
  · rename_i h
    obtain ⟨N, rfl⟩ := isTri_nat h
    have sz := tri_sz h
    refine ⟨by simp only [List.length_map, List.length_range]; omega, fun g hg => ?_⟩
    obtain ⟨k, hk, rfl⟩ := List.mem_map.1 hg
    have hk := List.mem_range.1 hk
    rw [Int.toNat_natCast]
    have ft := (flip_fine h hk).2
    have sz2 := tri_sz ft
    have := totL_le (m := 2) fun l hl => by have := (tri_diag ft l hl).1; omega
    exact ⟨by omega, by omega⟩
  · exact ⟨by simp, fun g hg => (nomatch hg)⟩
theorem nbR_tot (n : Int) (f : List (List Int)) : tot3 (nbR n f).1 ≤ 2000000 := by
  have := tot3_le fun g hg => ((nbR_fine n f).2 g hg).1
  have := (nbR_fine n f).1
  omega

set_option maxHeartbeats 4000000 in
theorem iNb_ok (n : Int) (R : RL) (f : List (List Int)) (b M C : Nat) (h0 : H) (hb : Grid h0 b R) (hR : rws R = f) (hM : M = f.length) (hl : M ≤ 1000000000) (hC : M ≤ C) (hn : -9223372036854775808 ≤ n ∧ n ≤ 9223372036854775807) :
    AC env 43 [.int .i64 n, .slice b 0 M C] h0 (Ret3 (nbR n f) h0) := by
  have hs := St.refl h0
  have lR : R.length = M := by rw [hM, ← hR, rws_length]
  by_cases ht : isTri n f = true
  · have e : nbR n f = ((List.range f.length).map (flipR n.toNat f), true) := if_pos ht
    obtain ⟨N, rfl⟩ := isTri_nat ht
    rw [Int.toNat_natCast] at e
    have sz := tri_sz ht
    refine AC.enter Try.func43 Try.call43 rfl Try.ntmps43 (of_decide_eq_true (by rfl)) ?_
    repeat' (first
      | (refine (iIsTri_ok (N : Int) R f _ _ _ _ (hb.arg (by assumption)) hR hM (by omega) hC (by omega)).mono ?_; rw [ht]; rintro v h' ⟨rfl, e'⟩; subst h'; conv => whnf)
      | refine AW.seq ?_
      | (refine AW.region ?_; conv => whnf)
      | refine AW.block ?_
      | (refine AW.skip ?_; conv => whnf)
      | (refine AW.ret ?_; conv => whnf)
      | (refine AW.exit ?_; conv => whnf)
      | refine AW.cond (by rfl) ?_
      | (refine (iIsTri_ok _ _ _ _ _ _ _ (St.gridAt (by assumption) (by repeat first | exact RSpot.here | apply RSpot.there | apply RSpot.app)) (by assumption) (by first | rfl | omega) (by omega) (by omega) (by omega)).mono ?_; rintro v h' ⟨rfl, e'⟩; subst h'; conv => whnf)
      | (refine (iFlip_ok _ _ _ _ _ _ _ _ (St.gridAt (by assumption) (by repeat first | exact RSpot.here | apply RSpot.there | apply RSpot.app)) (by assumption) (by first | rfl | omega) (by omega) (by omega) (by omega)).mono ?_; rintro v h' ⟨bF, RF, rfl, hRF, hLF, hsF⟩; have hs' := St.callR (by assumption) hsF; clear hsF; conv => whnf)
      | (refine Br.tt ?_; conv => whnf)
      | (refine Br.ff ?_; conv => whnf)
      | refine Br.not ?_
      | (refine Br.t (beq_self_eq_true _) ?_; conv => whnf)
      | (refine Br.t (by assumption) ?_; conv => whnf)
      | (refine Br.f (by assumption) ?_; conv => whnf)
      | (refine Br.dt (by omega) ?_; conv => whnf)
      | (refine Br.df (by omega) ?_; conv => whnf)
      | (refine Br.it (by omega) ?_; conv => whnf)
      | (refine Br.if (by omega) ?_; conv => whnf)
      | (refine Br.nt (by omega) ?_; conv => whnf)
      | (refine Br.nf (by omega) ?_; conv => whnf)
      | (refine Br.dec (fun hc => ?_) (fun hc => ?_) <;> conv => whnf)
      | (refine Br.ieq (fun hc => ?_) (fun hc => ?_) <;> conv => whnf)
      | (refine Br.ine (fun hc => ?_) (fun hc => ?_) <;> conv => whnf)
      | (refine Br.mk (fun hc => ?_) (fun hc => ?_) <;> conv => whnf)
      | (refine Wr.i64 (by omega) ?_; conv => whnf)
      | (refine Ck.mk (by omega) ?_; conv => whnf)
      | (refine Wr.i64 (by simp only [List.length_drop, List.length_take, List.length_append, List.length_cons, List.length_nil]; omega) ?_; conv => whnf)
      | (refine Ck.mk (by simp only [List.length_drop, List.length_take, List.length_append, List.length_cons, List.length_nil]; omega) ?_; conv => whnf)
      | (refine NewG.st (by assumption) (fun bt h' hs' => ?_); conv => whnf)
      | (refine LoadsG.has (by first | assumption | exact St.has (by assumption) (by repeat first | exact .head _ | apply List.Mem.tail) | exact St.arg (by assumption) (by assumption)) (by simp) ?_; conv => whnf)
      | (refine Ck.mk (by simp; omega) ?_; conv => whnf))
    refine AW.loop4 (fun (i bo m : Nat) (S : RL3) => [(0, .int .i64 N), (1, .slice b 0 M C), (6, .slice bo 0 m m), (17, .int .i64 M), (18, .int .i64 i)]) (fun i bo m S h' => i ≤ M ∧ S.length = m ∧ m = i ∧ rw3 S = (List.range i).map (flipR N f) ∧ St h0 h' ((bo, row (slc3 S)) :: (blk3 S ++ []))) (fun i _ _ _ => M - i) 0 bt 0 []
      (Less.cons rfl (Less.cons rfl (Less.cons rfl (Less.cons rfl (Less.cons rfl (Less.nil _)))))) ⟨by omega, rfl, rfl, rfl, nil3 hs'⟩ ?_
    rintro i bo m S h1 ⟨hi, lS, hm, hS, hs1⟩
    clear hs' hs
    by_cases hlt : i < M
    · have hg := hb.arg hs1
      have fe := flipF_at ht (k := i) (by omega)
      have sc := nbR_succ N f i
      repeat' (first
        | (refine (iFlip_ok (N : Int) R f _ _ _ (i : Int) _ hg hR hM (by omega) hC (by omega)).mono ?_; rw [fe]; rintro v h' ⟨bF, RF, rfl, hRF, hLF, hsF⟩; have hs2 := St.callR hs1 hsF; clear hsF; conv => whnf)
        | (refine NewG.st hs2 (fun bx h3 hs3 => ?_); conv => whnf)
        | (refine AppG.st3 hs3.tail lS.symm hLF.symm (by omega) (by decide) (fun b2 h' hs4 => ?_); conv => whnf)
        | refine AW.seq ?_
        | (refine AW.region ?_; conv => whnf)
        | refine AW.block ?_
        | (refine AW.skip ?_; conv => whnf)
        | (refine AW.ret ?_; conv => whnf)
        | (refine AW.exit ?_; conv => whnf)
        | refine AW.cond (by rfl) ?_
        | (refine (iIsTri_ok _ _ _ _ _ _ _ (St.gridAt (by assumption) (by repeat first | exact RSpot.here | apply RSpot.there | apply RSpot.app)) (by assumption) (by first | rfl | omega) (by omega) (by omega) (by omega)).mono ?_; rintro v h' ⟨rfl, e'⟩; subst h'; conv => whnf)
        | (refine (iFlip_ok _ _ _ _ _ _ _ _ (St.gridAt (by assumption) (by repeat first | exact RSpot.here | apply RSpot.there | apply RSpot.app)) (by assumption) (by first | rfl | omega) (by omega) (by omega) (by omega)).mono ?_; rintro v h' ⟨bF, RF, rfl, hRF, hLF, hsF⟩; have hs' := St.callR (by assumption) hsF; clear hsF; conv => whnf)
        | (refine Br.tt ?_; conv => whnf)
        | (refine Br.ff ?_; conv => whnf)
        | refine Br.not ?_
        | (refine Br.t (beq_self_eq_true _) ?_; conv => whnf)
        | (refine Br.t (by assumption) ?_; conv => whnf)
        | (refine Br.f (by assumption) ?_; conv => whnf)
        | (refine Br.dt (by omega) ?_; conv => whnf)
        | (refine Br.df (by omega) ?_; conv => whnf)
        | (refine Br.it (by omega) ?_; conv => whnf)
        | (refine Br.if (by omega) ?_; conv => whnf)
        | (refine Br.nt (by omega) ?_; conv => whnf)
        | (refine Br.nf (by omega) ?_; conv => whnf)
        | (refine Br.dec (fun hc => ?_) (fun hc => ?_) <;> conv => whnf)
        | (refine Br.ieq (fun hc => ?_) (fun hc => ?_) <;> conv => whnf)
        | (refine Br.ine (fun hc => ?_) (fun hc => ?_) <;> conv => whnf)
        | (refine Br.mk (fun hc => ?_) (fun hc => ?_) <;> conv => whnf)
        | (refine Wr.i64 (by omega) ?_; conv => whnf)
        | (refine Ck.mk (by omega) ?_; conv => whnf)
        | (refine Wr.i64 (by simp only [List.length_drop, List.length_take, List.length_append, List.length_cons, List.length_nil]; omega) ?_; conv => whnf)
        | (refine Ck.mk (by simp only [List.length_drop, List.length_take, List.length_append, List.length_cons, List.length_nil]; omega) ?_; conv => whnf)
        | (refine NewG.st (by assumption) (fun bt h' hs' => ?_); conv => whnf)
        | (refine LoadsG.has (by first | assumption | exact St.has (by assumption) (by repeat first | exact .head _ | apply List.Mem.tail) | exact St.arg (by assumption) (by assumption)) (by simp) ?_; conv => whnf)
        | (refine Ck.mk (by simp; omega) ?_; conv => whnf))
      exact ⟨i + 1, b2, m + 1, _, (Less.cons rfl (Less.cons rfl (Less.cons rfl (Less.cons rfl (Less.cons rfl (Less.nil _)))))), ⟨by omega, by simp [lS], by omega, by rw [rw3_append, hS, sc, ← (show rws RF = flipR N f i from hRF)]; rfl, hs4⟩, by omega⟩
    · obtain rfl : i = M := by omega
      repeat' (first
        | refine AW.seq ?_
        | (refine AW.region ?_; conv => whnf)
        | refine AW.block ?_
        | (refine AW.skip ?_; conv => whnf)
        | (refine AW.ret ?_; conv => whnf)
        | (refine AW.exit ?_; conv => whnf)
        | refine AW.cond (by rfl) ?_
        | (refine (iIsTri_ok _ _ _ _ _ _ _ (St.gridAt (by assumption) (by repeat first | exact RSpot.here | apply RSpot.there | apply RSpot.app)) (by assumption) (by first | rfl | omega) (by omega) (by omega) (by omega)).mono ?_; rintro v h' ⟨rfl, e'⟩; subst h'; conv => whnf)
        | (refine (iFlip_ok _ _ _ _ _ _ _ _ (St.gridAt (by assumption) (by repeat first | exact RSpot.here | apply RSpot.there | apply RSpot.app)) (by assumption) (by first | rfl | omega) (by omega) (by omega) (by omega)).mono ?_; rintro v h' ⟨bF, RF, rfl, hRF, hLF, hsF⟩; have hs' := St.callR (by assumption) hsF; clear hsF; conv => whnf)
        | (refine Br.tt ?_; conv => whnf)
        | (refine Br.ff ?_; conv => whnf)
        | refine Br.not ?_
        | (refine Br.t (beq_self_eq_true _) ?_; conv => whnf)
        | (refine Br.t (by assumption) ?_; conv => whnf)
        | (refine Br.f (by assumption) ?_; conv => whnf)
        | (refine Br.dt (by omega) ?_; conv => whnf)
        | (refine Br.df (by omega) ?_; conv => whnf)
        | (refine Br.it (by omega) ?_; conv => whnf)
        | (refine Br.if (by omega) ?_; conv => whnf)
        | (refine Br.nt (by omega) ?_; conv => whnf)
        | (refine Br.nf (by omega) ?_; conv => whnf)
        | (refine Br.dec (fun hc => ?_) (fun hc => ?_) <;> conv => whnf)
        | (refine Br.ieq (fun hc => ?_) (fun hc => ?_) <;> conv => whnf)
        | (refine Br.ine (fun hc => ?_) (fun hc => ?_) <;> conv => whnf)
        | (refine Br.mk (fun hc => ?_) (fun hc => ?_) <;> conv => whnf)
        | (refine Wr.i64 (by omega) ?_; conv => whnf)
        | (refine Ck.mk (by omega) ?_; conv => whnf)
        | (refine Wr.i64 (by simp only [List.length_drop, List.length_take, List.length_append, List.length_cons, List.length_nil]; omega) ?_; conv => whnf)
        | (refine Ck.mk (by simp only [List.length_drop, List.length_take, List.length_append, List.length_cons, List.length_nil]; omega) ?_; conv => whnf)
        | (refine NewG.st (by assumption) (fun bt h' hs' => ?_); conv => whnf)
        | (refine LoadsG.has (by first | assumption | exact St.has (by assumption) (by repeat first | exact .head _ | apply List.Mem.tail) | exact St.arg (by assumption) (by assumption)) (by simp) ?_; conv => whnf)
        | (refine Ck.mk (by simp; omega) ?_; conv => whnf))
      exact Ret3.mk' (by rw [e, hS, hM]) lS.symm hs1
  · have e : nbR n f = ([], false) := if_neg ht
    have ht : isTri n f = false := by simpa using ht
    refine AC.enter Try.func43 Try.call43 rfl Try.ntmps43 (of_decide_eq_true (by rfl)) ?_
    repeat' (first
      | (refine (iIsTri_ok n R f _ _ _ _ (hb.arg (by assumption)) hR hM (by omega) hC (by omega)).mono ?_; rw [ht]; rintro v h' ⟨rfl, e'⟩; subst h'; conv => whnf)
      | refine AW.seq ?_
      | (refine AW.region ?_; conv => whnf)
      | refine AW.block ?_
      | (refine AW.skip ?_; conv => whnf)
      | (refine AW.ret ?_; conv => whnf)
      | (refine AW.exit ?_; conv => whnf)
      | refine AW.cond (by rfl) ?_
      | (refine (iIsTri_ok _ _ _ _ _ _ _ (St.gridAt (by assumption) (by repeat first | exact RSpot.here | apply RSpot.there | apply RSpot.app)) (by assumption) (by first | rfl | omega) (by omega) (by omega) (by omega)).mono ?_; rintro v h' ⟨rfl, e'⟩; subst h'; conv => whnf)
      | (refine (iFlip_ok _ _ _ _ _ _ _ _ (St.gridAt (by assumption) (by repeat first | exact RSpot.here | apply RSpot.there | apply RSpot.app)) (by assumption) (by first | rfl | omega) (by omega) (by omega) (by omega)).mono ?_; rintro v h' ⟨bF, RF, rfl, hRF, hLF, hsF⟩; have hs' := St.callR (by assumption) hsF; clear hsF; conv => whnf)
      | (refine Br.tt ?_; conv => whnf)
      | (refine Br.ff ?_; conv => whnf)
      | refine Br.not ?_
      | (refine Br.t (beq_self_eq_true _) ?_; conv => whnf)
      | (refine Br.t (by assumption) ?_; conv => whnf)
      | (refine Br.f (by assumption) ?_; conv => whnf)
      | (refine Br.dt (by omega) ?_; conv => whnf)
      | (refine Br.df (by omega) ?_; conv => whnf)
      | (refine Br.it (by omega) ?_; conv => whnf)
      | (refine Br.if (by omega) ?_; conv => whnf)
      | (refine Br.nt (by omega) ?_; conv => whnf)
      | (refine Br.nf (by omega) ?_; conv => whnf)
      | (refine Br.dec (fun hc => ?_) (fun hc => ?_) <;> conv => whnf)
      | (refine Br.ieq (fun hc => ?_) (fun hc => ?_) <;> conv => whnf)
      | (refine Br.ine (fun hc => ?_) (fun hc => ?_) <;> conv => whnf)
      | (refine Br.mk (fun hc => ?_) (fun hc => ?_) <;> conv => whnf)
      | (refine Wr.i64 (by omega) ?_; conv => whnf)
      | (refine Ck.mk (by omega) ?_; conv => whnf)
      | (refine Wr.i64 (by simp only [List.length_drop, List.length_take, List.length_append, List.length_cons, List.length_nil]; omega) ?_; conv => whnf)
      | (refine Ck.mk (by simp only [List.length_drop, List.length_take, List.length_append, List.length_cons, List.length_nil]; omega) ?_; conv => whnf)
      | (refine NewG.st (by assumption) (fun bt h' hs' => ?_); conv => whnf)
      | (refine LoadsG.has (by first | assumption | exact St.has (by assumption) (by repeat first | exact .head _ | apply List.Mem.tail) | exact St.arg (by assumption) (by assumption)) (by simp) ?_; conv => whnf)
      | (refine Ck.mk (by simp; omega) ?_; conv => whnf))
    all_goals exact Ret3.mk' (S := []) e rfl (nil3 hs')

set_option maxHeartbeats 4000000 in
theorem sNb_ok (n : Int) (R : RL) (f : List (List Int)) (b M C : Nat) (h0 : H) (hb : Grid h0 b R) (hR : rws R = f) (hM : M = f.length) (hl : M ≤ 1000000000) (hn : -9223372036854775808 ≤ n ∧ n ≤ 9223372036854775807) :
    AC env 42 [.int .i64 n, .slice b 0 M C] h0 (Ret3 (nbR n f) h0) := by
  have hs := St.refl h0
  have lR : R.length = M := by rw [hM, ← hR, rws_length]
  by_cases ht : isTri n f = true
  · have e : nbR n f = ((List.range f.length).map (flipR n.toNat f), true) := if_pos ht
    obtain ⟨N, rfl⟩ := isTri_nat ht
    rw [Int.toNat_natCast] at e
    have sz := tri_sz ht
    refine AC.enter Try.func42 Try.call42 rfl Try.ntmps42 (of_decide_eq_true (by rfl)) ?_
    repeat' (first
      | refine AW.seq ?_
      | (refine AW.region ?_; conv => whnf)
      | refine AW.block ?_
      | (refine AW.skip ?_; conv => whnf)
      | (refine AW.ret ?_; conv => whnf)
      | (refine AW.exit ?_; conv => whnf)
      | refine AW.cond (by rfl) ?_
      | (refine (sIsTri_ok _ _ _ _ _ _ _ (St.gridAt (by assumption) (by repeat first | exact RSpot.here | apply RSpot.there | apply RSpot.app)) (by assumption) (by first | rfl | omega) (by omega) (by omega)).mono ?_; rintro v h' ⟨rfl, e'⟩; subst h'; conv => whnf)
      | (refine Br.tt ?_; conv => whnf)
      | (refine Br.ff ?_; conv => whnf)
      | refine Br.not ?_
      | (refine Br.t (beq_self_eq_true _) ?_; conv => whnf)
      | (refine Br.t (by assumption) ?_; conv => whnf)
      | (refine Br.f (by assumption) ?_; conv => whnf)
      | (refine Br.dt (by omega) ?_; conv => whnf)
      | (refine Br.df (by omega) ?_; conv => whnf)
      | (refine Br.it (by omega) ?_; conv => whnf)
      | (refine Br.if (by omega) ?_; conv => whnf)
      | (refine Br.nt (by omega) ?_; conv => whnf)
      | (refine Br.nf (by omega) ?_; conv => whnf)
      | (refine Br.dec (fun hc => ?_) (fun hc => ?_) <;> conv => whnf)
      | (refine Br.ieq (fun hc => ?_) (fun hc => ?_) <;> conv => whnf)
      | (refine Br.ine (fun hc => ?_) (fun hc => ?_) <;> conv => whnf)
      | (refine Br.mk (fun hc => ?_) (fun hc => ?_) <;> conv => whnf)
      | (refine Wr.i64 (by omega) ?_; conv => whnf)
      | (refine Ck.mk (by omega) ?_; conv => whnf)
      | (refine Wr.i64 (by simp only [List.length_drop, List.length_take, List.length_append, List.length_cons, List.length_nil]; omega) ?_; conv => whnf)
      | (refine Ck.mk (by simp only [List.length_drop, List.length_take, List.length_append, List.length_cons, List.length_nil]; omega) ?_; conv => whnf)
      | (refine NewG.st (by assumption) (fun bt h' hs' => ?_); conv => whnf)
      | (refine LoadsG.has (by first | assumption | exact St.has (by assumption) (by repeat first | exact .head _ | apply List.Mem.tail) | exact St.arg (by assumption) (by assumption)) (by simp) ?_; conv => whnf)
      | (refine Ck.mk (by simp; omega) ?_; conv => whnf))
    refine AW.loop4 (fun (i bo m : Nat) (S : RL3) => [(0, .int .i64 N), (1, .slice b 0 M C), (6, .slice bo 0 m m), (7, .int .i64 i)]) (fun i bo m S h' => i ≤ M ∧ S.length = m ∧ m = i ∧ rw3 S = (List.range i).map (flipR N f) ∧ St h0 h' ((bo, row (slc3 S)) :: (blk3 S ++ []))) (fun i _ _ _ => M - i) 0 bt 0 []
      (Less.cons rfl (Less.cons rfl (Less.cons rfl (Less.cons rfl (Less.nil _))))) ⟨by omega, rfl, rfl, rfl, nil3 hs'⟩ ?_
    rintro i bo m S h1 ⟨hi, lS, hm, hS, hs1⟩
    clear hs' hs
    have hg := hb.arg hs1
    by_cases hlt : i < M
    · have sc := nbR_succ N f i
      repeat' (first
        | (refine (sIsTri_ok (N : Int) R f _ _ _ _ hg hR hM (by omega) (by omega)).mono ?_; rw [ht]; rintro v h' ⟨rfl, e'⟩; subst h'; conv => whnf)
        | (refine (l21Flip_ok N R f _ _ _ i _ hg hR hM ht (by omega)).mono ?_; rintro v h' ⟨bF, RF, rfl, hRF, hLF, hsF⟩; have hs2 := St.callR hs1 hsF; clear hsF; conv => whnf)
        | (refine NewG.st hs2 (fun bx h3 hs3 => ?_); conv => whnf)
        | (refine AppG.st3 hs3.tail lS.symm hLF.symm (by omega) (by decide) (fun b2 h' hs4 => ?_); conv => whnf)
        | refine AW.seq ?_
        | (refine AW.region ?_; conv => whnf)
        | refine AW.block ?_
        | (refine AW.skip ?_; conv => whnf)
        | (refine AW.ret ?_; conv => whnf)
        | (refine AW.exit ?_; conv => whnf)
        | refine AW.cond (by rfl) ?_
        | (refine (sIsTri_ok _ _ _ _ _ _ _ (St.gridAt (by assumption) (by repeat first | exact RSpot.here | apply RSpot.there | apply RSpot.app)) (by assumption) (by first | rfl | omega) (by omega) (by omega)).mono ?_; rintro v h' ⟨rfl, e'⟩; subst h'; conv => whnf)
        | (refine Br.tt ?_; conv => whnf)
        | (refine Br.ff ?_; conv => whnf)
        | refine Br.not ?_
        | (refine Br.t (beq_self_eq_true _) ?_; conv => whnf)
        | (refine Br.t (by assumption) ?_; conv => whnf)
        | (refine Br.f (by assumption) ?_; conv => whnf)
        | (refine Br.dt (by omega) ?_; conv => whnf)
        | (refine Br.df (by omega) ?_; conv => whnf)
        | (refine Br.it (by omega) ?_; conv => whnf)
        | (refine Br.if (by omega) ?_; conv => whnf)
        | (refine Br.nt (by omega) ?_; conv => whnf)
        | (refine Br.nf (by omega) ?_; conv => whnf)
        | (refine Br.dec (fun hc => ?_) (fun hc => ?_) <;> conv => whnf)
        | (refine Br.ieq (fun hc => ?_) (fun hc => ?_) <;> conv => whnf)
        | (refine Br.ine (fun hc => ?_) (fun hc => ?_) <;> conv => whnf)
        | (refine Br.mk (fun hc => ?_) (fun hc => ?_) <;> conv => whnf)
        | (refine Wr.i64 (by omega) ?_; conv => whnf)
        | (refine Ck.mk (by omega) ?_; conv => whnf)
        | (refine Wr.i64 (by simp only [List.length_drop, List.length_take, List.length_append, List.length_cons, List.length_nil]; omega) ?_; conv => whnf)
        | (refine Ck.mk (by simp only [List.length_drop, List.length_take, List.length_append, List.length_cons, List.length_nil]; omega) ?_; conv => whnf)
        | (refine NewG.st (by assumption) (fun bt h' hs' => ?_); conv => whnf)
        | (refine LoadsG.has (by first | assumption | exact St.has (by assumption) (by repeat first | exact .head _ | apply List.Mem.tail) | exact St.arg (by assumption) (by assumption)) (by simp) ?_; conv => whnf)
        | (refine Ck.mk (by simp; omega) ?_; conv => whnf))
      exact ⟨i + 1, b2, m + 1, _, (Less.cons rfl (Less.cons rfl (Less.cons rfl (Less.cons rfl (Less.nil _))))), ⟨by omega, by simp [lS], by omega, by rw [rw3_append, hS, sc, ← (show rws RF = flipR N f i from hRF)]; rfl, hs4⟩, by omega⟩
    · obtain rfl : i = M := by omega
      repeat' (first
        | (refine (sIsTri_ok (N : Int) R f _ _ _ _ hg hR hM (by omega) (by omega)).mono ?_; rw [ht]; rintro v h' ⟨rfl, e'⟩; subst h'; conv => whnf)
        | refine AW.seq ?_
        | (refine AW.region ?_; conv => whnf)
        | refine AW.block ?_
        | (refine AW.skip ?_; conv => whnf)
        | (refine AW.ret ?_; conv => whnf)
        | (refine AW.exit ?_; conv => whnf)
        | refine AW.cond (by rfl) ?_
        | (refine (sIsTri_ok _ _ _ _ _ _ _ (St.gridAt (by assumption) (by repeat first | exact RSpot.here | apply RSpot.there | apply RSpot.app)) (by assumption) (by first | rfl | omega) (by omega) (by omega)).mono ?_; rintro v h' ⟨rfl, e'⟩; subst h'; conv => whnf)
        | (refine Br.tt ?_; conv => whnf)
        | (refine Br.ff ?_; conv => whnf)
        | refine Br.not ?_
        | (refine Br.t (beq_self_eq_true _) ?_; conv => whnf)
        | (refine Br.t (by assumption) ?_; conv => whnf)
        | (refine Br.f (by assumption) ?_; conv => whnf)
        | (refine Br.dt (by omega) ?_; conv => whnf)
        | (refine Br.df (by omega) ?_; conv => whnf)
        | (refine Br.it (by omega) ?_; conv => whnf)
        | (refine Br.if (by omega) ?_; conv => whnf)
        | (refine Br.nt (by omega) ?_; conv => whnf)
        | (refine Br.nf (by omega) ?_; conv => whnf)
        | (refine Br.dec (fun hc => ?_) (fun hc => ?_) <;> conv => whnf)
        | (refine Br.ieq (fun hc => ?_) (fun hc => ?_) <;> conv => whnf)
        | (refine Br.ine (fun hc => ?_) (fun hc => ?_) <;> conv => whnf)
        | (refine Br.mk (fun hc => ?_) (fun hc => ?_) <;> conv => whnf)
        | (refine Wr.i64 (by omega) ?_; conv => whnf)
        | (refine Ck.mk (by omega) ?_; conv => whnf)
        | (refine Wr.i64 (by simp only [List.length_drop, List.length_take, List.length_append, List.length_cons, List.length_nil]; omega) ?_; conv => whnf)
        | (refine Ck.mk (by simp only [List.length_drop, List.length_take, List.length_append, List.length_cons, List.length_nil]; omega) ?_; conv => whnf)
        | (refine NewG.st (by assumption) (fun bt h' hs' => ?_); conv => whnf)
        | (refine LoadsG.has (by first | assumption | exact St.has (by assumption) (by repeat first | exact .head _ | apply List.Mem.tail) | exact St.arg (by assumption) (by assumption)) (by simp) ?_; conv => whnf)
        | (refine Ck.mk (by simp; omega) ?_; conv => whnf))
      exact Ret3.mk' (by rw [e, hS, hM]) lS.symm hs1
  · have e : nbR n f = ([], false) := if_neg ht
    have ht : isTri n f = false := by simpa using ht
    refine AC.enter Try.func42 Try.call42 rfl Try.ntmps42 (of_decide_eq_true (by rfl)) ?_
    repeat' (first
      | refine AW.seq ?_
      | (refine AW.region ?_; conv => whnf)
      | refine AW.block ?_
      | (refine AW.skip ?_; conv => whnf)
      | (refine AW.ret ?_; conv => whnf)
      | (refine AW.exit ?_; conv => whnf)
      | refine AW.cond (by rfl) ?_
      | (refine (sIsTri_ok _ _ _ _ _ _ _ (St.gridAt (by assumption) (by repeat first | exact RSpot.here | apply RSpot.there | apply RSpot.app)) (by assumption) (by first | rfl | omega) (by omega) (by omega)).mono ?_; rintro v h' ⟨rfl, e'⟩; subst h'; conv => whnf)
      | (refine Br.tt ?_; conv => whnf)
      | (refine Br.ff ?_; conv => whnf)
      | refine Br.not ?_
      | (refine Br.t (beq_self_eq_true _) ?_; conv => whnf)
      | (refine Br.t (by assumption) ?_; conv => whnf)
      | (refine Br.f (by assumption) ?_; conv => whnf)
      | (refine Br.dt (by omega) ?_; conv => whnf)
      | (refine Br.df (by omega) ?_; conv => whnf)
      | (refine Br.it (by omega) ?_; conv => whnf)
      | (refine Br.if (by omega) ?_; conv => whnf)
      | (refine Br.nt (by omega) ?_; conv => whnf)
      | (refine Br.nf (by omega) ?_; conv => whnf)
      | (refine Br.dec (fun hc => ?_) (fun hc => ?_) <;> conv => whnf)
      | (refine Br.ieq (fun hc => ?_) (fun hc => ?_) <;> conv => whnf)
      | (refine Br.ine (fun hc => ?_) (fun hc => ?_) <;> conv => whnf)
      | (refine Br.mk (fun hc => ?_) (fun hc => ?_) <;> conv => whnf)
      | (refine Wr.i64 (by omega) ?_; conv => whnf)
      | (refine Ck.mk (by omega) ?_; conv => whnf)
      | (refine Wr.i64 (by simp only [List.length_drop, List.length_take, List.length_append, List.length_cons, List.length_nil]; omega) ?_; conv => whnf)
      | (refine Ck.mk (by simp only [List.length_drop, List.length_take, List.length_append, List.length_cons, List.length_nil]; omega) ?_; conv => whnf)
      | (refine NewG.st (by assumption) (fun bt h' hs' => ?_); conv => whnf)
      | (refine LoadsG.has (by first | assumption | exact St.has (by assumption) (by repeat first | exact .head _ | apply List.Mem.tail) | exact St.arg (by assumption) (by assumption)) (by simp) ?_; conv => whnf)
      | (refine Ck.mk (by simp; omega) ?_; conv => whnf))
    refine AW.once ?_
    by_cases hz : 0 < M
    all_goals
      repeat' (first
        | (refine (sIsTri_ok n R f _ _ _ _ (hb.arg (by assumption)) hR hM (by omega) (by omega)).mono ?_; rw [ht]; rintro v h' ⟨rfl, e'⟩; subst h'; conv => whnf)
        | refine AW.seq ?_
        | (refine AW.region ?_; conv => whnf)
        | refine AW.block ?_
        | (refine AW.skip ?_; conv => whnf)
        | (refine AW.ret ?_; conv => whnf)
        | (refine AW.exit ?_; conv => whnf)
        | refine AW.cond (by rfl) ?_
        | (refine (sIsTri_ok _ _ _ _ _ _ _ (St.gridAt (by assumption) (by repeat first | exact RSpot.here | apply RSpot.there | apply RSpot.app)) (by assumption) (by first | rfl | omega) (by omega) (by omega)).mono ?_; rintro v h' ⟨rfl, e'⟩; subst h'; conv => whnf)
        | (refine Br.tt ?_; conv => whnf)
        | (refine Br.ff ?_; conv => whnf)
        | refine Br.not ?_
        | (refine Br.t (beq_self_eq_true _) ?_; conv => whnf)
        | (refine Br.t (by assumption) ?_; conv => whnf)
        | (refine Br.f (by assumption) ?_; conv => whnf)
        | (refine Br.dt (by omega) ?_; conv => whnf)
        | (refine Br.df (by omega) ?_; conv => whnf)
        | (refine Br.it (by omega) ?_; conv => whnf)
        | (refine Br.if (by omega) ?_; conv => whnf)
        | (refine Br.nt (by omega) ?_; conv => whnf)
        | (refine Br.nf (by omega) ?_; conv => whnf)
        | (refine Br.dec (fun hc => ?_) (fun hc => ?_) <;> conv => whnf)
        | (refine Br.ieq (fun hc => ?_) (fun hc => ?_) <;> conv => whnf)
        | (refine Br.ine (fun hc => ?_) (fun hc => ?_) <;> conv => whnf)
        | (refine Br.mk (fun hc => ?_) (fun hc => ?_) <;> conv => whnf)
        | (refine Wr.i64 (by omega) ?_; conv => whnf)
        | (refine Ck.mk (by omega) ?_; conv => whnf)
        | (refine Wr.i64 (by simp only [List.length_drop, List.length_take, List.length_append, List.length_cons, List.length_nil]; omega) ?_; conv => whnf)
        | (refine Ck.mk (by simp only [List.length_drop, List.length_take, List.length_append, List.length_cons, List.length_nil]; omega) ?_; conv => whnf)
        | (refine NewG.st (by assumption) (fun bt h' hs' => ?_); conv => whnf)
        | (refine LoadsG.has (by first | assumption | exact St.has (by assumption) (by repeat first | exact .head _ | apply List.Mem.tail) | exact St.arg (by assumption) (by assumption)) (by simp) ?_; conv => whnf)
        | (refine Ck.mk (by simp; omega) ?_; conv => whnf))
      exact Ret3.mk' (S := []) e rfl (nil3 hs')

set_option maxHeartbeats 4000000 in
theorem lawNb_ok {h : H} (n : Int) (v : AV) (hn : -9223372036854775808 ≤ n ∧ n ≤ 9223372036854775807) (m : RowsArg h v) : AC env 12 [.int .i64 n, v] h fun v _ => v = .bool true := by
  have hs := St.refl h
  obtain ⟨ls, hbd, hl, hv, e1⟩ := rowsArg_two m
  have t1 := nbR_tot n ls
  have t2 := (nbR_fine n ls).1
  have t3 : ∀ g ∈ (nbR n ls).1, g.length ≤ 2000000 := fun g hg => ((nbR_fine n ls).2 g hg).2
  have e : szL ls 1048576 = if (totL ls + ls.length : Nat) ≤ (1048576 : Int) then (1048576 : Int) - (totL ls + ls.length : Nat) else (-1 : Int) := rfl
  by_cases hz : totL ls + ls.length ≤ 1048576
  · rw [if_pos (by omega)] at e
    have tl : totL ls ≤ 2000000 := by omega
    have ts := totL_small hz
    obtain ⟨rfl, rfl⟩ | ⟨b, c, rfl⟩ := e1
    all_goals
      refine AC.enter Try.func12 Try.call12 rfl Try.ntmps12 (of_decide_eq_true (by rfl)) ?_
      repeat' (first
        | (refine (szTot_ok _ _ _ _ hv hbd hl (by omega)).mono ?_; rw [e]; rintro v h' ⟨rfl, e'⟩; subst h'; conv => whnf)
        | refine AW.seq ?_
        | (refine AW.region ?_; conv => whnf)
        | refine AW.block ?_
        | (refine AW.skip ?_; conv => whnf)
        | (refine AW.ret ?_; conv => whnf)
        | (refine AW.exit ?_; conv => whnf)
        | refine AW.cond (by rfl) ?_
        | (refine (szIntSS_ok _ _ _ _ (by first | assumption | exact RowsAt.keep (by assumption) (St.keeps (by assumption))) (by assumption) (by omega) (by omega)).mono ?_; rintro v h' ⟨⟨kz, rfl, hz1, hz2⟩, e'⟩; subst h'; conv => whnf)
        | (refine (toIntSS_ok _ _ _ (by first | assumption | exact RowsAt.keep (by assumption) (St.keeps (by assumption))) (by omega) (by assumption)).mono ?_; rintro v h' ⟨b, R, rfl, hR, hN, hsR⟩; have hs' := St.callR (by assumption) hsR; clear hsR; conv => whnf)
        | (refine (sNb_ok _ _ _ _ _ _ _ (St.gridAt (by assumption) (by repeat first | exact RSpot.here | apply RSpot.there | apply RSpot.app)) (by assumption) (by first | rfl | omega) (by omega) (by omega)).mono ?_; rintro v h' ⟨bF, SF, rfl, hRF, hLF, hsF⟩; have hs' := St.call3 (by assumption) hsF; clear hsF; conv => whnf)
        | (refine (iNb_ok _ _ _ _ _ _ _ (St.gridAt (by assumption) (by repeat first | exact RSpot.here | apply RSpot.there | apply RSpot.app)) (by assumption) (by first | rfl | omega) (by omega) (by omega) (by omega)).mono ?_; rintro v h' ⟨bF, SF, rfl, hRF, hLF, hsF⟩; have hs' := St.call3 (by assumption) hsF; clear hsF; conv => whnf)
        | (refine (eqIntSSS_ok _ _ _ _ _ _ _ _ _ (St.cubeAt (by assumption) (by repeat first | exact CSpot.here | apply CSpot.there | apply CSpot.app)) (St.cubeAt (by assumption) (by repeat first | exact CSpot.here | apply CSpot.there | apply CSpot.app)) (by assumption) (by assumption) (by first | rfl | omega) (by omega) (by assumption) (by omega)).mono ?_; rintro v h' ⟨rfl, e'⟩; subst h'; conv => whnf)
        | (refine (eqRows_ok _ _ _ _ _ _ _ _ _ (St.gridAt (by assumption) (by repeat first | exact RSpot.here | apply RSpot.there | apply RSpot.app)) (St.gridAt (by assumption) (by repeat first | exact RSpot.here | apply RSpot.there | apply RSpot.app)) (by assumption) (by assumption) (by first | rfl | omega) (by assumption) (by omega)).mono ?_; rintro v h' ⟨rfl, e'⟩; subst h'; conv => whnf)
        | (refine (markIntSS_ok _ _ _ _ _ _ _ _ _ _ (by assumption) (by repeat first | exact RSpot.here | apply RSpot.there | apply RSpot.app) (by assumption) (by first | rfl | omega) (by assumption) (by omega) (by omega)).mono ?_; rintro v h' ⟨rfl, hs'⟩; conv => whnf)
        | (refine (markIntSSS_ok _ _ _ _ _ _ _ _ _ _ (by assumption) (by repeat first | exact CSpot.here | apply CSpot.there | apply CSpot.app) (by assumption) (by first | rfl | omega) (by omega) (by assumption) (by omega) (by omega)).mono ?_; rintro v h' ⟨rfl, hs'⟩; conv => whnf)
        | (refine (heldIntSSS_ok _ _ _ _ _ _ _ (St.cubeAt (by assumption) (by repeat first | exact CSpot.here | apply CSpot.there | apply CSpot.app)) (by assumption) (by first | rfl | omega) (by omega) (by assumption) (by omega) (by omega)).mono ?_; rintro v h' ⟨rfl, e'⟩; subst h'; conv => whnf)
        | (refine Br.tt ?_; conv => whnf)
        | (refine Br.ff ?_; conv => whnf)
        | refine Br.not ?_
        | (refine Br.t (beq_self_eq_true _) ?_; conv => whnf)
        | (refine Br.t (by assumption) ?_; conv => whnf)
        | (refine Br.f (by assumption) ?_; conv => whnf)
        | (refine Br.dt (by omega) ?_; conv => whnf)
        | (refine Br.df (by omega) ?_; conv => whnf)
        | (refine Br.it (by omega) ?_; conv => whnf)
        | (refine Br.if (by omega) ?_; conv => whnf)
        | (refine Br.nt (by omega) ?_; conv => whnf)
        | (refine Br.nf (by omega) ?_; conv => whnf)
        | (refine Br.dec (fun hc => ?_) (fun hc => ?_) <;> conv => whnf)
        | (refine Br.ieq (fun hc => ?_) (fun hc => ?_) <;> conv => whnf)
        | (refine Br.ine (fun hc => ?_) (fun hc => ?_) <;> conv => whnf)
        | (refine Br.mk (fun hc => ?_) (fun hc => ?_) <;> conv => whnf)
        | (refine Wr.i64 (by omega) ?_; conv => whnf)
        | (refine Ck.mk (by omega) ?_; conv => whnf)
        | (refine Wr.i64 (by simp only [List.length_drop, List.length_take, List.length_append, List.length_cons, List.length_nil]; omega) ?_; conv => whnf)
        | (refine Ck.mk (by simp only [List.length_drop, List.length_take, List.length_append, List.length_cons, List.length_nil]; omega) ?_; conv => whnf)
        | (refine Ck.mk (by simp; omega) ?_; conv => whnf))
      all_goals rfl
  · rw [if_neg (by omega)] at e
    obtain ⟨rfl, rfl⟩ | ⟨b, c, rfl⟩ := e1
    all_goals
      refine AC.enter Try.func12 Try.call12 rfl Try.ntmps12 (of_decide_eq_true (by rfl)) ?_
      repeat' (first
        | (refine (szTot_ok _ _ _ _ hv hbd hl (by omega)).mono ?_; rw [e]; rintro v h' ⟨rfl, e'⟩; subst h'; conv => whnf)
        | refine AW.seq ?_
        | (refine AW.region ?_; conv => whnf)
        | refine AW.block ?_
        | (refine AW.skip ?_; conv => whnf)
        | (refine AW.ret ?_; conv => whnf)
        | (refine AW.exit ?_; conv => whnf)
        | refine AW.cond (by rfl) ?_
        | (refine (szIntSS_ok _ _ _ _ (by first | assumption | exact RowsAt.keep (by assumption) (St.keeps (by assumption))) (by assumption) (by omega) (by omega)).mono ?_; rintro v h' ⟨⟨kz, rfl, hz1, hz2⟩, e'⟩; subst h'; conv => whnf)
        | (refine (toIntSS_ok _ _ _ (by first | assumption | exact RowsAt.keep (by assumption) (St.keeps (by assumption))) (by omega) (by assumption)).mono ?_; rintro v h' ⟨b, R, rfl, hR, hN, hsR⟩; have hs' := St.callR (by assumption) hsR; clear hsR; conv => whnf)
        | (refine (sNb_ok _ _ _ _ _ _ _ (St.gridAt (by assumption) (by repeat first | exact RSpot.here | apply RSpot.there | apply RSpot.app)) (by assumption) (by first | rfl | omega) (by omega) (by omega)).mono ?_; rintro v h' ⟨bF, SF, rfl, hRF, hLF, hsF⟩; have hs' := St.call3 (by assumption) hsF; clear hsF; conv => whnf)
        | (refine (iNb_ok _ _ _ _ _ _ _ (St.gridAt (by assumption) (by repeat first | exact RSpot.here | apply RSpot.there | apply RSpot.app)) (by assumption) (by first | rfl | omega) (by omega) (by omega) (by omega)).mono ?_; rintro v h' ⟨bF, SF, rfl, hRF, hLF, hsF⟩; have hs' := St.call3 (by assumption) hsF; clear hsF; conv => whnf)
        | (refine (eqIntSSS_ok _ _ _ _ _ _ _ _ _ (St.cubeAt (by assumption) (by repeat first | exact CSpot.here | apply CSpot.there | apply CSpot.app)) (St.cubeAt (by assumption) (by repeat first | exact CSpot.here | apply CSpot.there | apply CSpot.app)) (by assumption) (by assumption) (by first | rfl | omega) (by omega) (by assumption) (by omega)).mono ?_; rintro v h' ⟨rfl, e'⟩; subst h'; conv => whnf)
        | (refine (eqRows_ok _ _ _ _ _ _ _ _ _ (St.gridAt (by assumption) (by repeat first | exact RSpot.here | apply RSpot.there | apply RSpot.app)) (St.gridAt (by assumption) (by repeat first | exact RSpot.here | apply RSpot.there | apply RSpot.app)) (by assumption) (by assumption) (by first | rfl | omega) (by assumption) (by omega)).mono ?_; rintro v h' ⟨rfl, e'⟩; subst h'; conv => whnf)
        | (refine (markIntSS_ok _ _ _ _ _ _ _ _ _ _ (by assumption) (by repeat first | exact RSpot.here | apply RSpot.there | apply RSpot.app) (by assumption) (by first | rfl | omega) (by assumption) (by omega) (by omega)).mono ?_; rintro v h' ⟨rfl, hs'⟩; conv => whnf)
        | (refine (markIntSSS_ok _ _ _ _ _ _ _ _ _ _ (by assumption) (by repeat first | exact CSpot.here | apply CSpot.there | apply CSpot.app) (by assumption) (by first | rfl | omega) (by omega) (by assumption) (by omega) (by omega)).mono ?_; rintro v h' ⟨rfl, hs'⟩; conv => whnf)
        | (refine (heldIntSSS_ok _ _ _ _ _ _ _ (St.cubeAt (by assumption) (by repeat first | exact CSpot.here | apply CSpot.there | apply CSpot.app)) (by assumption) (by first | rfl | omega) (by omega) (by assumption) (by omega) (by omega)).mono ?_; rintro v h' ⟨rfl, e'⟩; subst h'; conv => whnf)
        | (refine Br.tt ?_; conv => whnf)
        | (refine Br.ff ?_; conv => whnf)
        | refine Br.not ?_
        | (refine Br.t (beq_self_eq_true _) ?_; conv => whnf)
        | (refine Br.t (by assumption) ?_; conv => whnf)
        | (refine Br.f (by assumption) ?_; conv => whnf)
        | (refine Br.dt (by omega) ?_; conv => whnf)
        | (refine Br.df (by omega) ?_; conv => whnf)
        | (refine Br.it (by omega) ?_; conv => whnf)
        | (refine Br.if (by omega) ?_; conv => whnf)
        | (refine Br.nt (by omega) ?_; conv => whnf)
        | (refine Br.nf (by omega) ?_; conv => whnf)
        | (refine Br.dec (fun hc => ?_) (fun hc => ?_) <;> conv => whnf)
        | (refine Br.ieq (fun hc => ?_) (fun hc => ?_) <;> conv => whnf)
        | (refine Br.ine (fun hc => ?_) (fun hc => ?_) <;> conv => whnf)
        | (refine Br.mk (fun hc => ?_) (fun hc => ?_) <;> conv => whnf)
        | (refine Wr.i64 (by omega) ?_; conv => whnf)
        | (refine Ck.mk (by omega) ?_; conv => whnf)
        | (refine Wr.i64 (by simp only [List.length_drop, List.length_take, List.length_append, List.length_cons, List.length_nil]; omega) ?_; conv => whnf)
        | (refine Ck.mk (by simp only [List.length_drop, List.length_take, List.length_append, List.length_cons, List.length_nil]; omega) ?_; conv => whnf)
        | (refine Ck.mk (by simp; omega) ?_; conv => whnf))
      all_goals rfl

end Go.Proofs.Ytcepogfmajlcjaa
