/-
  Trees of triangulations have their contracts proved on both sides.
  They hold for all rows of rows.
-/
import Derived.Test.YtbicfognbbeigaaGreatH19
import Derived.Test.YtbicfognbbeigaaGreatC62
import Derived.Test.YtbicfognbbeigaaGreatC49
set_option linter.unusedVariables false
set_option linter.unusedSimpArgs false
namespace Go.Proofs.YtbicfognbbeigaaGreat
open Go.Proofs.YtbicfognbbeigaaGreat.Ab Go.Proofs.YtbicfognbbeigaaGreat.Pl

theorem jnR_zero {n : Int} {f : List (List Int)} {x y : Int} (h : ¬ (x = 0 ∧ y = n - 1)) (hy : 0 ≤ y) : jnR n f x y = jnR 0 f x y := by
  unfold jnR
  rw [Bool.eq_iff_iff, decide_eq_true_iff, decide_eq_true_iff]
  constructor
  · rintro (e | e | e)
    · exact .inl e
    · exact absurd e h
    · exact .inr (.inr e)
  · rintro (e | e | e)
    · exact .inl e
    · exfalso; omega
    · exact .inr (.inr e)

set_option maxHeartbeats 2000000 in
theorem l7Tree_ok (n : Int) (R : RL) (f : List (List Int)) (b M C : Nat) (hR : rws R = f) (hM : M = f.length) (hl : M ≤ 1000000) (two : Two f) (hn : 2 ≤ n ∧ n ≤ 10) : ∀ (k l r : Nat) (i j : Int) (h0 : H), i = l → j = r → l < r → (r : Int) ≤ n - 1 → r - l ≤ k → Grid h0 b R →
    AC env 56 [.int .i64 n, .slice b 0 M C, .int .i64 i, .int .i64 j] h0 fun w h' => w = .str (treeT f k l r).txt ∧ h' = h0 := by
  intro k
  induction k with
  | zero => intro l r i j h0 _ _ h1 h2 h3; omega
  | succ k ih =>
    rintro l r i j h0 rfl rfl hlr hr hk hb
    by_cases one : r = l + 1
    · have fm : firstM f l r = none := find_miss fun p hp => by omega
      rw [treeT_none fm]
      refine AC.enter Tryz.func56 Tryz.call56 rfl Tryz.ntmps56 (of_decide_eq_true (by rfl)) ?_
      repeat' (first
        | refine AW.seq ?_
        | (refine AW.region ?_; conv => whnf)
        | (refine AW.ret ?_; conv => whnf)
        | refine AW.cond (by rfl) ?_
        | (refine Br.dt (by omega) ?_; conv => whnf)
        | (refine Wr.i64 (by omega) ?_; conv => whnf))
      exact ⟨rfl, rfl⟩
    · refine AC.enter Tryz.func56 Tryz.call56 rfl Tryz.ntmps56 (of_decide_eq_true (by rfl)) ?_
      repeat' (first
        | refine AW.seq ?_
        | (refine AW.region ?_; conv => whnf)
        | refine AW.block ?_
        | (refine AW.skip ?_; conv => whnf)
        | refine AW.cond (by rfl) ?_
        | (refine Br.df (by omega) ?_; conv => whnf)
        | (refine Wr.i64 (by omega) ?_; conv => whnf))
      refine AW.loop1 (fun (q : Nat) => [(0, .int .i64 n), (1, .slice b 0 M C), (2, .int .i64 l), (3, .int .i64 r), (9, .int .i64 ((l + 1 + q : Nat) : Int))]) (fun q h' => (q ≤ r - l - 1 ∧ ∀ p, p < q → midP f l r p = false) ∧ h' = h0) (fun q => r - l - q) 0
        (Less.cons rfl (Less.cons rfl (Less.cons rfl (Less.cons rfl (Less.cons rfl (Less.nil _)))))) ⟨⟨by omega, fun p hp => by omega⟩, rfl⟩ ?_
      rintro q h2 ⟨⟨hq, hno⟩, rfl⟩
      by_cases hlt : q < r - l - 1
      · have md : midP f l r q = (jnR 0 f (l : Nat) ((l + 1 + q : Nat) : Int) && jnR 0 f ((l + 1 + q : Nat) : Int) (r : Nat)) := rfl
        have z1 : jnR n f (l : Nat) ((l + 1 + q : Nat) : Int) = jnR 0 f (l : Nat) ((l + 1 + q : Nat) : Int) := jnR_zero (by omega) (by omega)
        have z2 : jnR n f ((l + 1 + q : Nat) : Int) (r : Nat) = jnR 0 f ((l + 1 + q : Nat) : Int) (r : Nat) := jnR_zero (by omega) (by omega)
        cases j1 : jnR 0 f (l : Nat) ((l + 1 + q : Nat) : Int) with
        | false =>
          rw [j1, Bool.false_and] at md
          repeat' (first
            | (refine (l7Side_ok n R f b M C (l : Nat) ((l + 1 + q : Nat) : Int) _ hb hR hM (by omega) two hn (by omega)).mono ?_; rw [z1, j1]; rintro w h' ⟨rfl, e'⟩; subst h'; conv => whnf)
            | refine AW.seq ?_
            | (refine AW.region ?_; conv => whnf)
            | refine AW.block ?_
            | (refine AW.skip ?_; conv => whnf)
            | refine AW.cond (by rfl) ?_
            | (refine Br.ff ?_; conv => whnf)
            | (refine Br.dt (by omega) ?_; conv => whnf)
            | (refine Wr.i64 (by omega) ?_; conv => whnf))
          refine ⟨q + 1, (Less.cons rfl (Less.cons rfl (Less.cons rfl (Less.cons rfl (Less.cons rfl (Less.nil _)))))), ⟨⟨by omega, fun p hp => ?_⟩, rfl⟩, by omega⟩
          by_cases c : p = q
          · rw [c]; exact md
          · exact hno p (by omega)
        | true =>
          rw [j1, Bool.true_and] at md
          cases j2 : jnR 0 f ((l + 1 + q : Nat) : Int) (r : Nat) with
          | false =>
            rw [j2] at md
            repeat' (first
              | (refine (l7Side_ok n R f b M C (l : Nat) ((l + 1 + q : Nat) : Int) _ hb hR hM (by omega) two hn (by omega)).mono ?_; rw [z1, j1]; rintro w h' ⟨rfl, e'⟩; subst h'; conv => whnf)
              | (refine (l7Side_ok n R f b M C ((l + 1 + q : Nat) : Int) (r : Nat) _ hb hR hM (by omega) two hn (by omega)).mono ?_; rw [z2, j2]; rintro w h' ⟨rfl, e'⟩; subst h'; conv => whnf)
              | refine AW.seq ?_
              | (refine AW.region ?_; conv => whnf)
              | refine AW.block ?_
              | (refine AW.skip ?_; conv => whnf)
              | refine AW.cond (by rfl) ?_
              | (refine Br.tt ?_; conv => whnf)
              | (refine Br.ff ?_; conv => whnf)
              | (refine Br.dt (by omega) ?_; conv => whnf)
              | (refine Wr.i64 (by omega) ?_; conv => whnf))
            refine ⟨q + 1, (Less.cons rfl (Less.cons rfl (Less.cons rfl (Less.cons rfl (Less.cons rfl (Less.nil _)))))), ⟨⟨by omega, fun p hp => ?_⟩, rfl⟩, by omega⟩
            by_cases c : p = q
            · rw [c]; exact md
            · exact hno p (by omega)
          | true =>
            rw [j2] at md
            have fm : firstM f l r = some q := find_hit hlt md hno
            have sa := treeT_size f k l (l + 1 + q)
            have sb := treeT_size f k (l + 1 + q) r
            have ta := (treeT f k l (l + 1 + q)).txt_length
            have tb := (treeT f k (l + 1 + q) r).txt_length
            have et : (BT.node (treeT f k l (l + 1 + q)) (treeT f k (l + 1 + q) r)).txt = [40] ++ (treeT f k l (l + 1 + q)).txt ++ (treeT f k (l + 1 + q) r).txt ++ [41] := by
              simp [BT.txt]
            rw [treeT_some fm]
            repeat' (first
              | (refine (l7Side_ok n R f b M C (l : Nat) ((l + 1 + q : Nat) : Int) _ hb hR hM (by omega) two hn (by omega)).mono ?_; rw [z1, j1]; rintro w h' ⟨rfl, e'⟩; subst h'; conv => whnf)
              | (refine (l7Side_ok n R f b M C ((l + 1 + q : Nat) : Int) (r : Nat) _ hb hR hM (by omega) two hn (by omega)).mono ?_; rw [z2, j2]; rintro w h' ⟨rfl, e'⟩; subst h'; conv => whnf)
              | (refine (ih l (l + 1 + q) _ _ _ rfl rfl (by omega) (by omega) (by omega) hb).mono ?_; rintro w h' ⟨rfl, e'⟩; subst h'; conv => whnf)
              | (refine (ih (l + 1 + q) r _ _ _ rfl rfl (by omega) (by omega) (by omega) hb).mono ?_; rintro w h' ⟨rfl, e'⟩; subst h'; conv => whnf)
              | refine AW.seq ?_
              | (refine AW.region ?_; conv => whnf)
              | refine AW.block ?_
              | (refine AW.skip ?_; conv => whnf)
              | (refine AW.ret ?_; conv => whnf)
              | refine AW.cond (by rfl) ?_
              | (refine Br.tt ?_; conv => whnf)
              | (refine Br.dt (by omega) ?_; conv => whnf)
              | (refine Ck.mk (by simp only [List.length_drop, List.length_take, List.length_append, List.length_cons, List.length_nil]; omega) ?_; conv => whnf))
            all_goals exact ⟨by rw [et], rfl⟩
      · have fm : firstM f l r = none := find_miss fun p hp => hno p (by omega)
        rw [treeT_none fm]
        repeat' (first
          | refine AW.seq ?_
          | (refine AW.region ?_; conv => whnf)
          | (refine AW.ret ?_; conv => whnf)
          | (refine AW.exit ?_; conv => whnf)
          | refine AW.cond (by rfl) ?_
          | (refine Br.df (by omega) ?_; conv => whnf))
        exact ⟨rfl, rfl⟩
def binT (n : Int) (f : List (List Int)) : List UInt8 × Bool := if isTri n f = true then ((treeT f 10 0 (n.toNat - 1)).txt, true) else ([], false)
theorem sBinT_ok (n : Int) (R : RL) (f : List (List Int)) (b M C : Nat) (h0 : H) (hb : Grid h0 b R) (hR : rws R = f) (hM : M = f.length) (hl : M ≤ 1000000000) (hn : -9223372036854775808 ≤ n ∧ n ≤ 9223372036854775807) : AC env 11 [.int .i64 n, .slice b 0 M C] h0 fun w h' => w = .tup [.str (binT n f).1, .bool (binT n f).2] ∧ h' = h0 := by
  by_cases ht : isTri n f = true
  · have e : binT n f = ((treeT f 10 0 (n.toNat - 1)).txt, true) := if_pos ht
    have sz := tri_size (N := n.toNat) (f := f) (by rw [show ((n.toNat : Nat) : Int) = n by have := (isTri_spec ht).1.1; omega]; exact ht)
    have n2 := (isTri_spec ht).1.1
    rw [e]
    refine AC.enter Tryz.func11 Tryz.call11 rfl Tryz.ntmps11 (of_decide_eq_true (by rfl)) ?_
    repeat' (first
      | (refine (sIsTri_ok n R f _ _ _ _ hb hR hM (by omega) hn).mono ?_; rw [ht]; rintro v h' ⟨rfl, e'⟩; subst h'; conv => whnf)
      | (refine (l7Tree_ok n R f b M C hR hM (by omega) (tri_two ht) (by omega) 10 0 (n.toNat - 1) _ _ _ rfl (by omega) (by omega) (by omega) (by omega) hb).mono ?_; rintro w h' ⟨rfl, e'⟩; subst h'; conv => whnf)
      | refine AW.seq ?_
      | (refine AW.region ?_; conv => whnf)
      | (refine AW.skip ?_; conv => whnf)
      | (refine AW.ret ?_; conv => whnf)
      | refine AW.cond (by rfl) ?_
      | (refine Br.ff ?_; conv => whnf)
      | (refine Wr.i64 (by omega) ?_; conv => whnf))
    exact ⟨rfl, rfl⟩
  · have e : binT n f = ([], false) := if_neg ht
    have ht : isTri n f = false := by simpa using ht
    rw [e]
    refine AC.enter Tryz.func11 Tryz.call11 rfl Tryz.ntmps11 (of_decide_eq_true (by rfl)) ?_
    repeat' (first
      | (refine (sIsTri_ok n R f _ _ _ _ hb hR hM (by omega) hn).mono ?_; rw [ht]; rintro v h' ⟨rfl, e'⟩; subst h'; conv => whnf)
      | refine AW.seq ?_
      | (refine AW.region ?_; conv => whnf)
      | (refine AW.ret ?_; conv => whnf)
      | refine AW.cond (by rfl) ?_
      | (refine Br.tt ?_; conv => whnf))
    exact ⟨rfl, rfl⟩
theorem iBinT_ok (n : Int) (R : RL) (f : List (List Int)) (b M C : Nat) (h0 : H) (hb : Grid h0 b R) (hR : rws R = f) (hM : M = f.length) (hl : M ≤ 1000000000) (hC : M ≤ C) (hn : -9223372036854775808 ≤ n ∧ n ≤ 9223372036854775807) : AC env 12 [.int .i64 n, .slice b 0 M C] h0 fun w h' => w = .tup [.str (binT n f).1, .bool (binT n f).2] ∧ Keeps h0 h' := by
  have hs := St.refl h0
  by_cases ht : isTri n f = true
  · have e : binT n f = ((treeT f 10 0 (n.toNat - 1)).txt, true) := if_pos ht
    have sz := tri_size (N := n.toNat) (f := f) (by rw [show ((n.toNat : Nat) : Int) = n by have := (isTri_spec ht).1.1; omega]; exact ht)
    have n2 := (isTri_spec ht).1.1
    have ts := treeT_size f 10 0 (n.toNat - 1)
    rw [e]
    refine AC.enter Tryz.func12 Tryz.call12 rfl Tryz.ntmps12 (of_decide_eq_true (by rfl)) ?_
    repeat' (first
      | (refine (iIsTri_ok n R f _ _ _ _ hb hR hM (by omega) hC hn).mono ?_; rw [ht]; rintro v h' ⟨rfl, e'⟩; subst h'; conv => whnf)
      | (refine (treeOfTri_ok n R f b M C hR hM (by omega) (tri_two ht) 10 0 (n.toNat - 1) _ _ _ rfl (by omega) (by omega) (by omega) (by omega) hb).mono ?_; rintro v h2 ⟨kT, mT⟩; have mT' := mT; rcases mT'.form with ⟨rfl, _⟩ | ⟨b1, rfl⟩ <;> (conv => whnf))
      | (refine (text_ok _ _ _ mT (by omega)).mono ?_; rintro v h' ⟨rfl, e'⟩; subst h'; conv => whnf)
      | refine AW.seq ?_
      | (refine AW.region ?_; conv => whnf)
      | (refine AW.skip ?_; conv => whnf)
      | (refine AW.ret ?_; conv => whnf)
      | refine AW.cond (by rfl) ?_
      | (refine Br.ff ?_; conv => whnf)
      | (refine Wr.i64 (by omega) ?_; conv => whnf))
    all_goals exact ⟨rfl, kT⟩
  · have e : binT n f = ([], false) := if_neg ht
    have ht : isTri n f = false := by simpa using ht
    rw [e]
    refine AC.enter Tryz.func12 Tryz.call12 rfl Tryz.ntmps12 (of_decide_eq_true (by rfl)) ?_
    repeat' (first
      | (refine (iIsTri_ok n R f _ _ _ _ hb hR hM (by omega) hC hn).mono ?_; rw [ht]; rintro v h' ⟨rfl, e'⟩; subst h'; conv => whnf)
      | refine AW.seq ?_
      | (refine AW.region ?_; conv => whnf)
      | (refine AW.ret ?_; conv => whnf)
      | refine AW.cond (by rfl) ?_
      | (refine Br.tt ?_; conv => whnf))
    exact ⟨rfl, Keeps.refl _⟩

end Go.Proofs.YtbicfognbbeigaaGreat

/-
  Contracts of flips of diagonals are proved.
  They hold for all rows of rows.
-/
set_option linter.unusedVariables false
set_option linter.unusedSimpArgs false
namespace Go.Proofs.YtbicfognbbeigaaGreat
open Go.Proofs.YtbicfognbbeigaaGreat.Ab Go.Proofs.YtbicfognbbeigaaGreat.Pl

def thP (N : Nat) (f : List (List Int)) (k c : Nat) : Bool := decide ((c : Int) ≠ ent f k 0) && decide ((c : Int) ≠ ent f k 1) && jnR N f (min (c : Int) (ent f k 0)) (max (c : Int) (ent f k 0)) && jnR N f (min (c : Int) (ent f k 1)) (max (c : Int) (ent f k 1))
def thU (N : Nat) (f : List (List Int)) (k c : Nat) : List Int := ((List.range c).filter (thP N f k)).map fun (x : Nat) => (x : Int)
theorem thU_succ (N : Nat) (f : List (List Int)) (k c : Nat) : thU N f k (c + 1) = if thP N f k c = true then thU N f k c ++ [(c : Int)] else thU N f k c := by
  unfold thU
  rw [List.range_succ, List.filter_append]
  split
  · rename_i h
    simp [h]
  · rename_i h
    simp [h]
theorem thU_all (N : Nat) (f : List (List Int)) (k : Nat) : thU N f k N = (thR N f k).map fun (x : Nat) => (x : Int) := rfl
theorem thU_le (N : Nat) (f : List (List Int)) (k c : Nat) : (thU N f k c).length ≤ c := by
  unfold thU
  rw [List.length_map]
  have := List.length_filter_le (thP N f k) (List.range c)
  simpa using this
theorem thU_get (N : Nat) (f : List (List Int)) (k i : Nat) : (thU N f k N).getD i 0 = ((thR N f k).getD i 0 : Nat) := by
  rw [thU_all]
  simp only [List.getD, List.getElem?_map]
  cases (thR N f k)[i]? <;> rfl
def flipF (n : Int) (f : List (List Int)) (k : Int) : List (List Int) × Bool := if isTri n f = true ∧ 0 ≤ k ∧ k < f.length then (flipR n.toNat f k.toNat, true) else ([], false)
theorem tri_sz {N : Nat} {f : List (List Int)} (h : isTri N f = true) : (2 ≤ N ∧ N ≤ 10) ∧ f.length = N - 3 ∧ f.length ≤ 7 := by
  have s := (isTri_spec h).1
  have a := s.1
  have b := s.2
  omega
theorem tri_ent {N : Nat} {f : List (List Int)} (h : isTri N f = true) {k : Nat} (hk : k < f.length) : 0 ≤ ent f k 0 ∧ ent f k 0 + 2 ≤ ent f k 1 ∧ ent f k 1 ≤ (N : Int) - 1 := by
  have d := ((isTri_spec h).2 k hk).1
  exact ⟨d.2.1, d.2.2.1, d.2.2.2.1⟩
theorem isTri_nat {n : Int} {f : List (List Int)} (h : isTri n f = true) : ∃ N : Nat, n = N := by
  have := (isTri_spec h).1.1
  exact ⟨n.toNat, by omega⟩
/-- a row of one's own takes the place of another one -/
theorem slcs_put {R : RL} {k c : Nat} {l : List Int} : (slcs R).set k (.slice c 0 l.length l.length) = slcs (R.set k (c, l)) := by
  unfold slcs
  rw [List.map_set]
theorem putPerm {α : Type} {R : List α} {k : Nat} (h : k < R.length) (x : α) : (x :: R).Perm (R.set k x ++ [R[k]]) := by
  have e : R = R.take k ++ R[k] :: R.drop (k + 1) := by rw [← List.drop_eq_getElem_cons h, List.take_append_drop]
  have hl : (R.take k).length = k := by simp; omega
  generalize hx : R[k] = y at *
  generalize R.take k = A at *
  generalize R.drop (k + 1) = B at *
  subst e hl
  rw [List.set_append_right _ _ (Nat.le_refl _), Nat.sub_self, List.set_cons_zero, List.append_assoc]
  refine List.Perm.trans ?_ ((List.perm_middle (l₁ := A) (l₂ := B ++ [y]) (a := x)).symm)
  refine .cons _ ?_
  refine List.Perm.append_left A ?_
  exact List.perm_append_comm (l₁ := [y]) (l₂ := B)
theorem St.putRow {h0 h : H} {L : List (Nat × Blk)} {b c k : Nat} {l : List Int} {R : RL} (hk : k < R.length) (s : St h0 h ((c, row (ints l)) :: (b, row ((slcs R).set k (.slice c 0 l.length l.length))) :: (blks R ++ L))) :
    ∃ r, St h0 h ((b, row (slcs (R.set k (c, l)))) :: (blks (R.set k (c, l)) ++ r :: L)) := by
  refine ⟨(R[k].1, row (ints R[k].2)), ?_⟩
  rw [slcs_put] at s
  refine s.perm ((List.Perm.swap _ _ _).trans (.cons _ ?_))
  have p := (putPerm hk (c, l)).map (fun r : Nat × List Int => (r.1, row (ints r.2)))
  rw [List.map_cons, List.map_append] at p
  have p2 := p.append_right L
  rw [List.append_assoc] at p2
  exact p2

set_option maxHeartbeats 4000000 in
theorem iFlip_ok (n : Int) (R : RL) (f : List (List Int)) (b M C : Nat) (k : Int) (h0 : H) (hb : Grid h0 b R) (hR : rws R = f) (hM : M = f.length) (hl : M ≤ 1000000000) (hC : M ≤ C) (hn : (-9223372036854775808 ≤ n ∧ n ≤ 9223372036854775807) ∧ -9223372036854775808 ≤ k ∧ k ≤ 9223372036854775807) :
    AC env 7 [.int .i64 n, .slice b 0 M C, .int .i64 k] h0 (RetR (flipF n f k) h0) := by
  have hs := St.refl h0
  have lR : R.length = M := by rw [hM, ← hR, rws_length]
  by_cases ok : isTri n f = true ∧ 0 ≤ k ∧ k < f.length
  · have e : flipF n f k = (flipR n.toNat f k.toNat, true) := if_pos ok
    obtain ⟨ht, hk⟩ := ok
    obtain ⟨N, rfl⟩ := isTri_nat ht
    obtain ⟨k, rfl⟩ := Int.eq_ofNat_of_zero_le hk.1
    rw [Int.toNat_natCast, Int.toNat_natCast] at e
    have hkl : k < f.length := by omega
    have sz := tri_sz ht
    have te := tri_ent ht hkl
    have two := tri_two ht
    have l2 : (f.getD k []).length = 2 := two k hkl
    have fl := flip_fine ht hkl
    refine AC.enter Tryz.func7 Tryz.call7 rfl Tryz.ntmps7 (of_decide_eq_true (by rfl)) ?_
    repeat' (first
      | (refine (iIsTri_ok (N : Int) R f _ _ _ _ hb hR hM (by omega) hC (by omega)).mono ?_; rw [ht]; rintro v h' ⟨rfl, e'⟩; subst h'; conv => whnf)
      | (refine NewG.st hs (fun bt h1 hs1 => ?_); conv => whnf)
      | refine AW.seq ?_
      | (refine AW.region ?_; conv => whnf)
      | refine AW.block ?_
      | (refine AW.skip ?_; conv => whnf)
      | refine AW.cond (by rfl) ?_
      | (refine (within_ok _ _ _ _).mono ?_; rintro v h' ⟨rfl, e'⟩; subst h'; conv => whnf)
      | (refine Br.ff ?_; conv => whnf)
      | refine Br.not ?_
      | (refine Br.dt (by omega) ?_; conv => whnf)
      | (refine Wr.i64 (by omega) ?_; conv => whnf))
    refine AW.loop3 (fun (c bo m : Nat) => [(0, .int .i64 N), (1, .slice b 0 M C), (2, .int .i64 k), (8, .slice bo 0 m m), (25, .int .i64 N), (26, .int .i64 c)]) (fun c bo m h' => c ≤ N ∧ (thU N f k c).length = m ∧ St h0 h' [(bo, row (ints (thU N f k c)))]) (fun c _ _ => N - c) 0 bt 0
      (Less.cons rfl (Less.cons rfl (Less.cons rfl (Less.cons rfl (Less.cons rfl (Less.cons rfl (Less.nil _))))))) ⟨by omega, rfl, hs1⟩ ?_
    rintro c bo m h2 ⟨hc, hm, hs2⟩
    clear hs1 hs
    have hg := hb.arg hs2
    have tl := thU_le N f k c
    by_cases hlt : c < N
    · have sc := thU_succ N f k c
      have pe : thP N f k c = (decide ((c : Int) ≠ ent f k 0) && decide ((c : Int) ≠ ent f k 1) && jnR N f (min (c : Int) (ent f k 0)) (max (c : Int) (ent f k 0)) && jnR N f (min (c : Int) (ent f k 1)) (max (c : Int) (ent f k 1))) := rfl
      by_cases q : (c : Int) = ent f k 0 ∨ (c : Int) = ent f k 1
      · have pf : thP N f k c = false := by
          rw [pe]
          rcases q with q | q
          · rw [decide_eq_false (by omega)]; rfl
          · rw [decide_eq_false (p := (c : Int) ≠ ent f k 1) (by omega), Bool.and_false]; rfl
        rw [pf] at sc
        repeat' (first
          | (refine Grid.rowAt hg hR k rfl rfl (by omega) l2 ?_; conv => whnf)
          | (refine Grid.num2 hg hR k 0 rfl (by omega) l2 (by omega) ?_; conv => whnf)
          | (refine Grid.num2 hg hR k 1 rfl (by omega) l2 (by omega) ?_; conv => whnf)
          | refine AW.seq ?_
          | (refine AW.region ?_; conv => whnf)
          | refine AW.block ?_
          | (refine AW.skip ?_; conv => whnf)
          | refine AW.cond (by rfl) ?_
          | (refine Br.ff ?_; conv => whnf)
          | refine Br.not ?_
          | (refine Br.dt (by omega) ?_; conv => whnf)
          | (refine Br.df (by omega) ?_; conv => whnf)
          | (refine Br.dec (fun hc => ?_) (fun hc => ?_) <;> conv => whnf)
          | (refine Wr.i64 (by omega) ?_; conv => whnf)
          | (refine Ck.mk (by omega) ?_; conv => whnf))
        all_goals exact ⟨c + 1, bo, m, (Less.cons rfl (Less.cons rfl (Less.cons rfl (Less.cons rfl (Less.cons rfl (Less.cons rfl (Less.nil _))))))), ⟨by omega, by rw [sc]; exact hm, by rw [sc]; exact hs2⟩, by omega⟩
      · rw [decide_eq_true (by omega), decide_eq_true (by omega), Bool.true_and, Bool.true_and] at pe
        cases j1 : jnR N f (min (c : Int) (ent f k 0)) (max (c : Int) (ent f k 0)) with
        | false =>
          rw [j1, Bool.false_and] at pe
          rw [pe] at sc
          repeat' (first
            | (refine Grid.rowAt hg hR k rfl rfl (by omega) l2 ?_; conv => whnf)
            | (refine Grid.num2 hg hR k 0 rfl (by omega) l2 (by omega) ?_; conv => whnf)
            | (refine Grid.num2 hg hR k 1 rfl (by omega) l2 (by omega) ?_; conv => whnf)
            | (refine (joins_ok (N : Int) R f _ _ _ (c : Int) (ent f k 0) _ hg hR hM (by omega) two (by omega) (by omega) (by omega) (by omega)).mono ?_; rw [j1]; rintro v h' ⟨rfl, e'⟩; subst h'; conv => whnf)
            | refine AW.seq ?_
            | (refine AW.region ?_; conv => whnf)
            | refine AW.block ?_
            | (refine AW.skip ?_; conv => whnf)
            | refine AW.cond (by rfl) ?_
            | (refine Br.ff ?_; conv => whnf)
            | refine Br.not ?_
            | (refine Br.dt (by omega) ?_; conv => whnf)
            | (refine Br.df (by omega) ?_; conv => whnf)
            | (refine Wr.i64 (by omega) ?_; conv => whnf)
            | (refine Ck.mk (by omega) ?_; conv => whnf))
          all_goals exact ⟨c + 1, bo, m, (Less.cons rfl (Less.cons rfl (Less.cons rfl (Less.cons rfl (Less.cons rfl (Less.cons rfl (Less.nil _))))))), ⟨by omega, by rw [sc]; exact hm, by rw [sc]; exact hs2⟩, by omega⟩
        | true =>
          rw [j1, Bool.true_and] at pe
          cases j2 : jnR N f (min (c : Int) (ent f k 1)) (max (c : Int) (ent f k 1)) with
          | false =>
            rw [j2] at pe
            rw [pe] at sc
            repeat' (first
              | (refine Grid.rowAt hg hR k rfl rfl (by omega) l2 ?_; conv => whnf)
              | (refine Grid.num2 hg hR k 0 rfl (by omega) l2 (by omega) ?_; conv => whnf)
              | (refine Grid.num2 hg hR k 1 rfl (by omega) l2 (by omega) ?_; conv => whnf)
              | (refine (joins_ok (N : Int) R f _ _ _ (c : Int) (ent f k 0) _ hg hR hM (by omega) two (by omega) (by omega) (by omega) (by omega)).mono ?_; rw [j1]; rintro v h' ⟨rfl, e'⟩; subst h'; conv => whnf)
              | (refine (joins_ok (N : Int) R f _ _ _ (c : Int) (ent f k 1) _ hg hR hM (by omega) two (by omega) (by omega) (by omega) (by omega)).mono ?_; rw [j2]; rintro v h' ⟨rfl, e'⟩; subst h'; conv => whnf)
              | refine AW.seq ?_
              | (refine AW.region ?_; conv => whnf)
              | refine AW.block ?_
              | (refine AW.skip ?_; conv => whnf)
              | refine AW.cond (by rfl) ?_
              | (refine Br.tt ?_; conv => whnf)
              | (refine Br.ff ?_; conv => whnf)
              | refine Br.not ?_
              | (refine Br.dt (by omega) ?_; conv => whnf)
              | (refine Br.df (by omega) ?_; conv => whnf)
              | (refine Wr.i64 (by omega) ?_; conv => whnf)
              | (refine Ck.mk (by omega) ?_; conv => whnf))
            all_goals exact ⟨c + 1, bo, m, (Less.cons rfl (Less.cons rfl (Less.cons rfl (Less.cons rfl (Less.cons rfl (Less.cons rfl (Less.nil _))))))), ⟨by omega, by rw [sc]; exact hm, by rw [sc]; exact hs2⟩, by omega⟩
          | true =>
            rw [j2] at pe
            rw [if_pos pe] at sc
            repeat' (first
              | (refine Grid.rowAt hg hR k rfl rfl (by omega) l2 ?_; conv => whnf)
              | (refine Grid.num2 hg hR k 0 rfl (by omega) l2 (by omega) ?_; conv => whnf)
              | (refine Grid.num2 hg hR k 1 rfl (by omega) l2 (by omega) ?_; conv => whnf)
              | (refine (joins_ok (N : Int) R f _ _ _ (c : Int) (ent f k 0) _ hg hR hM (by omega) two (by omega) (by omega) (by omega) (by omega)).mono ?_; rw [j1]; rintro v h' ⟨rfl, e'⟩; subst h'; conv => whnf)
              | (refine (joins_ok (N : Int) R f _ _ _ (c : Int) (ent f k 1) _ hg hR hM (by omega) two (by omega) (by omega) (by omega) (by omega)).mono ?_; rw [j2]; rintro v h' ⟨rfl, e'⟩; subst h'; conv => whnf)
              | refine AW.seq ?_
              | (refine AW.region ?_; conv => whnf)
              | refine AW.block ?_
              | (refine AW.skip ?_; conv => whnf)
              | refine AW.cond (by rfl) ?_
              | (refine Br.tt ?_; conv => whnf)
              | refine Br.not ?_
              | (refine Br.dt (by omega) ?_; conv => whnf)
              | (refine Br.df (by omega) ?_; conv => whnf)
              | (refine Wr.i64 (by omega) ?_; conv => whnf)
              | (refine Ck.mk (by omega) ?_; conv => whnf)
              | (refine NewG.st (by assumption) (fun bt h' hs' => ?_); conv => whnf)
              | (refine LoadsG.has (by first | assumption | exact St.has (by assumption) (by repeat first | exact .head _ | apply List.Mem.tail) | exact St.arg (by assumption) (by assumption)) (by simp) ?_; conv => whnf)
              | (refine AppG.stZ (by assumption) (by intro b'; repeat first | exact .here | apply Spot.there) (by first | (simp; done) | omega | (simp only [List.length_set, List.length_append, List.length_cons, List.length_nil, List.length_replicate, tab_length]; omega) | (simp; omega)) (by first | (simp; done) | omega | (simp only [List.length_set, List.length_append, List.length_cons, List.length_nil, List.length_replicate, tab_length]; omega) | (simp; omega)) (by decide) (fun b' h' hs' => ?_); conv => whnf))
            all_goals exact ⟨c + 1, _, m + 1, (Less.cons rfl (Less.cons rfl (Less.cons rfl (Less.cons rfl (Less.cons rfl (Less.cons rfl (Less.nil _))))))), ⟨by omega, by rw [sc, List.length_append, hm]; rfl, by rw [sc]; exact hs'.tail⟩, by omega⟩
    · obtain rfl : c = N := by omega
      have m2 : m = 2 := by
        rw [← hm, thU_all, List.length_map]
        exact fl.1
      have g0 : (thU c f k c).getD (Int.toNat 0) 0 = ((thR c f k).getD 0 0 : Nat) := thU_get c f k 0
      have g1 : (thU c f k c).getD (Int.toNat 1) 0 = ((thR c f k).getD 1 0 : Nat) := thU_get c f k 1
      repeat' (first
        | (refine (copyLists_ok R f _ _ _ _ hg hR hM (by omega) two).mono ?_; rintro v h3 ⟨bc, S, rfl, hS, lS, hs3⟩; have hs4 := St.callR hs2 hs3; have hbo := St.has hs4 (List.mem_cons_of_mem _ (List.mem_append_right _ (.head _))); conv => whnf)
        | (refine Has.loadZ hbo rfl (by omega) ?_; conv => whnf)
        | (refine NewG.st hs4 (fun bx h5 hs5 => ?_); rw [g0, g1] at hs5; conv => whnf)
        | (refine StoreG.stV hs5 (.there .here) rfl (by simp; omega) rfl (fun h6 hs6 => ?_); conv => whnf)
        | refine AW.seq ?_
        | (refine AW.region ?_; conv => whnf)
        | (refine AW.exit ?_; conv => whnf)
        | refine AW.cond (by rfl) ?_
        | (refine AW.draw (id := 11) (.p 0 (.p 1 (.p 2 (.p 3 (.p 5 (.p 6 (.r 4 [8, 9, 10] (.r 7 [8, 9, 10] (.all [8] fun _ => (.p 9 (.all [10] fun _ => .done))))))))))) (by kernel_rfl) (by kernel_rfl) ?_; conv => whnf)
        | (refine Br.df (by omega) ?_; conv => whnf)
        | (refine Ck.mk (by omega) ?_; conv => whnf))
      have es : [(((thR c f k).getD 0 0 : Nat) : Int), (((thR c f k).getD 1 0 : Nat) : Int)].length = 2 := rfl
      obtain ⟨r, hs7⟩ := St.putRow (l := [(((thR c f k).getD 0 0 : Nat) : Int), (((thR c f k).getD 1 0 : Nat) : Int)]) (by omega) hs6
      generalize ex : [(((thR c f k).getD 0 0 : Nat) : Int), (((thR c f k).getD 1 0 : Nat) : Int)] = x at *
      have hS' : rws (S.set k (bx, x)) = f.set k x := by rw [← hS]; unfold rws; rw [List.map_set]
      have r2 : ∀ q ∈ S.set k (bx, x), q.2.length ≤ 1000 := fun q hq => by
        rcases List.mem_or_eq_of_mem_set hq with hq | rfl
        · have : q.2 ∈ f := by rw [← hS]; exact List.mem_map.2 ⟨q, hq, rfl⟩
          obtain ⟨i, hi, e⟩ := List.getElem_of_mem this
          have := two i hi
          have e2 : f.getD i [] = q.2 := by rw [← e]; simp [List.getD, hi]
          rw [e2] at this
          omega
        · rw [es]; decide
      repeat' (first
        | (refine (sortFunc_ok (S.set k (bx, x)) _ bc _ _ h0 _ hs7 (by rw [List.length_set]; omega) (by omega) r2).mono ?_; rintro v h' ⟨rfl, hs8⟩; conv => whnf)
        | refine AW.seq ?_
        | (refine AW.region ?_; conv => whnf)
        | (refine AW.ret ?_; conv => whnf))
      have fs := flip_sort ht hkl
      rw [ex] at fs
      have hl8 : (insO (S.set k (bx, x)) (M - 1)).length = M := by rw [insO_len, List.length_set, lS]
      have hs9 := hs8.sub (List.Sublist.cons_cons _ (List.Sublist.append (List.Sublist.refl _) (List.nil_sublist _)))
      refine RetR.mk' ?_ hl8.symm hs9
      rw [e, ← fs, ← hS', ← insO_rws, List.length_set, lS]
  · have e : flipF n f k = ([], false) := if_neg ok
    by_cases ht : isTri n f = true
    · have hk : ¬ (0 ≤ k ∧ k < f.length) := fun a => ok ⟨ht, a⟩
      refine AC.enter Tryz.func7 Tryz.call7 rfl Tryz.ntmps7 (of_decide_eq_true (by rfl)) ?_
      repeat' (first
        | (refine (iIsTri_ok n R f _ _ _ _ hb hR hM (by omega) hC (by omega)).mono ?_; rw [ht]; rintro v h' ⟨rfl, e'⟩; subst h'; conv => whnf)
        | refine AW.seq ?_
        | (refine AW.region ?_; conv => whnf)
        | (refine AW.ret ?_; conv => whnf)
        | refine AW.cond (by rfl) ?_
        | (refine (within_ok _ _ _ _).mono ?_; rintro v h' ⟨rfl, e'⟩; subst h'; conv => whnf)
        | (refine Br.ff ?_; conv => whnf)
        | refine Br.not ?_
        | (refine Br.df (by omega) ?_; conv => whnf)
        | (refine Wr.i64 (by omega) ?_; conv => whnf)
        | (refine NewG.st (by assumption) (fun bt h' hs' => ?_); conv => whnf))
      all_goals exact RetR.mk' (R := []) e rfl (nilRows hs')
    · have ht : isTri n f = false := by simpa using ht
      refine AC.enter Tryz.func7 Tryz.call7 rfl Tryz.ntmps7 (of_decide_eq_true (by rfl)) ?_
      repeat' (first
        | (refine (iIsTri_ok n R f _ _ _ _ hb hR hM (by omega) hC (by omega)).mono ?_; rw [ht]; rintro v h' ⟨rfl, e'⟩; subst h'; conv => whnf)
        | refine AW.seq ?_
        | (refine AW.region ?_; conv => whnf)
        | (refine AW.ret ?_; conv => whnf)
        | refine AW.cond (by rfl) ?_
        | (refine Br.tt ?_; conv => whnf)
        | (refine NewG.st (by assumption) (fun bt h' hs' => ?_); conv => whnf))
      all_goals exact RetR.mk' (R := []) e rfl (nilRows hs')

end Go.Proofs.YtbicfognbbeigaaGreat
