/-
  Contracts of the triangles of a triangulation are proved.
  They hold for all rows of rows.
-/
import Derived.Test.YtbicfognbbeigaaGreatC49
import Derived.Test.YtbicfognbbeigaaGreatH11
import Derived.Test.YtbicfognbbeigaaGreatH19
set_option linter.unusedVariables false
set_option linter.unusedSimpArgs false
namespace Go.Proofs.YtbicfognbbeigaaGreat
open Go.Proofs.YtbicfognbbeigaaGreat.Ab Go.Proofs.YtbicfognbbeigaaGreat.Pl

/-! the tree of a triangulation -/
def midP (f : List (List Int)) (l r i : Nat) : Bool := jnR 0 f (l : Nat) ((l + 1 + i : Nat) : Int) && jnR 0 f ((l + 1 + i : Nat) : Int) (r : Nat)
def firstM (f : List (List Int)) (l r : Nat) : Option Nat := (List.range (r - l - 1)).find? (midP f l r)
def treeT (f : List (List Int)) : Nat → Nat → Nat → BT
  | 0, _, _ => .leaf
  | k + 1, l, r => match firstM f l r with
    | none => .leaf
    | some i => .node (treeT f k l (l + 1 + i)) (treeT f k (l + 1 + i) r)
theorem treeT_none {f : List (List Int)} {k l r : Nat} (h : firstM f l r = none) : treeT f (k + 1) l r = .leaf := by rw [treeT, h]
theorem treeT_some {f : List (List Int)} {k l r i : Nat} (h : firstM f l r = some i) : treeT f (k + 1) l r = .node (treeT f k l (l + 1 + i)) (treeT f k (l + 1 + i) r) := by rw [treeT, h]
theorem find_hit {p : Nat → Bool} {n k : Nat} (hk : k < n) (h : p k = true) (hb : ∀ j, j < k → p j = false) : (List.range n).find? p = some k := by
  rw [List.find?_eq_some_iff_append]
  refine ⟨h, List.range k, (List.range (n - k - 1)).map (fun i => k + 1 + i), ?_, fun j hj => by simp [hb j (List.mem_range.1 hj)]⟩
  have e : n = k + (1 + (n - k - 1)) := by omega
  conv => lhs; rw [e, List.range_add, List.range_add]
  simp [Nat.add_assoc]
theorem find_miss {p : Nat → Bool} {n : Nat} (hb : ∀ j, j < n → p j = false) : (List.range n).find? p = none := by
  rw [List.find?_eq_none]
  intro j hj
  simp [hb j (List.mem_range.1 hj)]
theorem firstM_lt {f : List (List Int)} {l r i : Nat} (h : firstM f l r = some i) : i < r - l - 1 := List.mem_range.1 (List.mem_of_find?_eq_some h)
theorem treeT_size (f : List (List Int)) : ∀ (k l r : Nat), (treeT f k l r).size ≤ r - l - 1
  | 0, l, r => Nat.zero_le _
  | k + 1, l, r => by
    cases h : firstM f l r with
    | none => rw [treeT_none h]; exact Nat.zero_le _
    | some i =>
      have hi := firstM_lt h
      rw [treeT_some h]
      have h1 := treeT_size f k l (l + 1 + i)
      have h2 := treeT_size f k (l + 1 + i) r
      simp only [BT.size]
      omega

theorem edge_ok (R : RL) (f : List (List Int)) (b M C bt : Nat) (x y : Int) (h0 : H) (hb : Grid h0 b R) (hv : Has h0 bt [.slice b 0 M C]) (hR : rws R = f) (hM : M = f.length) (hl : M ≤ 1000000) (two : Two f) (hx : 0 ≤ x ∧ x ≤ 1000) (hy : 0 ≤ y ∧ y ≤ 1000) :
    AC env 98 [.int .i64 x, .int .i64 y, .ptr bt 0] h0 fun v h' => v = .bool (jnR 0 f x y) ∧ h' = h0 := by
  have lR : R.length = M := by rw [hM, ← hR, rws_length]
  by_cases sd : y = x + 1
  · have no := jnR_side (n := 0) (f := f) (.inl sd)
    refine AC.enter Tryz.func98 Tryz.call98 rfl Tryz.ntmps98 (of_decide_eq_true (by rfl)) ?_
    repeat' (first
      | refine AW.seq ?_
      | (refine AW.region ?_; conv => whnf)
      | (refine AW.ret ?_; conv => whnf)
      | refine AW.cond (by rfl) ?_
      | (refine Br.dt (by omega) ?_; conv => whnf)
      | (refine Wr.i64 (by omega) ?_; conv => whnf))
    all_goals first
      | (exfalso; omega)
      | exact ⟨by rw [no], rfl⟩
  · have sd2 : ¬ (y = x + 1 ∨ (x = 0 ∧ y = (0 : Int) - 1)) := by omega
    refine AC.enter Tryz.func98 Tryz.call98 rfl Tryz.ntmps98 (of_decide_eq_true (by rfl)) ?_
    repeat' (first
      | (refine Has.load1 hv ?_; conv => whnf)
      | refine AW.seq ?_
      | (refine AW.region ?_; conv => whnf)
      | refine AW.block ?_
      | (refine AW.skip ?_; conv => whnf)
      | refine AW.cond (by rfl) ?_
      | (refine Br.df (by omega) ?_; conv => whnf)
      | (refine Wr.i64 (by omega) ?_; conv => whnf))
    all_goals
      refine AW.loop1 (fun (i : Nat) => [(0, .int .i64 x), (1, .int .i64 y), (12, .slice b 0 M C), (13, .int .i64 M), (14, .int .i64 i)]) (fun i h' => i ≤ M ∧ (∀ j, j < i → ¬ (ent f j 0 = x ∧ ent f j 1 = y)) ∧ h' = h0) (fun i => M - i) 0 (Less.cons rfl (Less.cons rfl (Less.cons rfl (Less.cons rfl (Less.cons rfl (Less.nil _)))))) ⟨by omega, fun j hj => by omega, rfl⟩ ?_
      rintro i h' ⟨hi, hrows, rfl⟩
      by_cases hlt : i < M
      · repeat' (first
          | (refine Grid.rowAt hb hR i rfl (by omega) (by omega) (two _ (by omega)) ?_; conv => whnf)
          | (refine Grid.num2 hb hR i 0 rfl (by omega) (two _ (by omega)) (by omega) ?_; conv => whnf)
          | (refine Grid.num2 hb hR i 1 rfl (by omega) (two _ (by omega)) (by omega) ?_; conv => whnf)
          | refine AW.seq ?_
          | (refine AW.region ?_; conv => whnf)
          | refine AW.block ?_
          | (refine AW.skip ?_; conv => whnf)
          | (refine AW.ret ?_; conv => whnf)
          | refine AW.cond (by rfl) ?_
          | (refine Br.ff ?_; conv => whnf)
          | (refine Br.dt (by omega) ?_; conv => whnf)
          | (refine Br.df (by omega) ?_; conv => whnf)
          | (refine Br.dec (fun hc => ?_) (fun hc => ?_) <;> conv => whnf)
          | (refine Wr.i64 (by omega) ?_; conv => whnf)
          | (refine Ck.mk (by omega) ?_; conv => whnf))
        all_goals first
          | exact ⟨by rw [jnR_row (i := i) (by omega) (by omega)], rfl⟩
          | (refine ⟨i + 1, (Less.cons rfl (Less.cons rfl (Less.cons rfl (Less.cons rfl (Less.cons rfl (Less.nil _)))))), ⟨by omega, fun j hj => ?_, rfl⟩, by omega⟩
             by_cases e : j = i
             · rw [e]; omega
             · exact hrows j (by omega))
      · repeat' (first
          | refine AW.seq ?_
          | (refine AW.region ?_; conv => whnf)
          | (refine AW.ret ?_; conv => whnf)
          | (refine AW.exit ?_; conv => whnf)
          | refine AW.cond (by rfl) ?_
          | (refine Br.df (by omega) ?_; conv => whnf))
        exact ⟨by rw [jnR_no sd2 fun j hj => hrows j (by omega)], rfl⟩

set_option maxHeartbeats 4000000 in
theorem treeOfTri_ok (n : Int) (R : RL) (f : List (List Int)) (b M C : Nat) (hR : rws R = f) (hM : M = f.length) (hl : M ≤ 1000000) (two : Two f) : ∀ (k l r : Nat) (i j : Int) (h0 : H), i = l → j = r → l ≤ 100 → r ≤ 100 → r - l ≤ k → Grid h0 b R →
    AC env 57 [.int .i64 n, .slice b 0 M C, .int .i64 i, .int .i64 j] h0 fun w h' => Keeps h0 h' ∧ TreeIn h' w (treeT f k l r) := by
  intro k
  induction k with
  | zero =>
    rintro l r i j h0 rfl rfl hl1 hr hk hb
    have hs := St.refl h0
    refine AC.enter Tryz.func57 Tryz.call57 rfl Tryz.ntmps57 (of_decide_eq_true (by rfl)) ?_
    repeat' (first
      | refine AW.seq ?_
      | (refine AW.region ?_; conv => whnf)
      | refine AW.block ?_
      | (refine Wr.i64 (by omega) ?_; conv => whnf)
      | (refine NewG.st (by assumption) (fun bt h' hs' => ?_); conv => whnf))
    refine AW.once ?_
    repeat' (first
      | refine AW.seq ?_
      | (refine AW.region ?_; conv => whnf)
      | (refine AW.ret ?_; conv => whnf)
      | (refine AW.exit ?_; conv => whnf)
      | refine AW.cond (by rfl) ?_
      | (refine Br.df (by omega) ?_; conv => whnf))
    exact ⟨hs'.keeps, .leaf⟩
  | succ k ih =>
    rintro l r i j h0 rfl rfl hl1 hr hk hb
    have hs := St.refl h0
    refine AC.enter Tryz.func57 Tryz.call57 rfl Tryz.ntmps57 (of_decide_eq_true (by rfl)) ?_
    repeat' (first
      | refine AW.seq ?_
      | (refine AW.region ?_; conv => whnf)
      | refine AW.block ?_
      | (refine Wr.i64 (by omega) ?_; conv => whnf)
      | (refine NewG.st (by assumption) (fun bt h' hs' => ?_); conv => whnf))
    obtain ⟨h1, rfl⟩ : ∃ x, x = h' := ⟨_, rfl⟩
    have hs1 : St h0 h1 [(bt, .cells true 1 [.slice b 0 M C])] := hs'
    clear hs' hs
    have hbt : Has h1 bt [.slice b 0 M C] := St.has hs1 (.head _)
    have hg : Grid h1 b R := hb.arg hs1
    have k1 := hs1.keeps
    by_cases hlr : l + 1 ≤ r
    · refine AW.loop1 (fun (q : Nat) => [(0, .int .i64 n), (2, .int .i64 l), (3, .int .i64 r), (5, .ptr bt 0), (9, .func 98 [.ptr bt 0]), (10, .int .i64 ((l + 1 + q : Nat) : Int))]) (fun q h' => q ≤ r - l - 1 ∧ (∀ p, p < q → midP f l r p = false) ∧ h' = h1) (fun q => r - l - q) 0
        (Less.cons rfl (Less.cons rfl (Less.cons rfl (Less.cons rfl (Less.cons rfl (Less.cons rfl (Less.nil _))))))) ⟨by omega, fun p hp => by omega, rfl⟩ ?_
      rintro q h2 ⟨hq, hno, rfl⟩
      by_cases hlt : q < r - l - 1
      · have md : midP f l r q = (jnR 0 f (l : Nat) ((l + 1 + q : Nat) : Int) && jnR 0 f ((l + 1 + q : Nat) : Int) (r : Nat)) := rfl
        cases j1 : jnR 0 f (l : Nat) ((l + 1 + q : Nat) : Int) with
        | false =>
          rw [j1, Bool.false_and] at md
          repeat' (first
            | (refine (edge_ok R f b M C bt (l : Nat) ((l + 1 + q : Nat) : Int) _ hg hbt hR hM hl two (by omega) (by omega)).mono ?_; rw [j1]; rintro w h' ⟨rfl, e'⟩; subst h'; conv => whnf)
            | refine AW.seq ?_
            | (refine AW.region ?_; conv => whnf)
            | refine AW.block ?_
            | (refine AW.skip ?_; conv => whnf)
            | refine AW.cond (by rfl) ?_
            | (refine Br.ff ?_; conv => whnf)
            | (refine Br.dt (by omega) ?_; conv => whnf)
            | (refine Wr.i64 (by omega) ?_; conv => whnf))
          refine ⟨q + 1, (Less.cons rfl (Less.cons rfl (Less.cons rfl (Less.cons rfl (Less.cons rfl (Less.cons rfl (Less.nil _))))))), ⟨by omega, fun p hp => ?_, rfl⟩, by omega⟩
          by_cases c : p = q
          · rw [c]; exact md
          · exact hno p (by omega)
        | true =>
          rw [j1, Bool.true_and] at md
          cases j2 : jnR 0 f ((l + 1 + q : Nat) : Int) (r : Nat) with
          | false =>
            rw [j2] at md
            repeat' (first
              | (refine (edge_ok R f b M C bt (l : Nat) ((l + 1 + q : Nat) : Int) _ hg hbt hR hM hl two (by omega) (by omega)).mono ?_; rw [j1]; rintro w h' ⟨rfl, e'⟩; subst h'; conv => whnf)
              | (refine (edge_ok R f b M C bt ((l + 1 + q : Nat) : Int) (r : Nat) _ hg hbt hR hM hl two (by omega) (by omega)).mono ?_; rw [j2]; rintro w h' ⟨rfl, e'⟩; subst h'; conv => whnf)
              | refine AW.seq ?_
              | (refine AW.region ?_; conv => whnf)
              | refine AW.block ?_
              | (refine AW.skip ?_; conv => whnf)
              | refine AW.cond (by rfl) ?_
              | (refine Br.tt ?_; conv => whnf)
              | (refine Br.ff ?_; conv => whnf)
              | (refine Br.dt (by omega) ?_; conv => whnf)
              | (refine Wr.i64 (by omega) ?_; conv => whnf))
            refine ⟨q + 1, (Less.cons rfl (Less.cons rfl (Less.cons rfl (Less.cons rfl (Less.cons rfl (Less.cons rfl (Less.nil _))))))), ⟨by omega, fun p hp => ?_, rfl⟩, by omega⟩
            by_cases c : p = q
            · rw [c]; exact md
            · exact hno p (by omega)
          | true =>
            rw [j2] at md
            have fm : firstM f l r = some q := find_hit hlt md hno
            rw [treeT_some fm]
            repeat' (first
              | (refine And.intro ?_ ?_ <;> (conv => whnf))
              | (refine (edge_ok R f b M C bt (l : Nat) ((l + 1 + q : Nat) : Int) _ hg hbt hR hM hl two (by omega) (by omega)).mono ?_; rw [j1]; rintro w h' ⟨rfl, e'⟩; subst h'; conv => whnf)
              | (refine (edge_ok R f b M C bt ((l + 1 + q : Nat) : Int) (r : Nat) _ hg hbt hR hM hl two (by omega) (by omega)).mono ?_; rw [j2]; rintro w h' ⟨rfl, e'⟩; subst h'; conv => whnf)
              | (refine Has.load1 (by first | assumption | exact Has.keep hbt (by assumption)) ?_; conv => whnf)
              | (refine (ih l (l + 1 + q) _ _ _ rfl rfl (by omega) (by omega) (by omega) hg).mono ?_; rintro w h3 ⟨kA, mA⟩; have mA' := mA; rcases mA'.form with ⟨rfl, _⟩ | ⟨b1, rfl⟩ <;> (conv => whnf))
              | (refine (ih (l + 1 + q) r _ _ _ rfl rfl (by omega) (by omega) (by omega) (hg.keep (by assumption))).mono ?_; rintro w h4 ⟨kB, mB⟩; have mB' := mB; rcases mB'.form with ⟨rfl, _⟩ | ⟨b2, rfl⟩ <;> (conv => whnf))
              | (refine NewG.st (St.refl _) (fun bz h' hs' => ?_); conv => whnf)
              | refine AW.seq ?_
              | (refine AW.region ?_; conv => whnf)
              | refine AW.block ?_
              | (refine AW.skip ?_; conv => whnf)
              | (refine AW.ret ?_; conv => whnf)
              | refine AW.cond (by rfl) ?_
              | (refine AW.draw (id := 6) (.p 0 (.p 2 (.p 3 (.p 5 (.p 7 (.p 8 (.r 1 [4, 9, 10, 11, 12] (.all [4, 6] fun i => bif Nat.beq i 4 then (.r 6 [9, 10, 11, 12] (.all [9] fun _ => (.p 10 (.all [11] fun _ => (.p 12 .done))))) else (.all [4] fun _ => (.all [9] fun _ => (.p 10 (.all [11] fun _ => (.p 12 .done))))))))))))) (by kernel_rfl) (by kernel_rfl) ?_; conv => whnf)
              | (refine Br.tt ?_; conv => whnf)
              | (refine Br.dt (by omega) ?_; conv => whnf))
            all_goals first
              | exact ((k1.trans kA).trans kB).trans hs'.keeps
              | exact .node (St.has hs' (.head _)) ((mA.keep kB).keep hs'.keeps) (mB.keep hs'.keeps)
      · have fm : firstM f l r = none := find_miss fun p hp => hno p (by omega)
        rw [treeT_none fm]
        repeat' (first
          | refine AW.seq ?_
          | (refine AW.region ?_; conv => whnf)
          | (refine AW.ret ?_; conv => whnf)
          | (refine AW.exit ?_; conv => whnf)
          | refine AW.cond (by rfl) ?_
          | (refine Br.df (by omega) ?_; conv => whnf))
        exact ⟨k1, .leaf⟩
    · have fm : firstM f l r = none := find_miss fun p hp => by omega
      rw [treeT_none fm]
      refine AW.once ?_
      repeat' (first
        | refine AW.seq ?_
        | (refine AW.region ?_; conv => whnf)
        | (refine AW.ret ?_; conv => whnf)
        | (refine AW.exit ?_; conv => whnf)
        | refine AW.cond (by rfl) ?_
        | (refine Br.df (by omega) ?_; conv => whnf))
      exact ⟨k1, .leaf⟩

end Go.Proofs.YtbicfognbbeigaaGreat
