/-
  The law of a frieze's numbers by labels is proved.
  It holds for all rows of rows.
-/
import Derived.Test.YtbicfognbbeigaaC62
import Derived.Test.YtbicfognbbeigaaC65
set_option linter.unusedVariables false
set_option linter.unusedSimpArgs false
namespace Go.Proofs.Ytbicfognbbeigaa
open Go.Proofs.Ytbicfognbbeigaa.Ab Go.Proofs.Ytbicfognbbeigaa.Pl

/-! labels -/
def upd3 (l : List Int) (x y z : Nat) : List Int := if l.getD x 0 < 0 ∧ 0 ≤ l.getD y 0 ∧ 0 ≤ l.getD z 0 then l.set x (l.getD y 0 + l.getD z 0) else l
def corT (T : List (List Int)) (i k : Nat) : Nat := (ent T i k).toNat
def parK (T : List (List Int)) (i : Nat) (l : List Int) : Nat → List Int
  | 0 => l
  | k + 1 => upd3 (parK T i l k) (corT T i k) (corT T i ((k + 1) % 3)) (corT T i ((k + 2) % 3))
def parT (T : List (List Int)) (l : List Int) : Nat → List Int
  | 0 => l
  | i + 1 => parK T i (parT T l i) 3
def passN (T : List (List Int)) (l : List Int) : Nat → List Int
  | 0 => l
  | j + 1 => parT T (passN T l j) T.length
def negs (l : List Int) : Nat := l.countP fun x => decide (x < 0)
structure LabOk (N : Nat) (l : List Int) : Prop where
  len : l.length = N
  bd : ∀ v, v < N → -1 ≤ l.getD v 0 ∧ l.getD v 0 ≤ ((2 ^ (N - negs l) : Nat) : Int)
theorem negs_le (l : List Int) : negs l ≤ l.length := List.countP_le_length
theorem LabOk.small {N : Nat} {l : List Int} (h : LabOk N l) (hN : N ≤ 10) {v : Nat} (hv : v < N) : -1 ≤ l.getD v 0 ∧ l.getD v 0 ≤ 1024 := by
  have b := h.bd v hv
  have : 2 ^ (N - negs l) ≤ 2 ^ 10 := Nat.pow_le_pow_right (by decide) (by omega)
  omega
theorem split_at {l : List Int} {x : Nat} (h : x < l.length) (w : Int) : l = l.take x ++ l.getD x 0 :: l.drop (x + 1) ∧ l.set x w = l.take x ++ w :: l.drop (x + 1) := by
  have e : l.getD x 0 = l[x] := by simp [List.getD, h]
  refine ⟨?_, ?_⟩
  · rw [e, ← List.drop_eq_getElem_cons h, List.take_append_drop]
  · rw [List.set_eq_take_append_cons_drop, if_pos h]
theorem negs_set {l : List Int} {x : Nat} {w : Int} (h : x < l.length) (h1 : l.getD x 0 < 0) (h2 : 0 ≤ w) : negs (l.set x w) + 1 = negs l := by
  obtain ⟨e1, e2⟩ := split_at h w
  have n1 : negs l = negs (l.take x) + (1 + negs (l.drop (x + 1))) := by
    conv => lhs; rw [e1]
    unfold negs
    rw [List.countP_append, List.countP_cons, decide_eq_true h1]
    simp only [if_true]
    omega
  have n2 : negs (l.set x w) = negs (l.take x) + negs (l.drop (x + 1)) := by
    rw [e2]
    unfold negs
    rw [List.countP_append, List.countP_cons, decide_eq_false (by omega)]
    simp
  omega
theorem negs_zero {l : List Int} {x : Nat} (h : x < l.length) (h1 : l.getD x 0 = 0) : negs l + 1 ≤ l.length := by
  obtain ⟨e1, _⟩ := split_at h 0
  have n1 : negs l = negs (l.take x) + negs (l.drop (x + 1)) := by
    conv => lhs; rw [e1]
    unfold negs
    rw [List.countP_append, List.countP_cons, decide_eq_false (by omega)]
    simp
  have a := negs_le (l.take x)
  have b := negs_le (l.drop (x + 1))
  rw [List.length_take] at a
  rw [List.length_drop] at b
  omega
theorem getD_put {l : List Int} {x v : Nat} {w : Int} (h : x < l.length) : (l.set x w).getD v 0 = if v = x then w else l.getD v 0 := by
  simp only [List.getD, List.getElem?_set]
  by_cases e : x = v
  · subst e
    rw [if_pos rfl, if_pos h, if_pos rfl]
    rfl
  · rw [if_neg e, if_neg (fun c => e c.symm)]
theorem upd_fine {N : Nat} {l : List Int} {x y z : Nat} (h : LabOk N l) (hx : x < N) (hy : y < N) (hz : z < N) : LabOk N (upd3 l x y z) ∧ (upd3 l x y z = l ∨ negs (upd3 l x y z) + 1 = negs l) := by
  unfold upd3
  split
  · rename_i c
    have hl : x < l.length := by rw [h.len]; exact hx
    have ns := negs_set hl c.1 (w := l.getD y 0 + l.getD z 0) (by omega)
    refine ⟨⟨by rw [List.length_set]; exact h.len, fun v hv => ?_⟩, .inr ns⟩
    have nl := negs_le l
    rw [h.len] at nl
    have en : N - negs (l.set x (l.getD y 0 + l.getD z 0)) = N - negs l + 1 := by omega
    have b1 := (h.bd y hy).2
    have b2 := (h.bd z hz).2
    have b3 := h.bd v hv
    rw [en, Nat.pow_succ, getD_put hl]
    split <;> omega
  · exact ⟨h, .inl rfl⟩
/-- what stays as it is, or has fewer labels that are not there -/
structure LabTo (N : Nat) (l m : List Int) : Prop where
  ok : LabOk N m
  or : m = l ∨ negs m + 1 ≤ negs l
theorem LabTo.refl {N : Nat} {l : List Int} (h : LabOk N l) : LabTo N l l := ⟨h, .inl rfl⟩
theorem LabTo.upd {N : Nat} {l m : List Int} {x y z : Nat} (h : LabTo N l m) (hx : x < N) (hy : y < N) (hz : z < N) : LabTo N l (upd3 m x y z) := by
  obtain ⟨o, c⟩ := upd_fine h.ok hx hy hz
  refine ⟨o, ?_⟩
  rcases c with c | c
  · rw [c]; exact h.or
  · right
    rcases h.or with e | e
    · rw [e] at c ⊢; omega
    · omega
theorem corT_lt {T : List (List Int)} {N i k : Nat} (h : ∀ k, k < 3 → 0 ≤ ent T i k ∧ ent T i k < N) (hk : k < 3) : corT T i k < N ∧ ent T i k = (corT T i k : Nat) := by
  have := h k hk
  unfold corT
  omega
theorem parK_to {T : List (List Int)} {N i : Nat} {l m : List Int} (h : ∀ k, k < 3 → 0 ≤ ent T i k ∧ ent T i k < N) (hl : LabTo N l m) : ∀ k, k ≤ 3 → LabTo N l (parK T i m k)
  | 0, _ => hl
  | k + 1, hk => (parK_to h hl k (by omega)).upd (corT_lt h (by omega)).1 (corT_lt h (Nat.mod_lt _ (by decide))).1 (corT_lt h (Nat.mod_lt _ (by decide))).1
def Cors (T : List (List Int)) (N : Nat) : Prop := ∀ i, i < T.length → ∀ k, k < 3 → 0 ≤ ent T i k ∧ ent T i k < N
theorem parT_to {T : List (List Int)} {N : Nat} {l : List Int} (h : Cors T N) (hl : LabOk N l) : ∀ i, i ≤ T.length → LabTo N l (parT T l i)
  | 0, _ => .refl hl
  | i + 1, hi => parK_to (h i (by omega)) (parT_to h hl i (by omega)) 3 (by omega)
theorem passN_ok {T : List (List Int)} {N : Nat} {l : List Int} (h : Cors T N) (hl : LabOk N l) : ∀ j, LabOk N (passN T l j)
  | 0 => hl
  | j + 1 => (parT_to h (passN_ok h hl j) T.length (Nat.le_refl _)).ok
theorem passN_stop {T : List (List Int)} {l : List Int} {j : Nat} (h : parT T (passN T l j) T.length = passN T l j) : ∀ i, passN T l (j + i) = passN T l j
  | 0 => rfl
  | i + 1 => by
    rw [← Nat.add_assoc, passN, passN_stop h i, h]
def jnL (N : Nat) (f : List (List Int)) (A v : Nat) : Int := if (decide ((v : Int) ≠ (A : Nat)) && jnR N f (min ((A : Nat) : Int) v) (max ((A : Nat) : Int) v)) = true then 1 else -1
def lab0 (N : Nat) (f : List (List Int)) (A : Nat) : List Int := tab N fun v => if v = A then 0 else jnL N f A v
theorem jnL_or (N : Nat) (f : List (List Int)) (A v : Nat) : jnL N f A v = 1 ∨ jnL N f A v = -1 := by
  unfold jnL
  split
  · exact .inl rfl
  · exact .inr rfl
theorem lab0_ok {N : Nat} {f : List (List Int)} {A : Nat} (hA : A < N) : LabOk N (lab0 N f A) ∧ negs (lab0 N f A) + 1 ≤ N := by
  have l0 : (lab0 N f A).length = N := tab_length _ _
  refine ⟨⟨l0, fun v hv => ?_⟩, ?_⟩
  · have p : 1 ≤ 2 ^ (N - negs (lab0 N f A)) := Nat.one_le_two_pow
    have e : (lab0 N f A).getD v 0 = if v = A then 0 else jnL N f A v := tab_getD _ hv
    have := jnL_or N f A v
    rw [e]
    split <;> omega
  · have e : (lab0 N f A).getD A 0 = if A = A then 0 else jnL N f A A := tab_getD _ hA
    rw [if_pos rfl] at e
    have := negs_zero (l := lab0 N f A) (by rw [l0]; exact hA) e
    omega
def friOk (n : Int) (f : List (List Int)) (a b : Int) : Prop := 3 ≤ n ∧ isTri n f = true ∧ (0 ≤ a ∧ a ≤ n - 1) ∧ (0 ≤ b ∧ b ≤ n - 1)
instance (n : Int) (f : List (List Int)) (a b : Int) : Decidable (friOk n f a b) := inferInstanceAs (Decidable (_ ∧ _))
def friF (n : Int) (f : List (List Int)) (a b : Int) : Int := if friOk n f a b then (passN (triR n.toNat f) (lab0 n.toNat f a.toNat) n.toNat).getD b.toNat 0 else -1
def Tri3' (N : Nat) (x : List Int) : Prop := ∃ a b c : Nat, x = [(a : Int), (b : Int), (c : Int)] ∧ a < b ∧ b < c ∧ c < N
theorem triR_cors {N : Nat} {f : List (List Int)} : ∀ x ∈ triR N f, x.length = 3 ∧ ∀ k, k < 3 → 0 ≤ x.getD k 0 ∧ x.getD k 0 < N := fun x hx => by
  unfold triR triOut at hx
  obtain ⟨a, ha, hx⟩ := List.mem_flatMap.1 hx
  unfold triMid at hx
  obtain ⟨b, hb, hx⟩ := List.mem_flatMap.1 hx
  split at hx
  · rename_i hab
    unfold triIn at hx
    obtain ⟨c, hc, rfl⟩ := List.mem_map.1 hx
    obtain ⟨hc, hp⟩ := List.mem_filter.1 hc
    have h1 := List.mem_range.1 ha
    have h2 := List.mem_range.1 hb
    have h3 := List.mem_range.1 hc
    refine ⟨rfl, fun k hk => ?_⟩
    match k, hk with
    | 0, _ => simp only [List.getD_cons_zero]; omega
    | 1, _ => simp only [List.getD_cons_zero, List.getD_cons_succ]; omega
    | 2, _ => simp only [List.getD_cons_zero, List.getD_cons_succ]; omega
  · cases hx
theorem triR_at {N : Nat} {f : List (List Int)} {i : Nat} (h : i < (triR N f).length) : ((triR N f).getD i []).length = 3 ∧ ∀ k, k < 3 → 0 ≤ ent (triR N f) i k ∧ ent (triR N f) i k < N := by
  have e : (triR N f).getD i [] = (triR N f)[i] := by simp [List.getD, h]
  have := triR_cors (N := N) (f := f) _ (List.getElem_mem h)
  unfold ent
  rw [e]
  exact this

set_option maxHeartbeats 8000000 in
theorem iFri_ok (n : Int) (R : RL) (f : List (List Int)) (b M C : Nat) (x y : Int) (h0 : H) (hb : Grid h0 b R) (hR : rws R = f) (hM : M = f.length) (hl : M ≤ 1000000000) (hC : M ≤ C) (hn : (-9223372036854775808 ≤ n ∧ n ≤ 9223372036854775807) ∧ (-9223372036854775808 ≤ x ∧ x ≤ 9223372036854775807) ∧ (-9223372036854775808 ≤ y ∧ y ≤ 9223372036854775807)) :
    AC env 16 [.int .i64 n, .slice b 0 M C, .int .i64 x, .int .i64 y] h0 fun v h' => v = .int .i64 (friF n f x y) ∧ Keeps h0 h' := by
  have hs := St.refl h0
  by_cases ok : friOk n f x y
  · have e : friF n f x y = (passN (triR n.toNat f) (lab0 n.toNat f x.toNat) n.toNat).getD y.toNat 0 := if_pos ok
    obtain ⟨h3, ht, hx, hy⟩ := ok
    have te : trisF n f = (triR n.toNat f, true) := if_pos ht
    obtain ⟨N, rfl⟩ := isTri_int ht
    obtain ⟨X, rfl⟩ := Int.eq_ofNat_of_zero_le hx.1
    obtain ⟨Y, rfl⟩ := Int.eq_ofNat_of_zero_le hy.1
    rw [Int.toNat_natCast] at te
    rw [Int.toNat_natCast, Int.toNat_natCast, Int.toNat_natCast] at e
    have sz := tri_size ht
    have two := tri_two ht
    obtain ⟨_, z2, _, _⟩ := tri_tree ht
    obtain ⟨lo, ln⟩ := lab0_ok (N := N) (f := f) (A := X) (by omega)
    have ta := fun i hi => triR_at (N := N) (f := f) (i := i) hi
    have dl0 : lab0 N f X = tab N fun v => if v = X then 0 else jnL N f X v := rfl
    refine AC.enter Try.func16 Try.call16 rfl Try.ntmps16 (of_decide_eq_true (by rfl)) ?_
    repeat' (first
      | (refine (iIsTri_ok (N : Int) R f _ _ _ _ (hb.arg (by assumption)) hR hM (by omega) hC (by omega)).mono ?_; rw [ht]; rintro v h' ⟨rfl, e'⟩; subst h'; conv => whnf)
      | refine AW.seq ?_
      | (refine AW.region ?_; conv => whnf)
      | refine AW.block ?_
      | (refine AW.skip ?_; conv => whnf)
      | refine AW.cond (by rfl) ?_
      | (refine (within_ok _ _ _ _).mono ?_; rintro v h' ⟨rfl, e'⟩; subst h'; conv => whnf)
      | (refine Br.ff ?_; conv => whnf)
      | refine Br.not ?_
      | (refine Br.dt (by omega) ?_; conv => whnf)
      | (refine Br.df (by omega) ?_; conv => whnf)
      | (refine Wr.i64 (by omega) ?_; conv => whnf)
      | (refine NewG.stZ (by assumption) rfl (fun bt h' hs' => ?_); conv => whnf)
      | (refine Ck.slice (by omega) (by omega) (by omega) (by decide) ?_; conv => whnf))
    obtain ⟨h1, rfl⟩ : ∃ q, q = h' := ⟨_, rfl⟩
    have hs1 : St h0 h1 [(bt, row (ints (tab N fun _ => 0)))] := by
      have e0 : tab N (fun _ => 0) = List.replicate ((N : Nat) : Int).toNat 0 := by rw [Int.toNat_natCast, tab_replicate]
      rw [e0]
      exact hs'
    clear hs' hs
    refine AW.loop1 (fun (c : Nat) => [(0, .int .i64 N), (1, .slice b 0 M C), (2, .int .i64 X), (3, .int .i64 Y), (9, .slice bt 0 N N), (44, .int .i64 N), (45, .int .i64 c)]) (fun c h' => c ≤ N ∧ St h0 h' [(bt, row (ints (tab N fun v => if v < c then jnL N f X v else 0)))]) (fun c => N - c) 0
      (Less.cons rfl (Less.cons rfl (Less.cons rfl (Less.cons rfl (Less.cons rfl (Less.cons rfl (Less.cons rfl (Less.nil _)))))))) ⟨by omega, hs1⟩ ?_
    rintro c h2 ⟨hc, hs2⟩
    clear hs1
    by_cases hlt : c < N
    · have i0 : ((c : Nat) : Int).toNat = c := Int.toNat_natCast c
      have jd : jnL N f X c = if (decide ((c : Int) ≠ (X : Nat)) && jnR N f (min ((X : Nat) : Int) c) (max ((X : Nat) : Int) c)) = true then 1 else -1 := rfl
      have fin : ∀ w : Int, w = jnL N f X c → ((tab N fun v => if v < c then jnL N f X v else 0).set c (-1)).set c w = tab N fun v => if v < c + 1 then jnL N f X v else 0 := fun w hw => by
        rw [List.set_set, tab_set, hw]
        refine tab_congr fun v hv => ?_
        by_cases q : v = c
        · rw [if_pos q, if_pos (by omega), q]
        · rw [if_neg q]
          by_cases q2 : v < c
          · rw [if_pos q2, if_pos (by omega)]
          · rw [if_neg q2, if_neg (by omega)]
      have fin2 : jnL N f X c = -1 → ((tab N fun v => if v < c then jnL N f X v else 0).set c (-1)) = tab N fun v => if v < c + 1 then jnL N f X v else 0 := fun hw => by
        have := fin (-1) hw.symm
        rwa [List.set_set] at this
      by_cases q : c = X
      · rw [decide_eq_false (by omega), Bool.false_and, if_neg (by decide)] at jd
        repeat' (first
          | (refine StoreG.stZ hs2 .here rfl (by rw [tab_length]; omega) (fun h3 hs3 => ?_); rw [i0] at hs3; conv => whnf)
          | refine AW.seq ?_
          | (refine AW.region ?_; conv => whnf)
          | refine AW.block ?_
          | (refine AW.skip ?_; conv => whnf)
          | refine AW.cond (by rfl) ?_
          | (refine Br.ff ?_; conv => whnf)
          | refine Br.not ?_
          | (refine Br.dt (by omega) ?_; conv => whnf)
          | (refine Wr.i64 (by omega) ?_; conv => whnf)
          | (refine Ck.mk (by omega) ?_; conv => whnf))
        refine ⟨c + 1, (Less.cons rfl (Less.cons rfl (Less.cons rfl (Less.cons rfl (Less.cons rfl (Less.cons rfl (Less.cons rfl (Less.nil _)))))))), ⟨by omega, ?_⟩, by omega⟩
        rw [fin2 jd] at hs3
        exact hs3
      · rw [decide_eq_true (by omega), Bool.true_and] at jd
        cases j : jnR N f (min ((X : Nat) : Int) c) (max ((X : Nat) : Int) c) with
        | false =>
          rw [j, if_neg (by decide)] at jd
          repeat' (first
            | (refine StoreG.stZ hs2 .here rfl (by rw [tab_length]; omega) (fun h3 hs3 => ?_); rw [i0] at hs3; have hg3 := hb.arg hs3; conv => whnf)
            | (refine (joins_ok (N : Int) R f _ _ _ ((X : Nat) : Int) (c : Int) _ hg3 hR hM (by omega) two (by omega) (by omega) (by omega) (by omega)).mono ?_; rw [j]; rintro v h' ⟨rfl, e'⟩; subst h'; conv => whnf)
            | refine AW.seq ?_
            | (refine AW.region ?_; conv => whnf)
            | refine AW.block ?_
            | (refine AW.skip ?_; conv => whnf)
            | refine AW.cond (by rfl) ?_
            | (refine Br.ff ?_; conv => whnf)
            | refine Br.not ?_
            | (refine Br.dt (by omega) ?_; conv => whnf)
            | (refine Br.df (by omega) ?_; conv => whnf)
            | (refine Wr.i64 (by omega) ?_; conv => whnf)
            | (refine Ck.mk (by omega) ?_; conv => whnf))
          refine ⟨c + 1, (Less.cons rfl (Less.cons rfl (Less.cons rfl (Less.cons rfl (Less.cons rfl (Less.cons rfl (Less.cons rfl (Less.nil _)))))))), ⟨by omega, ?_⟩, by omega⟩
          rw [fin2 jd] at hs3
          exact hs3
        | true =>
          rw [j, if_pos rfl] at jd
          repeat' (first
            | (refine (joins_ok (N : Int) R f _ _ _ ((X : Nat) : Int) (c : Int) _ hg3 hR hM (by omega) two (by omega) (by omega) (by omega) (by omega)).mono ?_; rw [j]; rintro v h' ⟨rfl, e'⟩; subst h'; conv => whnf)
            | (refine StoreG.stZ hs2 .here rfl (by rw [tab_length]; omega) (fun h3 hs3 => ?_); rw [i0] at hs3; have hg3 := hb.arg hs3; conv => whnf)
            | (refine StoreG.stZ hs3 .here rfl (by rw [List.length_set, tab_length]; omega) (fun h4 hs4 => ?_); rw [i0] at hs4; conv => whnf)
            | refine AW.seq ?_
            | (refine AW.region ?_; conv => whnf)
            | refine AW.block ?_
            | (refine AW.skip ?_; conv => whnf)
            | refine AW.cond (by rfl) ?_
            | (refine Br.tt ?_; conv => whnf)
            | refine Br.not ?_
            | (refine Br.dt (by omega) ?_; conv => whnf)
            | (refine Br.df (by omega) ?_; conv => whnf)
            | (refine Wr.i64 (by omega) ?_; conv => whnf)
            | (refine Ck.mk (by omega) ?_; conv => whnf))
          refine ⟨c + 1, (Less.cons rfl (Less.cons rfl (Less.cons rfl (Less.cons rfl (Less.cons rfl (Less.cons rfl (Less.cons rfl (Less.nil _)))))))), ⟨by omega, ?_⟩, by omega⟩
          rw [fin 1 jd.symm] at hs4
          exact hs4
    · obtain rfl : c = N := by omega
      have el : (tab c fun v => if v < c then jnL c f X v else 0).set X 0 = lab0 c f X := by
        rw [tab_set, dl0]
        refine tab_congr fun v hv => ?_
        by_cases q : v = X
        · rw [if_pos q, if_pos q]
        · rw [if_neg q, if_neg q, if_pos hv]
      generalize hT : triR c f = T at *
      repeat' (first
        | (refine StoreG.stZ hs2 .here rfl (by rw [tab_length]; omega) (fun h3 hs3 => ?_); rw [Int.toNat_natCast, el] at hs3; have hg3 := hb.arg hs3; conv => whnf)
        | (refine (iTris_ok (c : Int) R f _ _ _ _ hg3 hR hM (by omega) hC (by omega)).mono ?_; rw [te]; rintro v h4 ⟨bT, CT, RT, rfl, hRT, lRT, hsT⟩; have hs4 := St.callR hs3 hsT; clear hsT; have hRT : rws RT = T := hRT; have lRT : List.length RT = T.length := lRT; conv => whnf)
        | refine AW.seq ?_
        | (refine AW.region ?_; conv => whnf)
        | refine AW.block ?_
        | (refine AW.exit ?_; conv => whnf)
        | refine AW.cond (by rfl) ?_
        | (refine Br.df (by omega) ?_; conv => whnf)
        | (refine Ck.mk (by omega) ?_; conv => whnf))
      have cr : Cors T c := fun i hi => (ta i hi).2
      refine AW.loop3 (fun (ag : Bool) (j : Nat) (l : List Int) => [(3, .int .i64 Y), (9, .slice bt 0 c c), (11, .slice bT 0 T.length CT), (13, .bool ag)]) (fun ag j l h' => l = passN T (lab0 c f X) j ∧ (ag = true → j + negs l + 1 ≤ c) ∧ (ag = false → j ≤ c ∧ parT T l T.length = l) ∧ St h0 h' ((bT, row (slcs RT)) :: (blks RT ++ [(bt, row (ints l))]))) (fun ag j l => negs l + negs l + ag.toNat) true 0 (lab0 c f X)
        (Less.cons rfl (Less.cons rfl (Less.cons rfl (Less.cons rfl (Less.nil _))))) ⟨rfl, fun _ => by omega, (fun h => by cases h), hs4⟩ ?_
      rintro ag j l h5 ⟨hj, hag, hno, hs5⟩
      clear hs4 hs3 hs2
      have lok : LabOk c l := hj ▸ passN_ok cr lo j
      cases ag with
      | false =>
        obtain ⟨hjc, hst⟩ := hno rfl
        have ps : passN T (lab0 c f X) c = l := by
          have := passN_stop (T := T) (l := lab0 c f X) (j := j) (by rw [← hj]; exact hst) (c - j)
          rw [show j + (c - j) = c by omega] at this
          rw [this, hj]
        have hL : Has h5 bt (ints l) := St.has hs5 (List.mem_cons_of_mem _ (List.mem_append_right _ (.head _)))
        repeat' (first
          | (refine Has.loadZ hL rfl (by rw [lok.len]; omega) ?_; conv => whnf)
          | refine AW.seq ?_
          | (refine AW.region ?_; conv => whnf)
          | (refine AW.ret ?_; conv => whnf)
          | (refine AW.exit ?_; conv => whnf)
          | refine AW.cond (by rfl) ?_
          | (refine Br.ff ?_; conv => whnf)
          | (refine Ck.mk (by omega) ?_; conv => whnf))
        exact ⟨by rw [e, ps]; rfl, hs5.keeps⟩
      | true =>
        have hag := hag rfl
        repeat' (first
          | refine AW.seq ?_
          | (refine AW.region ?_; conv => whnf)
          | refine AW.block ?_
          | (refine AW.skip ?_; conv => whnf)
          | refine AW.cond (by rfl) ?_
          | (refine Br.tt ?_; conv => whnf))
        refine AW.loop3 (fun (i : Nat) (ag : Bool) (m : List Int) => [(3, .int .i64 Y), (9, .slice bt 0 c c), (11, .slice bT 0 T.length CT), (13, .bool ag), (75, .slice bT 0 T.length CT), (76, .int .i64 T.length), (77, .int .i64 i)]) (fun i ag m h' => i ≤ T.length ∧ m = parT T l i ∧ (ag = true → negs m + 1 ≤ negs l) ∧ (ag = false → m = l) ∧ St h0 h' ((bT, row (slcs RT)) :: (blks RT ++ [(bt, row (ints m))]))) (fun i _ _ => T.length - i) 0 false l
          (Less.cons rfl (Less.cons rfl (Less.cons rfl (Less.cons rfl (Less.cons rfl (Less.cons rfl (Less.cons rfl (Less.nil _)))))))) ⟨by omega, rfl, (fun h => by cases h), fun _ => rfl, hs5⟩ ?_
        rintro i ag m h6 ⟨hi, hm, hg1, hg2, hs6⟩
        clear hs5
        have to := parT_to cr lok i hi
        rw [← hm] at to
        by_cases hlt2 : i < T.length
        · have gT := St.gridAt hs6 .here
          have ll := (ta i hlt2).1
          have la := cr i hlt2
          repeat' (first
            | (refine Grid.rowAt gT hRT i rfl (by omega) (by omega) ll ?_; conv => whnf)
            | refine AW.seq ?_
            | (refine AW.region ?_; conv => whnf)
            | refine AW.block ?_
            | (refine AW.skip ?_; conv => whnf)
            | refine AW.cond (by rfl) ?_
            | (refine Br.dt (by omega) ?_; conv => whnf)
            | (refine Ck.mk (by omega) ?_; conv => whnf))
          refine AW.loop3 (fun (k : Nat) (ag : Bool) (p : List Int) => [(3, .int .i64 Y), (9, .slice bt 0 c c), (11, .slice bT 0 T.length CT), (13, .bool ag), (75, .slice bT 0 T.length CT), (76, .int .i64 T.length), (77, .int .i64 i), (15, .slice (rb RT i) 0 3 3), (81, .int .i64 k)]) (fun k ag p h' => k ≤ 3 ∧ p = parK T i m k ∧ (ag = true → negs p + 1 ≤ negs l) ∧ (ag = false → p = l) ∧ St h0 h' ((bT, row (slcs RT)) :: (blks RT ++ [(bt, row (ints p))]))) (fun k _ _ => 3 - k) 0 ag m
            (Less.cons rfl (Less.cons rfl (Less.cons rfl (Less.cons rfl (Less.cons rfl (Less.cons rfl (Less.cons rfl (Less.cons rfl (Less.cons rfl (Less.nil _)))))))))) ⟨by omega, rfl, hg1, hg2, hs6⟩ ?_
          rintro k ag2 p h7 ⟨hk, hp, hg3, hg4, hs7⟩
          clear hs6 gT
          have top := parK_to la to k hk
          rw [← hp] at top
          by_cases hlt3 : k < 3
          · have gT := St.gridAt hs7 .here
            have hL : Has h7 bt (ints p) := St.has hs7 (List.mem_cons_of_mem _ (List.mem_append_right _ (.head _)))
            have lp := top.ok.len
            have m1 : ((k : Int) + 1).tmod 3 = (((k + 1) % 3 : Nat) : Int) := rfl
            have m2 : ((k : Int) + 2).tmod 3 = (((k + 2) % 3 : Nat) : Int) := rfl
            have q1 : (k + 1) % 3 < 3 := Nat.mod_lt _ (by decide)
            have q2 : (k + 2) % 3 < 3 := Nat.mod_lt _ (by decide)
            obtain ⟨x0, y0⟩ := corT_lt la hlt3
            obtain ⟨x1, y1⟩ := corT_lt la q1
            obtain ⟨x2, y2⟩ := corT_lt la q2
            have ps : parK T i m (k + 1) = upd3 p (corT T i k) (corT T i ((k + 1) % 3)) (corT T i ((k + 2) % 3)) := by rw [hp]; rfl
            have uf := upd_fine top.ok x0 x1 x2
            have b0 := top.ok.small (by omega) x0
            have b1 := top.ok.small (by omega) x1
            have b2 := top.ok.small (by omega) x2
            have ud : upd3 p (corT T i k) (corT T i ((k + 1) % 3)) (corT T i ((k + 2) % 3)) = if p.getD (corT T i k) 0 < 0 ∧ 0 ≤ p.getD (corT T i ((k + 1) % 3)) 0 ∧ 0 ≤ p.getD (corT T i ((k + 2) % 3)) 0 then p.set (corT T i k) (p.getD (corT T i ((k + 1) % 3)) 0 + p.getD (corT T i ((k + 2) % 3)) 0) else p := rfl
            have rr : T.length = RT.length := lRT.symm
            generalize corT T i k = x at *
            generalize hk1 : (k + 1) % 3 = k1 at *
            generalize hk2 : (k + 2) % 3 = k2 at *
            generalize corT T i k1 = y at *
            generalize corT T i k2 = z at *
            by_cases cd : p.getD x 0 < 0 ∧ 0 ≤ p.getD y 0 ∧ 0 ≤ p.getD z 0
            · rw [if_pos cd] at ud
              have ng := negs_set (l := p) (x := x) (w := p.getD y 0 + p.getD z 0) (by omega) cd.1 (by omega)
              repeat' (first
                | (refine Grid.numAt gT hRT i k rfl (by omega) (by omega) (by omega) ?_; rw [y0]; conv => whnf)
                | (refine Grid.numAt gT hRT i k1 rfl (by omega) (by omega) (by omega) ?_; rw [y1]; conv => whnf)
                | (refine Grid.numAt gT hRT i k2 rfl (by omega) (by omega) (by omega) ?_; rw [y2]; conv => whnf)
                | (refine Has.loadZ hL rfl (by omega) ?_; rw [Int.toNat_natCast]; conv => whnf)
                | (refine StoreG.stZ hs7 (.there (Spot.app .here)) rfl (by omega) (fun h' hs' => ?_); rw [Int.toNat_natCast] at hs'; conv => whnf)
                | refine AW.seq ?_
                | (refine AW.region ?_; conv => whnf)
                | refine AW.block ?_
                | (refine AW.skip ?_; conv => whnf)
                | refine AW.cond (by rfl) ?_
                | (refine AW.draw (id := 22) (.p 0 (.p 1 (.p 2 (.p 4 (.p 5 (.p 6 (.p 7 (.p 8 (.p 10 (.p 11 (.p 12 (.p 13 (.p 14 (.r 3 [16, 17, 18] (.p 16 (.r 9 [17, 18] (.p 17 (.r 15 [18] (.p 18 .done))))))))))))))))))) (by kernel_rfl) (by kernel_rfl) ?_; conv => whnf)
                | (refine AW.draw (id := 24) (.p 0 (.p 1 (.p 2 (.p 3 (.p 4 (.p 6 (.p 7 (.p 8 (.r 5 [10, 11, 12] (.r 9 [10, 11, 12] (.p 10 (.p 11 (.all [12] fun _ => .done))))))))))))) (by kernel_rfl) (by kernel_rfl) ?_; conv => whnf)
                | (refine Br.dt (by omega) ?_; conv => whnf)
                | (refine Wr.i64 (by omega) ?_; conv => whnf)
                | (refine Ck.mk (by omega) ?_; conv => whnf))
              all_goals
                refine ⟨k + 1, true, _, (Less.cons rfl (Less.cons rfl (Less.cons rfl (Less.cons rfl (Less.cons rfl (Less.cons rfl (Less.cons rfl (Less.cons rfl (Less.cons rfl (Less.nil _)))))))))), ⟨by omega, rfl, fun _ => ?_, (fun h => by cases h), ?_⟩, by omega⟩
                · rw [ps, ud]
                  rcases top.or with c | c
                  · rw [c] at ng ⊢; omega
                  · omega
                · rw [ps, ud]
                  exact hs'
            · rw [if_neg cd] at ud
              repeat' (first
                | (refine Grid.numAt gT hRT i k rfl (by omega) (by omega) (by omega) ?_; rw [y0]; conv => whnf)
                | (refine Grid.numAt gT hRT i k1 rfl (by omega) (by omega) (by omega) ?_; rw [y1]; conv => whnf)
                | (refine Grid.numAt gT hRT i k2 rfl (by omega) (by omega) (by omega) ?_; rw [y2]; conv => whnf)
                | (refine Has.loadZ hL rfl (by omega) ?_; rw [Int.toNat_natCast]; conv => whnf)
                | refine AW.seq ?_
                | (refine AW.region ?_; conv => whnf)
                | refine AW.block ?_
                | (refine AW.skip ?_; conv => whnf)
                | refine AW.cond (by rfl) ?_
                | (refine AW.draw (id := 22) (.p 0 (.p 1 (.p 2 (.p 4 (.p 5 (.p 6 (.p 7 (.p 8 (.p 10 (.p 11 (.p 12 (.p 13 (.p 14 (.r 3 [16, 17, 18] (.p 16 (.r 9 [17, 18] (.p 17 (.r 15 [18] (.p 18 .done))))))))))))))))))) (by kernel_rfl) (by kernel_rfl) ?_; conv => whnf)
                | (refine Br.ff ?_; conv => whnf)
                | (refine Br.dt (by omega) ?_; conv => whnf)
                | (refine Br.df (by omega) ?_; conv => whnf)
                | (refine Br.dec (fun hc => ?_) (fun hc => ?_) <;> conv => whnf)
                | (refine Wr.i64 (by omega) ?_; conv => whnf)
                | (refine Ck.mk (by omega) ?_; conv => whnf))
              all_goals exact ⟨k + 1, ag2, p, (Less.cons rfl (Less.cons rfl (Less.cons rfl (Less.cons rfl (Less.cons rfl (Less.cons rfl (Less.cons rfl (Less.cons rfl (Less.cons rfl (Less.nil _)))))))))), ⟨by omega, by rw [ps, ud], hg3, hg4, hs7⟩, by omega⟩
          · obtain rfl : k = 3 := by omega
            repeat' (first
              | refine AW.seq ?_
              | (refine AW.region ?_; conv => whnf)
              | (refine AW.exit ?_; conv => whnf)
              | refine AW.cond (by rfl) ?_
              | (refine Br.ff ?_; conv => whnf)
              | (refine Wr.i64 (by omega) ?_; conv => whnf))
            exact ⟨i + 1, ag2, p, (Less.cons rfl (Less.cons rfl (Less.cons rfl (Less.cons rfl (Less.cons rfl (Less.cons rfl (Less.cons rfl (Less.nil _)))))))), ⟨by omega, by rw [hp, hm]; rfl, hg3, hg4, hs7⟩, by omega⟩
        · obtain rfl : i = T.length := by omega
          repeat' (first
            | refine AW.seq ?_
            | (refine AW.region ?_; conv => whnf)
            | (refine AW.exit ?_; conv => whnf)
            | refine AW.cond (by rfl) ?_
            | (refine Br.df (by omega) ?_; conv => whnf))
          refine ⟨ag, j + 1, m, (Less.cons rfl (Less.cons rfl (Less.cons rfl (Less.cons rfl (Less.nil _))))), ⟨by rw [hm, hj]; rfl, fun h => ?_, fun h => ?_, hs6⟩, ?_⟩
          · have := hg1 h; omega
          · have := hg2 h
            exact ⟨by omega, by rw [this] at hm ⊢; exact hm.symm⟩
          · cases ag with
            | true => have := hg1 rfl; simp only [Bool.toNat_true]; omega
            | false => rw [hg2 rfl]; simp only [Bool.toNat_true, Bool.toNat_false]; omega
  · have e : friF n f x y = -1 := if_neg ok
    by_cases h3 : 3 ≤ n
    · by_cases ht : isTri n f = true
      · have hxy : ¬ ((0 ≤ x ∧ x ≤ n - 1) ∧ (0 ≤ y ∧ y ≤ n - 1)) := fun a => ok ⟨h3, ht, a⟩
        have sz := (isTri_spec ht).1.1
        refine AC.enter Try.func16 Try.call16 rfl Try.ntmps16 (of_decide_eq_true (by rfl)) ?_
        repeat' (first
          | (refine (iIsTri_ok n R f _ _ _ _ (hb.arg (by assumption)) hR hM (by omega) hC (by omega)).mono ?_; rw [ht]; rintro v h' ⟨rfl, e'⟩; subst h'; conv => whnf)
          | refine AW.seq ?_
          | (refine AW.region ?_; conv => whnf)
          | (refine AW.ret ?_; conv => whnf)
          | refine AW.cond (by rfl) ?_
          | (refine (within_ok _ _ _ _).mono ?_; rintro v h' ⟨rfl, e'⟩; subst h'; conv => whnf)
          | (refine Br.tt ?_; conv => whnf)
          | (refine Br.ff ?_; conv => whnf)
          | refine Br.not ?_
          | (refine Br.dt (by omega) ?_; conv => whnf)
          | (refine Br.df (by omega) ?_; conv => whnf)
          | (refine Br.dec (fun hc => ?_) (fun hc => ?_) <;> conv => whnf)
          | (refine Wr.i64 (by omega) ?_; conv => whnf))
        all_goals first
          | (exfalso; omega)
          | exact ⟨by rw [e], hs.keeps⟩
      · have ht : isTri n f = false := by simpa using ht
        refine AC.enter Try.func16 Try.call16 rfl Try.ntmps16 (of_decide_eq_true (by rfl)) ?_
        repeat' (first
          | (refine (iIsTri_ok n R f _ _ _ _ (hb.arg (by assumption)) hR hM (by omega) hC (by omega)).mono ?_; rw [ht]; rintro v h' ⟨rfl, e'⟩; subst h'; conv => whnf)
          | refine AW.seq ?_
          | (refine AW.region ?_; conv => whnf)
          | (refine AW.ret ?_; conv => whnf)
          | refine AW.cond (by rfl) ?_
          | (refine Br.tt ?_; conv => whnf)
          | (refine Br.df (by omega) ?_; conv => whnf))
        all_goals exact ⟨by rw [e], hs.keeps⟩
    · refine AC.enter Try.func16 Try.call16 rfl Try.ntmps16 (of_decide_eq_true (by rfl)) ?_
      repeat' (first
        | refine AW.seq ?_
        | (refine AW.region ?_; conv => whnf)
        | (refine AW.ret ?_; conv => whnf)
        | refine AW.cond (by rfl) ?_
        | (refine Br.tt ?_; conv => whnf)
        | (refine Br.dt (by omega) ?_; conv => whnf))
      all_goals exact ⟨by rw [e], hs.keeps⟩

set_option maxHeartbeats 8000000 in
theorem sFri_ok (n : Int) (R : RL) (f : List (List Int)) (b M C : Nat) (x y : Int) (h0 : H) (hb : Grid h0 b R) (hR : rws R = f) (hM : M = f.length) (hl : M ≤ 1000000000) (hn : (-9223372036854775808 ≤ n ∧ n ≤ 9223372036854775807) ∧ (-9223372036854775808 ≤ x ∧ x ≤ 9223372036854775807) ∧ (-9223372036854775808 ≤ y ∧ y ≤ 9223372036854775807)) :
    AC env 25 [.int .i64 n, .slice b 0 M C, .int .i64 x, .int .i64 y] h0 fun v h' => v = .int .i64 (friF n f x y) ∧ Keeps h0 h' := by
  have hs := St.refl h0
  by_cases ok : friOk n f x y
  · have e : friF n f x y = (passN (triR n.toNat f) (lab0 n.toNat f x.toNat) n.toNat).getD y.toNat 0 := if_pos ok
    obtain ⟨h3, ht, hx, hy⟩ := ok
    have te : trisF n f = (triR n.toNat f, true) := if_pos ht
    obtain ⟨N, rfl⟩ := isTri_int ht
    obtain ⟨X, rfl⟩ := Int.eq_ofNat_of_zero_le hx.1
    obtain ⟨Y, rfl⟩ := Int.eq_ofNat_of_zero_le hy.1
    rw [Int.toNat_natCast] at te
    rw [Int.toNat_natCast, Int.toNat_natCast, Int.toNat_natCast] at e
    have sz := tri_size ht
    have two := tri_two ht
    obtain ⟨_, z2, _, _⟩ := tri_tree ht
    obtain ⟨lo, ln⟩ := lab0_ok (N := N) (f := f) (A := X) (by omega)
    have ta := fun i hi => triR_at (N := N) (f := f) (i := i) hi
    have dl0 : lab0 N f X = tab N fun v => if v = X then 0 else jnL N f X v := rfl
    generalize hT : triR N f = T at *
    refine AC.enter Try.func25 Try.call25 rfl Try.ntmps25 (of_decide_eq_true (by rfl)) ?_
    repeat' (first
      | (refine (sTris_ok (N : Int) R f _ _ _ _ (hb.arg (by assumption)) hR hM (by omega) (by omega)).mono ?_; rw [te]; rintro v h4 ⟨bT, CT, RT, rfl, hRT, lRT, hsT⟩; have hs4 := St.callR hs hsT; clear hsT; have hRT : rws RT = T := hRT; have lRT : List.length RT = T.length := lRT; conv => whnf)
      | refine AW.seq ?_
      | (refine AW.region ?_; conv => whnf)
      | refine AW.block ?_
      | (refine AW.skip ?_; conv => whnf)
      | refine AW.cond (by rfl) ?_
      | (refine (l1In_ok _ _ _ _).mono ?_; rintro v h' ⟨rfl, e'⟩; subst h'; conv => whnf)
      | (refine Br.ff ?_; conv => whnf)
      | refine Br.not ?_
      | (refine Br.dt (by omega) ?_; conv => whnf)
      | (refine Br.df (by omega) ?_; conv => whnf)
      | (refine Wr.i64 (by omega) ?_; conv => whnf)
      | (refine NewG.stZ (by assumption) rfl (fun bt h' hs' => ?_); conv => whnf)
      | (refine Ck.slice (by omega) (by omega) (by omega) (by decide) ?_; conv => whnf))
    obtain ⟨h1, rfl⟩ : ∃ q, q = h' := ⟨_, rfl⟩
    have hs1 : St h0 h1 ((bt, row (ints (tab N fun _ => 0))) :: (bT, row (slcs RT)) :: (blks RT ++ [])) := by
      have e0 : tab N (fun _ => 0) = List.replicate ((N : Nat) : Int).toNat 0 := by rw [Int.toNat_natCast, tab_replicate]
      rw [e0]
      exact hs'
    clear hs' hs hs4
    refine AW.loop1 (fun (c : Nat) => [(0, .int .i64 N), (1, .slice b 0 M C), (2, .int .i64 X), (3, .int .i64 Y), (9, .slice bT 0 T.length CT), (11, .slice bt 0 N N), (12, .int .i64 c)]) (fun c h' => c ≤ N ∧ St h0 h' ((bt, row (ints (tab N fun v => if v < c then (if v = X then 0 else jnL N f X v) else 0))) :: (bT, row (slcs RT)) :: (blks RT ++ []))) (fun c => N - c) 0
      (Less.cons rfl (Less.cons rfl (Less.cons rfl (Less.cons rfl (Less.cons rfl (Less.cons rfl (Less.cons rfl (Less.nil _)))))))) ⟨by omega, hs1⟩ ?_
    rintro c h2 ⟨hc, hs2⟩
    clear hs1
    by_cases hlt : c < N
    · have i0 : ((c : Nat) : Int).toNat = c := Int.toNat_natCast c
      have mn : min ((X : Nat) : Int) c = min ((X : Nat) : Int) c := rfl
      have jd : jnL N f X c = if (decide ((c : Int) ≠ (X : Nat)) && jnR N f (min ((X : Nat) : Int) c) (max ((X : Nat) : Int) c)) = true then 1 else -1 := rfl
      have fin : ∀ w : Int, w = (if c = X then 0 else jnL N f X c) → ((tab N fun v => if v < c then (if v = X then 0 else jnL N f X v) else 0).set c (-1)).set c w = tab N fun v => if v < c + 1 then (if v = X then 0 else jnL N f X v) else 0 := fun w hw => by
        rw [List.set_set, tab_set, hw]
        refine tab_congr fun v hv => ?_
        by_cases q : v = c
        · rw [if_pos q, if_pos (show v < c + 1 by omega), q]
        · rw [if_neg q]
          by_cases q2 : v < c
          · rw [if_pos q2, if_pos (show v < c + 1 by omega)]
          · rw [if_neg q2, if_neg (show ¬ v < c + 1 by omega)]
      by_cases q : c = X
      · rw [if_pos q] at fin
        repeat' (first
          | (refine StoreG.stZ hs2 .here rfl (by rw [tab_length]; omega) (fun h3 hs3 => ?_); rw [i0] at hs3; conv => whnf)
          | (refine StoreG.stZ hs3 .here rfl (by rw [List.length_set, tab_length]; omega) (fun h4 hs4 => ?_); rw [i0] at hs4; conv => whnf)
          | refine AW.seq ?_
          | (refine AW.region ?_; conv => whnf)
          | refine AW.block ?_
          | (refine AW.skip ?_; conv => whnf)
          | refine AW.cond (by rfl) ?_
          | (refine Br.dt (by omega) ?_; conv => whnf)
          | (refine Wr.i64 (by omega) ?_; conv => whnf)
          | (refine Ck.mk (by omega) ?_; conv => whnf))
        refine ⟨c + 1, (Less.cons rfl (Less.cons rfl (Less.cons rfl (Less.cons rfl (Less.cons rfl (Less.cons rfl (Less.cons rfl (Less.nil _)))))))), ⟨by omega, ?_⟩, by omega⟩
        rw [fin 0 rfl] at hs4
        exact hs4
      · rw [if_neg q] at fin
        have fin2 : jnL N f X c = -1 → ((tab N fun v => if v < c then (if v = X then 0 else jnL N f X v) else 0).set c (-1)) = tab N fun v => if v < c + 1 then (if v = X then 0 else jnL N f X v) else 0 := fun hw => by
          have := fin (-1) hw.symm
          rwa [List.set_set] at this
        rw [decide_eq_true (by omega), Bool.true_and] at jd
        cases j : jnR N f (min ((X : Nat) : Int) c) (max ((X : Nat) : Int) c) with
        | false =>
          rw [j, if_neg (by decide)] at jd
          repeat' (first
            | (refine StoreG.stZ hs2 .here rfl (by rw [tab_length]; omega) (fun h3 hs3 => ?_); rw [i0] at hs3; have hg3 := hb.arg hs3; conv => whnf)
            | (refine (l7Side_ok (N : Int) R f _ _ _ (min ((X : Nat) : Int) c) (max ((X : Nat) : Int) c) _ hg3 hR hM (by omega) two (by omega) (by omega)).mono ?_; rw [j]; rintro v h' ⟨rfl, e'⟩; subst h'; conv => whnf)
            | refine AW.seq ?_
            | (refine AW.region ?_; conv => whnf)
            | refine AW.block ?_
            | (refine AW.skip ?_; conv => whnf)
            | refine AW.cond (by rfl) ?_
            | (refine Br.ff ?_; conv => whnf)
            | (refine Br.dt (by omega) ?_; conv => whnf)
            | (refine Br.df (by omega) ?_; conv => whnf)
            | (refine Wr.i64 (by omega) ?_; conv => whnf)
            | (refine Ck.mk (by omega) ?_; conv => whnf))
          refine ⟨c + 1, (Less.cons rfl (Less.cons rfl (Less.cons rfl (Less.cons rfl (Less.cons rfl (Less.cons rfl (Less.cons rfl (Less.nil _)))))))), ⟨by omega, ?_⟩, by omega⟩
          rw [fin2 jd] at hs3
          exact hs3
        | true =>
          rw [j, if_pos rfl] at jd
          repeat' (first
            | (refine StoreG.stZ hs2 .here rfl (by rw [tab_length]; omega) (fun h3 hs3 => ?_); rw [i0] at hs3; have hg3 := hb.arg hs3; conv => whnf)
            | (refine (l7Side_ok (N : Int) R f _ _ _ (min ((X : Nat) : Int) c) (max ((X : Nat) : Int) c) _ hg3 hR hM (by omega) two (by omega) (by omega)).mono ?_; rw [j]; rintro v h' ⟨rfl, e'⟩; subst h'; conv => whnf)
            | (refine StoreG.stZ hs3 .here rfl (by rw [List.length_set, tab_length]; omega) (fun h4 hs4 => ?_); rw [i0] at hs4; conv => whnf)
            | refine AW.seq ?_
            | (refine AW.region ?_; conv => whnf)
            | refine AW.block ?_
            | (refine AW.skip ?_; conv => whnf)
            | refine AW.cond (by rfl) ?_
            | (refine Br.tt ?_; conv => whnf)
            | (refine Br.dt (by omega) ?_; conv => whnf)
            | (refine Br.df (by omega) ?_; conv => whnf)
            | (refine Wr.i64 (by omega) ?_; conv => whnf)
            | (refine Ck.mk (by omega) ?_; conv => whnf))
          refine ⟨c + 1, (Less.cons rfl (Less.cons rfl (Less.cons rfl (Less.cons rfl (Less.cons rfl (Less.cons rfl (Less.cons rfl (Less.nil _)))))))), ⟨by omega, ?_⟩, by omega⟩
          rw [fin 1 jd.symm] at hs4
          exact hs4
    · obtain rfl : c = N := by omega
      have el : (tab c fun v => if v < c then (if v = X then 0 else jnL c f X v) else 0) = lab0 c f X := by
        rw [dl0]
        exact tab_congr fun v hv => by rw [if_pos hv]
      rw [el] at hs2
      have cr : Cors T c := fun i hi => (ta i hi).2
      repeat' (first
        | refine AW.seq ?_
        | (refine AW.region ?_; conv => whnf)
        | refine AW.block ?_
        | (refine AW.exit ?_; conv => whnf)
        | refine AW.cond (by rfl) ?_
        | (refine Br.df (by omega) ?_; conv => whnf))
      refine AW.loop2 (fun (j : Nat) (l : List Int) => [(0, .int .i64 c), (3, .int .i64 Y), (9, .slice bT 0 T.length CT), (11, .slice bt 0 c c), (13, .int .i64 j)]) (fun j l h' => j ≤ c ∧ l = passN T (lab0 c f X) j ∧ St h0 h' ((bt, row (ints l)) :: (bT, row (slcs RT)) :: (blks RT ++ []))) (fun j _ => c - j) 0 (lab0 c f X)
        (Less.cons rfl (Less.cons rfl (Less.cons rfl (Less.cons rfl (Less.cons rfl (Less.nil _)))))) ⟨by omega, rfl, hs2⟩ ?_
      rintro j l h5 ⟨hjc, hj, hs5⟩
      clear hs2
      have lok : LabOk c l := hj ▸ passN_ok cr lo j
      by_cases hlt4 : j < c
      · repeat' (first
          | refine AW.seq ?_
          | (refine AW.region ?_; conv => whnf)
          | refine AW.block ?_
          | (refine AW.skip ?_; conv => whnf)
          | refine AW.cond (by rfl) ?_
          | (refine Br.dt (by omega) ?_; conv => whnf))
        refine AW.loop2 (fun (i : Nat) (m : List Int) => [(0, .int .i64 c), (3, .int .i64 Y), (9, .slice bT 0 T.length CT), (11, .slice bt 0 c c), (13, .int .i64 j), (14, .int .i64 i)]) (fun i m h' => i ≤ T.length ∧ m = parT T l i ∧ St h0 h' ((bt, row (ints m)) :: (bT, row (slcs RT)) :: (blks RT ++ []))) (fun i _ => T.length - i) 0 l
          (Less.cons rfl (Less.cons rfl (Less.cons rfl (Less.cons rfl (Less.cons rfl (Less.cons rfl (Less.nil _))))))) ⟨by omega, rfl, hs5⟩ ?_
        rintro i m h6 ⟨hi, hm, hs6⟩
        clear hs5
        have to := parT_to cr lok i hi
        rw [← hm] at to
        by_cases hlt2 : i < T.length
        · have ll := (ta i hlt2).1
          have la := cr i hlt2
          repeat' (first
            | refine AW.seq ?_
            | (refine AW.region ?_; conv => whnf)
            | refine AW.block ?_
            | (refine AW.skip ?_; conv => whnf)
            | refine AW.cond (by rfl) ?_
            | (refine Br.dt (by omega) ?_; conv => whnf))
          refine AW.loop2 (fun (k : Nat) (p : List Int) => [(0, .int .i64 c), (3, .int .i64 Y), (9, .slice bT 0 T.length CT), (11, .slice bt 0 c c), (13, .int .i64 j), (14, .int .i64 i), (15, .int .i64 k)]) (fun k p h' => k ≤ 3 ∧ p = parK T i m k ∧ St h0 h' ((bt, row (ints p)) :: (bT, row (slcs RT)) :: (blks RT ++ []))) (fun k _ => 3 - k) 0 m
            (Less.cons rfl (Less.cons rfl (Less.cons rfl (Less.cons rfl (Less.cons rfl (Less.cons rfl (Less.cons rfl (Less.nil _)))))))) ⟨by omega, rfl, hs6⟩ ?_
          rintro k p h7 ⟨hk, hp, hs7⟩
          clear hs6
          have top := parK_to la to k hk
          rw [← hp] at top
          by_cases hlt3 : k < 3
          · have gT := St.gridAt hs7 (.there .here)
            have hL : Has h7 bt (ints p) := St.has hs7 (.head _)
            have lp := top.ok.len
            have m1 : ((k : Int) + 1).tmod 3 = (((k + 1) % 3 : Nat) : Int) := rfl
            have m2 : ((k : Int) + 2).tmod 3 = (((k + 2) % 3 : Nat) : Int) := rfl
            have q1 : (k + 1) % 3 < 3 := Nat.mod_lt _ (by decide)
            have q2 : (k + 2) % 3 < 3 := Nat.mod_lt _ (by decide)
            obtain ⟨x0, y0⟩ := corT_lt la hlt3
            obtain ⟨x1, y1⟩ := corT_lt la q1
            obtain ⟨x2, y2⟩ := corT_lt la q2
            have ps : parK T i m (k + 1) = upd3 p (corT T i k) (corT T i ((k + 1) % 3)) (corT T i ((k + 2) % 3)) := by rw [hp]; rfl
            have b0 := top.ok.small (by omega) x0
            have b1 := top.ok.small (by omega) x1
            have b2 := top.ok.small (by omega) x2
            have ud : upd3 p (corT T i k) (corT T i ((k + 1) % 3)) (corT T i ((k + 2) % 3)) = if p.getD (corT T i k) 0 < 0 ∧ 0 ≤ p.getD (corT T i ((k + 1) % 3)) 0 ∧ 0 ≤ p.getD (corT T i ((k + 2) % 3)) 0 then p.set (corT T i k) (p.getD (corT T i ((k + 1) % 3)) 0 + p.getD (corT T i ((k + 2) % 3)) 0) else p := rfl
            have rr : T.length = RT.length := lRT.symm
            generalize corT T i k = x at *
            generalize hk1 : (k + 1) % 3 = k1 at *
            generalize hk2 : (k + 2) % 3 = k2 at *
            generalize corT T i k1 = y at *
            generalize corT T i k2 = z at *
            have cX : p.getD ((x : Nat) : Int).toNat 0 = p.getD x 0 := by rw [Int.toNat_natCast]
            have cY : p.getD ((y : Nat) : Int).toNat 0 = p.getD y 0 := by rw [Int.toNat_natCast]
            have cZ : p.getD ((z : Nat) : Int).toNat 0 = p.getD z 0 := by rw [Int.toNat_natCast]
            by_cases cd : p.getD x 0 < 0 ∧ 0 ≤ p.getD y 0 ∧ 0 ≤ p.getD z 0
            · rw [if_pos cd] at ud
              repeat' (first
                | (refine Grid.rowAt gT hRT i rfl rfl (by omega) ll ?_; conv => whnf)
                | (refine Grid.numAt gT hRT i k rfl (by omega) (by omega) (by omega) ?_; rw [y0]; conv => whnf)
                | (refine Grid.numAt gT hRT i k1 rfl (by omega) (by omega) (by omega) ?_; rw [y1]; conv => whnf)
                | (refine Grid.numAt gT hRT i k2 rfl (by omega) (by omega) (by omega) ?_; rw [y2]; conv => whnf)
                | (refine Has.loadZ hL rfl (by omega) ?_; conv => whnf)
                | (refine StoreG.stZ hs7 .here rfl (by omega) (fun h' hs' => ?_); simp only [Int.toNat_natCast] at hs'; conv => whnf)
                | refine AW.seq ?_
                | (refine AW.region ?_; conv => whnf)
                | refine AW.block ?_
                | (refine AW.skip ?_; conv => whnf)
                | refine AW.cond (by rfl) ?_
                | (refine AW.draw (id := 25) (.p 0 (.p 1 (.p 2 (.p 3 (.p 5 (.p 8 (.p 9 (.p 10 (.p 12 (.p 13 (.p 14 (.r 4 [6, 7, 17, 18] (.p 6 (.r 7 [17, 18] (.r 11 [16, 17, 18] (.r 15 [16, 17, 18] (.p 16 (.p 17 (.all [18] fun _ => .done))))))))))))))))))) (by kernel_rfl) (by kernel_rfl) ?_; conv => whnf)
                | (refine Br.dt (by omega) ?_; conv => whnf)
                | (refine Wr.i64 (by omega) ?_; conv => whnf)
                | (refine Ck.mk (by omega) ?_; conv => whnf))
              all_goals
                refine ⟨k + 1, _, (Less.cons rfl (Less.cons rfl (Less.cons rfl (Less.cons rfl (Less.cons rfl (Less.cons rfl (Less.cons rfl (Less.nil _)))))))), ⟨by omega, rfl, ?_⟩, by omega⟩
                rw [ps, ud]
                exact hs'
            · rw [if_neg cd] at ud
              repeat' (first
                | (refine Grid.rowAt gT hRT i rfl rfl (by omega) ll ?_; conv => whnf)
                | (refine Grid.numAt gT hRT i k rfl (by omega) (by omega) (by omega) ?_; rw [y0]; conv => whnf)
                | (refine Grid.numAt gT hRT i k1 rfl (by omega) (by omega) (by omega) ?_; rw [y1]; conv => whnf)
                | (refine Grid.numAt gT hRT i k2 rfl (by omega) (by omega) (by omega) ?_; rw [y2]; conv => whnf)
                | (refine Has.loadZ hL rfl (by omega) ?_; conv => whnf)
                | refine AW.seq ?_
                | (refine AW.region ?_; conv => whnf)
                | refine AW.block ?_
                | (refine AW.skip ?_; conv => whnf)
                | refine AW.cond (by rfl) ?_
                | (refine Br.ff ?_; conv => whnf)
                | (refine Br.dt (by omega) ?_; conv => whnf)
                | (refine Br.df (by omega) ?_; conv => whnf)
                | (refine Br.dec (fun hc => ?_) (fun hc => ?_) <;> conv => whnf)
                | (refine Wr.i64 (by omega) ?_; conv => whnf)
                | (refine Ck.mk (by omega) ?_; conv => whnf))
              all_goals exact ⟨k + 1, p, (Less.cons rfl (Less.cons rfl (Less.cons rfl (Less.cons rfl (Less.cons rfl (Less.cons rfl (Less.cons rfl (Less.nil _)))))))), ⟨by omega, by rw [ps, ud], hs7⟩, by omega⟩
          · obtain rfl : k = 3 := by omega
            repeat' (first
              | refine AW.seq ?_
              | (refine AW.region ?_; conv => whnf)
              | (refine AW.exit ?_; conv => whnf)
              | refine AW.cond (by rfl) ?_
              | (refine Br.ff ?_; conv => whnf)
              | (refine Wr.i64 (by omega) ?_; conv => whnf))
            exact ⟨i + 1, p, (Less.cons rfl (Less.cons rfl (Less.cons rfl (Less.cons rfl (Less.cons rfl (Less.cons rfl (Less.nil _))))))), ⟨by omega, by rw [hp, hm]; rfl, hs7⟩, by omega⟩
        · obtain rfl : i = T.length := by omega
          repeat' (first
            | refine AW.seq ?_
            | (refine AW.region ?_; conv => whnf)
            | (refine AW.exit ?_; conv => whnf)
            | refine AW.cond (by rfl) ?_
            | (refine Br.df (by omega) ?_; conv => whnf)
            | (refine Wr.i64 (by omega) ?_; conv => whnf))
          exact ⟨j + 1, m, (Less.cons rfl (Less.cons rfl (Less.cons rfl (Less.cons rfl (Less.cons rfl (Less.nil _)))))), ⟨by omega, by rw [hm, hj]; rfl, hs6⟩, by omega⟩
      · obtain rfl : j = c := by omega
        have hL : Has h5 bt (ints l) := St.has hs5 (.head _)
        repeat' (first
          | (refine Has.loadZ hL rfl (by rw [lok.len]; omega) ?_; conv => whnf)
          | refine AW.seq ?_
          | (refine AW.region ?_; conv => whnf)
          | (refine AW.ret ?_; conv => whnf)
          | (refine AW.exit ?_; conv => whnf)
          | refine AW.cond (by rfl) ?_
          | (refine Br.df (by omega) ?_; conv => whnf)
          | (refine Ck.mk (by omega) ?_; conv => whnf))
        exact ⟨by rw [e, ← hj]; rfl, hs5.keeps⟩
  · have e : friF n f x y = -1 := if_neg ok
    by_cases ht : isTri n f = true
    · have te : trisF n f = (triR n.toNat f, true) := if_pos ht
      have hxy : ¬ (3 ≤ n ∧ (0 ≤ x ∧ x ≤ n - 1) ∧ (0 ≤ y ∧ y ≤ n - 1)) := fun a => ok ⟨a.1, ht, a.2⟩
      have sz := (isTri_spec ht).1.1
      refine AC.enter Try.func25 Try.call25 rfl Try.ntmps25 (of_decide_eq_true (by rfl)) ?_
      repeat' (first
        | (refine (sTris_ok n R f _ _ _ _ (hb.arg (by assumption)) hR hM (by omega) (by omega)).mono ?_; rw [te]; rintro v h4 ⟨bT, CT, RT, rfl, hRT, lRT, hsT⟩; have hs4 := St.callR hs hsT; clear hsT; conv => whnf)
        | refine AW.seq ?_
        | (refine AW.region ?_; conv => whnf)
        | (refine AW.ret ?_; conv => whnf)
        | refine AW.cond (by rfl) ?_
        | (refine (l1In_ok _ _ _ _).mono ?_; rintro v h' ⟨rfl, e'⟩; subst h'; conv => whnf)
        | (refine Br.tt ?_; conv => whnf)
        | (refine Br.ff ?_; conv => whnf)
        | refine Br.not ?_
        | (refine Br.dt (by omega) ?_; conv => whnf)
        | (refine Br.df (by omega) ?_; conv => whnf)
        | (refine Br.dec (fun hc => ?_) (fun hc => ?_) <;> conv => whnf)
        | (refine Wr.i64 (by omega) ?_; conv => whnf))
      all_goals first
        | (exfalso; omega)
        | exact ⟨by rw [e], hs4.keeps⟩
    · have te : trisF n f = ([], false) := if_neg ht
      refine AC.enter Try.func25 Try.call25 rfl Try.ntmps25 (of_decide_eq_true (by rfl)) ?_
      repeat' (first
        | (refine (sTris_ok n R f _ _ _ _ (hb.arg (by assumption)) hR hM (by omega) (by omega)).mono ?_; rw [te]; rintro v h4 ⟨bT, CT, RT, rfl, hRT, lRT, hsT⟩; have hs4 := St.callR hs hsT; clear hsT; conv => whnf)
        | refine AW.seq ?_
        | (refine AW.region ?_; conv => whnf)
        | (refine AW.ret ?_; conv => whnf)
        | refine AW.cond (by rfl) ?_
        | (refine Br.tt ?_; conv => whnf))
      all_goals exact ⟨by rw [e], hs4.keeps⟩


end Go.Proofs.Ytbicfognbbeigaa
