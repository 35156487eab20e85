/-
  Contracts of the cuts of ears are proved.
  They hold for all rows of numbers.
-/
import Derived.Test.YtbicfognbbeigaaC35
import Derived.Test.YtbicfognbbeigaaC36
set_option linter.unusedVariables false
set_option linter.unusedSimpArgs false
namespace Go.Proofs.Ytbicfognbbeigaa
open Go.Proofs.Ytbicfognbbeigaa.Ab Go.Proofs.Ytbicfognbbeigaa.Pl

theorem Has.loadsOff {h : H} {b n sz q : Nat} {l : List Int} {K : List AV → Prop} (m : Has h b (ints l)) (hs : sz = 1) (o r : Nat) (e : n = o) (e2 : q = r) (hn : o + r ≤ l.length) (hk : K (ints ((l.drop o).take r))) : LoadsG h b (0 + mulSz n sz) q K := by
  rw [off1 hs]
  subst e e2
  obtain ⟨w, s, e⟩ := m
  refine .mk w s _ e (by simpa using hn) ?_
  have : ((ints l).drop n).take q = ints ((l.drop n).take q) := by unfold ints; rw [← List.map_drop, ← List.map_take]
  rw [this]
  exact hk
theorem Has.loadsTo {h : H} {b q : Nat} {l : List Int} {K : List AV → Prop} (m : Has h b (ints l)) (r : Nat) (e2 : q = r) (hn : r ≤ l.length) (hk : K (ints (l.take r))) : LoadsG h b 0 q K := by
  subst e2
  obtain ⟨w, s, e⟩ := m
  refine .mk w s _ e (by simp; omega) ?_
  have : ((ints l).drop 0).take q = ints (l.take q) := by unfold ints; rw [List.drop_zero, ← List.map_take]
  rw [this]
  exact hk
theorem ClearG.at {h : H} {b n sz q : Nat} {z : AV} {cs : List AV} {K : H → Prop} (hb : h b = some (row cs)) (hs : sz = 1) (o r : Nat) (e : n = o) (e2 : q = r) (ho : o + r ≤ cs.length) (h1 : z.one = true) (hk : K (upd h b (row (cs.take o ++ List.replicate r z ++ cs.drop (o + r))))) : ClearG h b (0 + mulSz n sz) q z K := by
  rw [off1 hs]
  subst e e2
  exact .mk cs hb ho h1 hk
theorem ints_one (l : List Int) : ∀ v ∈ ints l, v.one = true := by
  intro v hv
  obtain ⟨z, _, rfl⟩ := List.mem_map.1 hv
  rfl
theorem getD_app (l z : List Int) {i : Nat} (h : i < l.length) : (l ++ z).getD i 0 = l.getD i 0 := by
  simp only [List.getD]
  rw [List.getElem?_append_left h]

/-- the place of the first one -/
def fst1 : List Int → Nat
  | [] => 0
  | x :: l => if x = 1 then 0 else fst1 l + 1
theorem fst1_le : ∀ l, fst1 l ≤ l.length
  | [] => Nat.le_refl _
  | x :: l => by
    rw [fst1]
    split
    · omega
    · have := fst1_le l
      simp
      exact this
theorem fst1_hit : ∀ (l : List Int) (k : Nat), k < l.length → l.getD k 0 = 1 → (∀ j, j < k → l.getD j 0 ≠ 1) → fst1 l = k
  | [], k, h, _, _ => by simp at h
  | x :: l, 0, _, h, _ => by
    simp at h
    rw [fst1, if_pos h]
  | x :: l, k + 1, h1, h2, h3 => by
    have := h3 0 (by omega)
    simp at this
    rw [fst1, if_neg this, fst1_hit l k (by simpa using h1) (by simpa using h2) fun j hj => by simpa using h3 (j + 1) (by omega)]
theorem fst1_miss : ∀ (l : List Int), (∀ j, j < l.length → l.getD j 0 ≠ 1) → fst1 l = l.length
  | [], _ => rfl
  | x :: l, h => by
    have := h 0 (by simp)
    simp at this
    rw [fst1, if_neg this, fst1_miss l fun j hj => by simpa using h (j + 1) (by simpa using hj)]
    simp
theorem fst1_at : ∀ (l : List Int), fst1 l < l.length → l.getD (fst1 l) 0 = 1 ∧ ∀ j, j < fst1 l → l.getD j 0 ≠ 1
  | [], h => by simp at h
  | x :: l, h => by
    rw [fst1] at h ⊢
    split
    · rename_i c
      exact ⟨by simpa using c, fun j hj => by omega⟩
    · rename_i c
      rw [if_neg c] at h
      have ih := fst1_at l (by simpa using h)
      refine ⟨by simpa using ih.1, fun j hj => ?_⟩
      cases j with
      | zero => simpa using c
      | succ j => simpa using ih.2 j (by omega)

theorem copyInts_ok (l : List Int) (b N C : Nat) (h0 : H) (hb : Has h0 b (ints l)) (hN : N = l.length) (hl : l.length ≤ 100000000) : AC env 30 [.slice b 0 N C] h0 fun v h' => ∃ b', v = .slice b' 0 N N ∧ New h0 h' b' (ints l) := by
  have hs := St.refl h0
  subst hN
  refine AC.enter Try.func30 Try.call30 rfl Try.ntmps30 (of_decide_eq_true (by rfl)) ?_
  repeat' (first
    | (refine AppG.stZs (l := []) (by assumption) (by intro b'; repeat first | exact .here | apply Spot.there) (by simp) (by simp; omega) (by decide) (fun b' h' hs' => ?_); conv => whnf)
    | refine AW.seq ?_
    | (refine AW.region ?_; conv => whnf)
    | (refine AW.ret ?_; conv => whnf)
    | (refine NewG.st (by assumption) (fun bt h' hs' => ?_); conv => whnf)
    | (refine LoadsG.has (by first | assumption | exact St.has (by assumption) (by repeat first | exact .head _ | apply List.Mem.tail) | exact St.arg (by assumption) (by assumption)) (by simp) ?_; conv => whnf))
  rw [Nat.zero_add]
  exact ⟨_, rfl, hs'.toNew⟩

theorem eqCond {l m : List Int} {k : Nat} (hk : k < l.length) (hm : k < m.length) (h : l.getD k 0 ≠ m.getD k 0) : l ≠ m := fun e => h (by rw [e])
theorem equalInts_ok (l z m : List Int) (b c N C M D : Nat) (h0 : H) (hb : Has h0 b (ints (l ++ z))) (hc' : Has h0 c (ints m)) (hN : N = l.length) (hM : M = m.length) (hl : N ≤ 100000000) (hm : M ≤ 100000000) :
    AC env 53 [.slice b 0 N C, .slice c 0 M D] h0 fun v h' => v = .bool (decide (l = m)) ∧ h' = h0 := by
  by_cases e : N = M
  · refine AC.enter Try.func53 Try.call53 rfl Try.ntmps53 (of_decide_eq_true (by rfl)) ?_
    repeat' (first
      | refine AW.seq ?_
      | (refine AW.region ?_; conv => whnf)
      | refine AW.block ?_
      | (refine AW.skip ?_; conv => whnf)
      | refine AW.cond (by rfl) ?_
      | refine Br.not ?_
      | (refine Br.dt (by omega) ?_; conv => whnf))
    refine AW.loop1 (fun (k : Nat) => [(0, .slice b 0 N C), (1, .slice c 0 M D), (12, .int .i64 N), (13, .int .i64 k)]) (fun k h' => k ≤ N ∧ (∀ j, j < k → l.getD j 0 = m.getD j 0) ∧ h' = h0) (fun k => N - k) 0
      (Less.cons rfl (Less.cons rfl (Less.cons rfl (Less.cons rfl (Less.nil _))))) ⟨by omega, fun j hj => by omega, rfl⟩ ?_
    rintro k h1 ⟨hk, hj, rfl⟩
    by_cases hlt : k < N
    · have ea := getD_app l z (i := k) (by omega)
      by_cases c1 : l.getD k 0 = m.getD k 0
      · have c2 : (l ++ z).getD (k : Int).toNat 0 = m.getD (k : Int).toNat 0 := ea.trans c1
        repeat' (first
          | (refine Has.loadZ hb rfl (by simp; omega) ?_; conv => whnf)
          | refine AW.seq ?_
          | (refine AW.region ?_; conv => whnf)
          | refine AW.block ?_
          | (refine AW.skip ?_; conv => whnf)
          | refine AW.cond (by rfl) ?_
          | (refine AW.draw (id := 6) (.p 0 (.p 1 (.p 2 (.p 4 (.p 5 (.p 6 (.r 3 [8] (.r 7 [8] (.p 8 .done))))))))) (by kernel_rfl) (by kernel_rfl) ?_; conv => whnf)
          | refine Br.not ?_
          | (refine Br.dt (by omega) ?_; conv => whnf)
          | (refine Wr.i64 (by omega) ?_; conv => whnf)
          | (refine Ck.mk (by omega) ?_; conv => whnf)
          | (refine Has.loadZ (by first | assumption | exact St.has (by assumption) (by repeat first | exact .head _ | apply List.Mem.tail) | exact St.arg (by assumption) (by assumption)) rfl (by first | (simp; done) | omega | (simp only [List.length_set, List.length_append, List.length_cons, List.length_nil, List.length_replicate, tab_length]; omega) | (simp; omega)) ?_; conv => whnf))
        refine ⟨k + 1, (Less.cons rfl (Less.cons rfl (Less.cons rfl (Less.cons rfl (Less.nil _))))), ⟨by omega, fun j hj' => ?_, rfl⟩, by omega⟩
        by_cases c3 : j = k
        · rw [c3]; exact c1
        · exact hj j (by omega)
      · have c2 : (l ++ z).getD (k : Int).toNat 0 ≠ m.getD (k : Int).toNat 0 := fun h => c1 (ea.symm.trans h)
        repeat' (first
          | (refine Has.loadZ hb rfl (by simp; omega) ?_; conv => whnf)
          | refine AW.seq ?_
          | (refine AW.region ?_; conv => whnf)
          | refine AW.block ?_
          | (refine AW.skip ?_; conv => whnf)
          | (refine AW.ret ?_; conv => whnf)
          | refine AW.cond (by rfl) ?_
          | (refine AW.draw (id := 6) (.p 0 (.p 1 (.p 2 (.p 4 (.p 5 (.p 6 (.r 3 [8] (.r 7 [8] (.p 8 .done))))))))) (by kernel_rfl) (by kernel_rfl) ?_; conv => whnf)
          | refine Br.not ?_
          | (refine Br.dt (by omega) ?_; conv => whnf)
          | (refine Br.df (by omega) ?_; conv => whnf)
          | (refine Ck.mk (by omega) ?_; conv => whnf)
          | (refine Has.loadZ (by first | assumption | exact St.has (by assumption) (by repeat first | exact .head _ | apply List.Mem.tail) | exact St.arg (by assumption) (by assumption)) rfl (by first | (simp; done) | omega | (simp only [List.length_set, List.length_append, List.length_cons, List.length_nil, List.length_replicate, tab_length]; omega) | (simp; omega)) ?_; conv => whnf))
        exact ⟨by rw [decide_eq_false (eqCond (by omega) (by omega) c1)], rfl⟩
    · repeat' (first
        | refine AW.seq ?_
        | (refine AW.region ?_; conv => whnf)
        | (refine AW.ret ?_; conv => whnf)
        | (refine AW.exit ?_; conv => whnf)
        | refine AW.cond (by rfl) ?_
        | (refine Br.df (by omega) ?_; conv => whnf))
      refine ⟨?_, rfl⟩
      have : l = m := by
        apply List.ext_getElem (by omega)
        intro i h1 h2
        have := hj i (by omega)
        simpa [List.getD, h1, h2] using this
      rw [decide_eq_true this]
  · refine AC.enter Try.func53 Try.call53 rfl Try.ntmps53 (of_decide_eq_true (by rfl)) ?_
    repeat' (first
      | refine AW.seq ?_
      | (refine AW.region ?_; conv => whnf)
      | (refine AW.ret ?_; conv => whnf)
      | refine AW.cond (by rfl) ?_
      | refine Br.not ?_
      | (refine Br.df (by omega) ?_; conv => whnf))
    exact ⟨by rw [decide_eq_false fun h => e (by rw [hN, hM, h])], rfl⟩

theorem index1_ok (l z : List Int) (b N C : Nat) (h0 : H) (hb : Has h0 b (ints (l ++ z))) (hN : N = l.length) (hl : N ≤ 100000000) :
    AC env 51 [.slice b 0 N C, .int .i64 1] h0 fun v h' => v = .int .i64 (if fst1 l < l.length then (fst1 l : Int) else -1) ∧ h' = h0 := by
  refine AC.enter Try.func51 Try.call51 rfl Try.ntmps51 (of_decide_eq_true (by rfl)) ?_
  repeat' (first
    | refine AW.seq ?_
    | (refine AW.region ?_; conv => whnf)
    | refine AW.block ?_)
  refine AW.loop1 (fun (k : Nat) => [(0, .slice b 0 N C), (1, .int .i64 1), (7, .int .i64 N), (8, .int .i64 k)]) (fun k h' => k ≤ N ∧ (∀ j, j < k → l.getD j 0 ≠ 1) ∧ h' = h0) (fun k => N - k) 0
    (Less.cons rfl (Less.cons rfl (Less.cons rfl (Less.cons rfl (Less.nil _))))) ⟨by omega, fun j hj => by omega, rfl⟩ ?_
  rintro k h1 ⟨hk, hj, rfl⟩
  by_cases hlt : k < N
  · have ea := getD_app l z (i := k) (by omega)
    by_cases c1 : l.getD k 0 = 1
    · have c2 : 1 = (l ++ z).getD (k : Int).toNat 0 := (ea.trans c1).symm
      repeat' (first
        | (refine Has.loadZ hb rfl (by simp; omega) ?_; conv => whnf)
        | refine AW.seq ?_
        | (refine AW.region ?_; conv => whnf)
        | refine AW.block ?_
        | (refine AW.skip ?_; conv => whnf)
        | (refine AW.ret ?_; conv => whnf)
        | refine AW.cond (by rfl) ?_
        | (refine Br.dt (by omega) ?_; conv => whnf)
        | (refine Ck.mk (by omega) ?_; conv => whnf))
      have e := fst1_hit l k (by omega) c1 hj
      exact ⟨by rw [if_pos (by omega), e], rfl⟩
    · have c2 : 1 ≠ (l ++ z).getD (k : Int).toNat 0 := fun h => c1 (ea.symm.trans h.symm)
      repeat' (first
        | (refine Has.loadZ hb rfl (by simp; omega) ?_; conv => whnf)
        | refine AW.seq ?_
        | (refine AW.region ?_; conv => whnf)
        | refine AW.block ?_
        | (refine AW.skip ?_; conv => whnf)
        | refine AW.cond (by rfl) ?_
        | (refine Br.dt (by omega) ?_; conv => whnf)
        | (refine Br.df (by omega) ?_; conv => whnf)
        | (refine Wr.i64 (by omega) ?_; conv => whnf)
        | (refine Ck.mk (by omega) ?_; conv => whnf))
      refine ⟨k + 1, (Less.cons rfl (Less.cons rfl (Less.cons rfl (Less.cons rfl (Less.nil _))))), ⟨by omega, fun j hj' => ?_, rfl⟩, by omega⟩
      by_cases c3 : j = k
      · rw [c3]; exact c1
      · exact hj j (by omega)
  · repeat' (first
      | refine AW.seq ?_
      | (refine AW.region ?_; conv => whnf)
      | (refine AW.ret ?_; conv => whnf)
      | (refine AW.exit ?_; conv => whnf)
      | refine AW.cond (by rfl) ?_
      | (refine Br.df (by omega) ?_; conv => whnf))
    have e := fst1_miss l fun j h => hj j (by omega)
    exact ⟨by rw [if_neg (by omega)], rfl⟩

theorem del_list (l z : List Int) (i : Nat) (h : i < l.length) :
    ((((l ++ z).take i ++ ((l ++ z).drop (i + 1)).take (l.length - (i + 1))) ++ (l ++ z).drop (i + (l.length - (i + 1)))).take (l.length - 1) ++ [0]) ++ (((l ++ z).take i ++ ((l ++ z).drop (i + 1)).take (l.length - (i + 1))) ++ (l ++ z).drop (i + (l.length - (i + 1)))).drop (l.length - 1 + 1) = l.eraseIdx i ++ 0 :: z := by
  have e0 : ∃ A x B, l = A ++ x :: B ∧ A.length = i := ⟨l.take i, l[i], l.drop (i + 1), by rw [← List.drop_eq_getElem_cons h, List.take_append_drop], by simp; omega⟩
  obtain ⟨A, x, B, rfl, rfl⟩ := e0
  have e1 : (A ++ x :: B ++ z).drop (A.length + 1) = B ++ z := by
    rw [List.append_assoc, List.drop_append, List.drop_eq_nil_of_le (by omega)]
    simp
  have e2 : (A ++ x :: B).length - (A.length + 1) = B.length := by simp; omega
  have e3 : (A ++ x :: B).length - 1 = A.length + B.length := by simp
  have e4 : (A ++ x :: B).eraseIdx A.length = A ++ B := by
    rw [List.eraseIdx_append_of_length_le (Nat.le_refl _), Nat.sub_self]
    rfl
  have e5 : (A ++ x :: B ++ z).take A.length = A := by rw [List.append_assoc, List.take_left]
  have e6 : ((B ++ z).take B.length) = B := List.take_left
  obtain ⟨y, e7⟩ : ∃ y, (A ++ x :: B ++ z).drop (A.length + B.length) = y :: z := by
    refine ⟨(x :: B)[B.length]'(by simp), ?_⟩
    rw [List.append_assoc, List.drop_append, List.drop_eq_nil_of_le (by omega), Nat.add_sub_cancel_left, List.nil_append, List.drop_append_of_le_length (by simp), List.drop_eq_getElem_cons (show B.length < (x :: B).length by simp), List.drop_eq_nil_of_le (show (x :: B).length ≤ B.length + 1 by simp)]
    rfl
  simp only [e1, e2, e3, e4, e5, e6, e7]
  rw [List.take_append_of_le_length (by simp), List.take_of_length_le (by simp), List.drop_append, List.drop_eq_nil_of_le (by simp), List.length_append, Nat.add_sub_cancel_left]
  simp
theorem del_cells (l z : List Int) (i : Nat) (h : i < l.length) :
    (((ints (l ++ z)).take i ++ ints (((l ++ z).drop (i + 1)).take (l.length - (i + 1))) ++ (ints (l ++ z)).drop (i + (l.length - (i + 1)))).take (l.length - 1) ++ List.replicate 1 (.int .i64 0)) ++ ((ints (l ++ z)).take i ++ ints (((l ++ z).drop (i + 1)).take (l.length - (i + 1))) ++ (ints (l ++ z)).drop (i + (l.length - (i + 1)))).drop (l.length - 1 + 1) = ints (l.eraseIdx i ++ 0 :: z) := by
  rw [← del_list l z i h]
  simp [ints]

theorem delete_ok (A B : List (Nat × Blk)) (l z : List Int) (b i N C : Nat) (H0 hp : H) (hs : St H0 hp (A ++ (b, row (ints (l ++ z))) :: B)) (hN : N = l.length) (hl : N ≤ 100000000) (hi : i < N) (hC : N ≤ C) :
    AC env 52 [.slice b 0 N C, .int .i64 (i : Int), .int .i64 ((i : Int) + 1)] hp fun v h' => v = .slice b 0 (N - 1) C ∧ St H0 h' (A ++ (b, row (ints (l.eraseIdx i ++ 0 :: z))) :: B) := by
  have hb : hp b = some (row (ints (l ++ z))) := hs.is (b, row (ints (l ++ z))) (List.mem_append_right _ (.head _))
  have hh : Has hp b (ints (l ++ z)) := ⟨true, 1, hb⟩
  subst hN
  have e1 : ((i : Int) + 1).toNat = i + 1 := by omega
  have e2 : (i : Int).toNat = i := rfl
  have e3 : ((l.length : Int)).toNat = l.length := rfl
  refine AC.enter Try.func52 Try.call52 rfl Try.ntmps52 (of_decide_eq_true (by rfl)) ?_
  repeat' (first
    | (refine Has.loadsOff hh rfl (i + 1) (l.length - (i + 1)) (by omega) (by omega) (by simp; omega) ?_; conv => whnf)
    | (refine AppG.fits b i C (ints (l ++ z)) rfl hb (by omega) (by simp; omega) (ints_one _) ?_; conv => whnf)
    | (refine ClearG.at (upd_same _ _ _) rfl (l.length - 1) 1 (by omega) (by omega) (by simp; omega) rfl ?_; conv => whnf)
    | refine AW.seq ?_
    | (refine AW.region ?_; conv => whnf)
    | (refine AW.skip ?_; conv => whnf)
    | (refine AW.ret ?_; conv => whnf)
    | refine AW.cond (by rfl) ?_
    | (refine AW.draw (id := 5) (.p 0 (.p 1 (.p 2 (.p 3 (.p 4 (.p 5 (.all [6] fun _ => (.p 7 .done)))))))) (by kernel_rfl) (by kernel_rfl) ?_; conv => whnf)
    | (refine Br.df (by omega) ?_; conv => whnf)
    | (refine Ck.mk (by omega) ?_; conv => whnf))
  refine ⟨by congr 1; omega, ?_⟩
  rw [e1, ← del_cells l z i hi]
  exact (hs.set _).set _
theorem index1_hit (l z : List Int) (b N C : Nat) (h0 : H) (hb : Has h0 b (ints (l ++ z))) (hN : N = l.length) (hl : N ≤ 100000000) (hit : fst1 l < l.length) :
    AC env 51 [.slice b 0 N C, .int .i64 1] h0 fun v h' => v = .int .i64 (fst1 l) ∧ h' = h0 := by
  have := index1_ok l z b N C h0 hb hN hl
  rwa [if_pos hit] at this
theorem index1_miss (l z : List Int) (b N C : Nat) (h0 : H) (hb : Has h0 b (ints (l ++ z))) (hN : N = l.length) (hl : N ≤ 100000000) (hit : ¬ fst1 l < l.length) :
    AC env 51 [.slice b 0 N C, .int .i64 1] h0 fun v h' => v = .int .i64 (-1) ∧ h' = h0 := by
  have := index1_ok l z b N C h0 hb hN hl
  rwa [if_neg hit] at this

theorem cut_ne {i n : Nat} (hi : i < n) (hn : 3 ≤ n) : (i + n - 1) % n ≠ (i + 1) % n := by
  have e2 : i + 1 = n ∨ i + 1 < n := by omega
  rcases e2 with e2 | e2
  · rw [e2, Nat.mod_self, show i + n - 1 = (n - 2) + n by omega, Nat.add_mod_right, Nat.mod_eq_of_lt (by omega)]
    omega
  · rw [Nat.mod_eq_of_lt e2]
    cases i with
    | zero => rw [Nat.mod_eq_of_lt (by omega)]; omega
    | succ i => rw [show i + 1 + n - 1 = i + n by omega, Nat.add_mod_right, Nat.mod_eq_of_lt (by omega)]; omega
theorem set_swap (l : List Int) {a b : Nat} (h : a ≠ b) : (l.set a (l.getD a 0 - 1)).set b ((l.set a (l.getD a 0 - 1)).getD b 0 - 1) = (l.set b (l.getD b 0 - 1)).set a ((l.set b (l.getD b 0 - 1)).getD a 0 - 1) := by
  have e1 : (l.set a (l.getD a 0 - 1)).getD b 0 = l.getD b 0 := by simp only [List.getD, List.getElem?_set_ne h]
  have e2 : (l.set b (l.getD b 0 - 1)).getD a 0 = l.getD a 0 := by simp only [List.getD, List.getElem?_set_ne (Ne.symm h)]
  rw [e1, e2, List.set_comm _ _ h]
theorem cutQ_two (q : List Int) (i n : Nat) (hn : q.length = n) (hi : i < n) (h3 : 3 ≤ n) : cutQ q i = ((q.set ((i + 1) % n) (q.getD ((i + 1) % n) 0 - 1)).set ((i + n - 1) % n) ((q.set ((i + 1) % n) (q.getD ((i + 1) % n) 0 - 1)).getD ((i + n - 1) % n) 0 - 1)).eraseIdx i := by
  rw [← set_swap _ (cut_ne hi h3)]
  subst hn
  rfl
theorem erase_two (l : List Int) {i m : Nat} (hi : i < m) (hm : l.length = m) : l.take i ++ (l.drop (i + 1)).take (m - (i + 1)) = l.eraseIdx i := by
  rw [List.take_of_length_le (l := l.drop (i + 1)) (by rw [List.length_drop]; omega), List.eraseIdx_eq_take_drop_succ]

/-! cuts, one after the other -/
def iotaI (n : Nat) : List Int := tab n fun i => i
@[simp] theorem iotaI_length (n : Nat) : (iotaI n).length = n := tab_length _ _
def qStep (s : List Int × List Int × List (List Int)) : List Int × List Int × List (List Int) :=
  (cutQ s.1 (fst1 s.1), s.2.1.eraseIdx (fst1 s.1), s.2.2 ++ [[min (s.2.1.getD ((fst1 s.1 + s.1.length - 1) % s.1.length) 0) (s.2.1.getD ((fst1 s.1 + 1) % s.1.length) 0), max (s.2.1.getD ((fst1 s.1 + s.1.length - 1) % s.1.length) 0) (s.2.1.getD ((fst1 s.1 + 1) % s.1.length) 0)]])
def qSt (q : List Int) : Nat → List Int × List Int × List (List Int)
  | 0 => (q, iotaI q.length, [])
  | k + 1 => qStep (qSt q k)
theorem qStep_eq (l c : List Int) (o : List (List Int)) : qStep (l, c, o) = (cutQ l (fst1 l), c.eraseIdx (fst1 l), o ++ [[min (c.getD ((fst1 l + l.length - 1) % l.length) 0) (c.getD ((fst1 l + 1) % l.length) 0), max (c.getD ((fst1 l + l.length - 1) % l.length) 0) (c.getD ((fst1 l + 1) % l.length) 0)]]) := rfl
def aliveQ (q : List Int) (k : Nat) : Prop := ∀ j, j < k → fst1 (qSt q j).1 < (qSt q j).1.length
def smallQ (q : List Int) : Prop := (3 ≤ q.length ∧ q.length ≤ 10) ∧ ∀ i, i < q.length → 1 ≤ q.getD i 0 ∧ q.getD i 0 ≤ 100
instance (q : List Int) : Decidable (smallQ q) := inferInstanceAs (Decidable (_ ∧ _))
instance (q : List Int) (k : Nat) : Decidable (aliveQ q k) := inferInstanceAs (Decidable (∀ j, j < k → _))
def isQ (q : List Int) : Bool := decide (smallQ q ∧ aliveQ q (q.length - 3) ∧ (qSt q (q.length - 3)).1 = [1, 1, 1])
theorem qSt_len {q : List Int} : ∀ {k : Nat}, aliveQ q k → k ≤ q.length → (qSt q k).1.length = q.length - k ∧ (qSt q k).2.1.length = q.length - k ∧ (qSt q k).2.2.length = k
  | 0, _, _ => ⟨rfl, tab_length _ _, rfl⟩
  | k + 1, h, hk => by
    have ih := qSt_len (k := k) (fun j hj => h j (by omega)) (by omega)
    have hi := h k (by omega)
    rw [qSt, qStep]
    refine ⟨?_, ?_, by simp [ih.2.2]⟩
    · rw [cutQ_len _ hi, ih.1]; omega
    · rw [List.length_eraseIdx, if_pos (by rw [ih.2.1, ← ih.1]; exact hi), ih.2.1]; omega
def bdQ (m : Int) (l : List Int) : Prop := ∀ x ∈ l, -m ≤ x ∧ x ≤ 100
theorem bdQ.get {m : Int} {l : List Int} (h : bdQ m l) (hm : 0 ≤ m) (i : Nat) : -m ≤ l.getD i 0 ∧ l.getD i 0 ≤ 100 := by
  by_cases c : i < l.length
  · have e : l.getD i 0 = l[i] := by simp [List.getD, c]
    rw [e]
    exact h _ (List.getElem_mem c)
  · have e : l.getD i 0 = 0 := by simp [List.getD, c]
    rw [e]
    omega
theorem bdQ.dec {m : Int} {l : List Int} (h : bdQ m l) (hm : 0 ≤ m) (i : Nat) : bdQ (m + 1) (l.set i (l.getD i 0 - 1)) := fun x hx => by
  rcases List.mem_or_eq_of_mem_set hx with hx | rfl
  · have := h x hx; omega
  · have := h.get hm i; omega
theorem bdQ.cut {m : Int} {l : List Int} (h : bdQ m l) (hm : 0 ≤ m) (i : Nat) : bdQ (m + 2) (cutQ l i) := fun x hx => by
  have := ((h.dec hm _).dec (by omega) _) x (List.mem_of_mem_eraseIdx hx)
  omega
theorem qSt_bd {q : List Int} (h : smallQ q) : ∀ k : Nat, bdQ (2 * k) (qSt q k).1
  | 0 => fun x hx => by
    obtain ⟨i, hi, e⟩ := List.getElem_of_mem hx
    have := h.2 i hi
    have e2 : q.getD i 0 = x := by rw [← e]; simp [qSt, List.getD, show i < q.length from hi]
    omega
  | k + 1 => fun x hx => by
    have := (qSt_bd h k).cut (by omega) _ x hx
    omega

theorem l22Fine_ok (q : List Int) (b N C : Nat) (h0 : H) (hb : Has h0 b (ints q)) (hN : N = q.length) (hl : N ≤ 100000000) : AC env 38 [.slice b 0 N C] h0 fun v h' => v = .bool (decide (smallQ q)) ∧ h' = h0 := by
  refine AC.enter Try.func38 Try.call38 rfl Try.ntmps38 (of_decide_eq_true (by rfl)) ?_
  repeat' (first
    | refine AW.seq ?_
    | (refine AW.region ?_; conv => whnf)
    | refine AW.block ?_)
  refine AW.loop1 (fun (k : Nat) => [(0, .slice b 0 N C), (3, .int .i64 k)]) (fun k h' => k ≤ N ∧ (∀ i, i < k → 1 ≤ q.getD i 0 ∧ q.getD i 0 ≤ 100) ∧ h' = h0) (fun k => N - k) 0 (Less.cons rfl (Less.cons rfl (Less.nil _))) ⟨by omega, fun i hi => by omega, rfl⟩ ?_
  rintro k h1 ⟨hk, hj, rfl⟩
  by_cases hlt : k < N
  · repeat' (first
      | (refine Has.loadZ hb rfl (by omega) ?_; conv => whnf)
      | refine AW.seq ?_
      | (refine AW.region ?_; conv => whnf)
      | refine AW.block ?_
      | (refine AW.skip ?_; conv => whnf)
      | (refine AW.ret ?_; conv => whnf)
      | refine AW.cond (by rfl) ?_
      | (refine (l1In_ok _ _ _ _).mono ?_; rintro v h' ⟨rfl, e'⟩; subst h'; conv => whnf)
      | refine Br.not ?_
      | (refine Br.dt (by omega) ?_; conv => whnf)
      | (refine Br.dec (fun hc => ?_) (fun hc => ?_) <;> conv => whnf)
      | (refine Wr.i64 (by omega) ?_; conv => whnf)
      | (refine Ck.mk (by omega) ?_; conv => whnf))
    all_goals first
      | exact ⟨k + 1, (Less.cons rfl (Less.cons rfl (Less.nil _))), ⟨by omega, fun i hi => by
          by_cases c : i = k
          · subst c
            rw [Int.toNat_natCast] at *
            omega
          · exact hj i (by omega), rfl⟩, by omega⟩
      | exact ⟨by rw [decide_eq_false fun a => by have := a.2 k (by omega); rw [Int.toNat_natCast] at *; omega], rfl⟩
  · repeat' (first
      | refine AW.seq ?_
      | (refine AW.region ?_; conv => whnf)
      | (refine AW.ret ?_; conv => whnf)
      | (refine AW.exit ?_; conv => whnf)
      | refine AW.cond (by rfl) ?_
      | (refine (l1In_ok _ _ _ _).mono ?_; rintro v h' ⟨rfl, e'⟩; subst h'; conv => whnf)
      | (refine Br.df (by omega) ?_; conv => whnf))
    have e : decide (3 ≤ (N : Int) ∧ (N : Int) ≤ 10) = decide (smallQ q) := decide_eq_decide.2 ⟨fun g => ⟨by omega, fun i hi => hj i (by omega)⟩, fun a => by have := a.1; omega⟩
    exact ⟨by rw [← e], rfl⟩


theorem iotaI_succ (n : Nat) : iotaI n ++ [(n : Int)] = iotaI (n + 1) := (tab_succ n _).symm
theorem cut_mod1 (i n : Nat) (h : 0 < n) : ((i : Int) + (n : Int) - 1).tmod (n : Int) = (((i + n - 1) % n : Nat) : Int) := by
  rw [show (i : Int) + (n : Int) - 1 = ((i + n - 1 : Nat) : Int) by omega]
  rfl
theorem cut_mod2 (i n : Nat) : ((i : Int) + 1).tmod (n : Int) = (((i + 1) % n : Nat) : Int) := rfl
theorem set_app (l z : List Int) {i : Nat} (h : i < l.length) (x : Int) : (l ++ z).set i x = l.set i x ++ z := List.set_append_left _ _ h
theorem perm_cut {α : Type} (c l1 l2 bo : α) (X : List α) : (c :: l1 :: l2 :: bo :: (X ++ [])).Perm (c :: bo :: (X ++ [l1, l2])) := by
  rw [List.append_nil]
  exact .cons _ (List.perm_append_comm (l₁ := [l1, l2]) (l₂ := bo :: X))
theorem perm_cut2 {α : Type} (l1 l2 bo : α) (X : List α) : (bo :: (X ++ [l1, l2])).Perm (l1 :: l2 :: bo :: (X ++ [])) := by
  rw [List.append_nil]
  exact List.perm_append_comm (l₁ := bo :: X) (l₂ := [l1, l2])

def CutsRes (q : List Int) (h0 : H) (v : AV) (h' : H) : Prop :=
  (isQ q = true ∧ ∃ b R, v = .tup [.slice b 0 (q.length - 3) (q.length - 3), .bool true] ∧ rws R = (qSt q (q.length - 3)).2.2 ∧ R.length = q.length - 3 ∧ St h0 h' ((b, row (slcs R)) :: (blks R ++ []))) ∨ (isQ q = false ∧ (v = .tup [.nilslice, .bool false] ∨ ∃ b n c, v = .tup [.slice b 0 n c, .bool false]) ∧ Keeps h0 h')
set_option maxHeartbeats 4000000 in
theorem cuts_ok (q : List Int) (bq N C : Nat) (h0 : H) (hb : Has h0 bq (ints q)) (hN : N = q.length) (hl : N ≤ 100000000) : AC env 31 [.slice bq 0 N C] h0 (CutsRes q h0) := by
  have hs := St.refl h0
  by_cases hsz : 3 ≤ N ∧ N ≤ 10
  · refine AC.enter Try.func31 Try.call31 rfl Try.ntmps31 (of_decide_eq_true (by rfl)) ?_
    repeat' (first
      | refine AW.seq ?_
      | (refine AW.region ?_; conv => whnf)
      | refine AW.block ?_
      | (refine AW.skip ?_; conv => whnf)
      | refine AW.cond (by rfl) ?_
      | (refine (within_ok _ _ _ _).mono ?_; rintro v h' ⟨rfl, e'⟩; subst h'; conv => whnf)
      | refine Br.not ?_
      | (refine Br.dt (by omega) ?_; conv => whnf))
    refine AW.loop1 (fun (k : Nat) => [(0, .slice bq 0 N C), (18, .slice bq 0 N C), (19, .int .i64 N), (20, .int .i64 k)]) (fun k h' => k ≤ N ∧ (∀ i, i < k → 1 ≤ q.getD i 0 ∧ q.getD i 0 ≤ 100) ∧ h' = h0) (fun k => N - k) 0 (Less.cons rfl (Less.cons rfl (Less.cons rfl (Less.cons rfl (Less.nil _))))) ⟨by omega, fun i hi => by omega, rfl⟩ ?_
    rintro k h1 ⟨hk, hj, rfl⟩
    by_cases hlt : k < N
    · repeat' (first
        | (refine Has.loadZ hb rfl (by omega) ?_; conv => whnf)
        | refine AW.seq ?_
        | (refine AW.region ?_; conv => whnf)
        | refine AW.block ?_
        | (refine AW.skip ?_; conv => whnf)
        | (refine AW.ret ?_; conv => whnf)
        | refine AW.cond (by rfl) ?_
        | (refine (within_ok _ _ _ _).mono ?_; rintro v h' ⟨rfl, e'⟩; subst h'; conv => whnf)
        | refine Br.not ?_
        | (refine Br.dt (by omega) ?_; conv => whnf)
        | (refine Br.dec (fun hc => ?_) (fun hc => ?_) <;> conv => whnf)
        | (refine Wr.i64 (by omega) ?_; conv => whnf)
        | (refine Ck.mk (by omega) ?_; conv => whnf))
      all_goals first
        | exact ⟨k + 1, (Less.cons rfl (Less.cons rfl (Less.cons rfl (Less.cons rfl (Less.nil _))))), ⟨by omega, fun i hi => by
            by_cases c : i = k
            · subst c
              rw [Int.toNat_natCast] at *
              omega
            · exact hj i (by omega), rfl⟩, by omega⟩
        | exact .inr ⟨decide_eq_false fun a => by have := a.1.2 k (by omega); rw [Int.toNat_natCast] at *; omega, .inl rfl, Keeps.refl _⟩
    · have sm : smallQ q := ⟨by omega, fun i hi => hj i (by omega)⟩
      repeat' (first
        | refine AW.seq ?_
        | (refine AW.region ?_; conv => whnf)
        | refine AW.block ?_
        | (refine AW.exit ?_; conv => whnf)
        | refine AW.cond (by rfl) ?_
        | (refine (copyInts_ok _ _ _ _ _ (by first | assumption | exact St.has (by assumption) (by repeat first | exact .head _ | apply List.Mem.tail) | exact St.arg (by assumption) (by assumption)) (by first | rfl | omega) (by first | (simp; done) | omega | (simp only [List.length_set, List.length_append, List.length_cons, List.length_nil, List.length_replicate, tab_length]; omega) | (simp; omega))).mono ?_; rintro v h' ⟨b, rfl, hn⟩; have hs' := St.newCall (by assumption) hn; clear hn; conv => whnf)
        | (refine Br.df (by omega) ?_; conv => whnf)
        | (refine NewG.st (by assumption) (fun bt h' hs' => ?_); conv => whnf))
      refine AW.loop2 (fun (k bc : Nat) => [(6, .slice b 0 N N), (7, .slice bc 0 k k), (32, .int .i64 N), (33, .int .i64 k)]) (fun k bc h' => k ≤ N ∧ St h1 h' [(bc, row (ints (iotaI k))), (b, row (ints q))]) (fun k _ => N - k) 0 bt
        (Less.cons rfl (Less.cons rfl (Less.cons rfl (Less.cons rfl (Less.nil _))))) ⟨by omega, hs'⟩ ?_
      rintro j bc h2 ⟨hj2, hs2⟩
      clear hs' hs
      by_cases hlt2 : j < N
      · repeat' (first
          | refine AW.seq ?_
          | (refine AW.region ?_; conv => whnf)
          | refine AW.block ?_
          | (refine AW.skip ?_; conv => whnf)
          | refine AW.cond (by rfl) ?_
          | (refine Br.dt (by omega) ?_; conv => whnf)
          | (refine Wr.i64 (by omega) ?_; conv => whnf)
          | (refine NewG.st (by assumption) (fun bt h' hs' => ?_); conv => whnf)
          | (refine LoadsG.has (by first | assumption | exact St.has (by assumption) (by repeat first | exact .head _ | apply List.Mem.tail) | exact St.arg (by assumption) (by assumption)) (by simp) ?_; conv => whnf)
          | (refine AppG.stZ (by assumption) (by intro b'; repeat first | exact .here | apply Spot.there) (by first | (simp; done) | omega | (simp only [List.length_set, List.length_append, List.length_cons, List.length_nil, List.length_replicate, tab_length]; omega) | (simp; omega)) (by first | (simp; done) | omega | (simp only [List.length_set, List.length_append, List.length_cons, List.length_nil, List.length_replicate, tab_length]; omega) | (simp; omega)) (by decide) (fun b' h' hs' => ?_); conv => whnf))
        rw [iotaI_succ] at hs'
        exact ⟨j + 1, _, (Less.cons rfl (Less.cons rfl (Less.cons rfl (Less.cons rfl (Less.nil _))))), ⟨by omega, hs'.tail⟩, by omega⟩
      · obtain rfl : j = N := by omega
        repeat' (first
          | (refine NewG.st hs2 (fun bo h3 hs3 => ?_); conv => whnf)
          | refine AW.seq ?_
          | (refine AW.region ?_; conv => whnf)
          | refine AW.block ?_
          | (refine AW.exit ?_; conv => whnf)
          | refine AW.cond (by rfl) ?_
          | (refine Br.df (by omega) ?_; conv => whnf))
        refine AW.loop5 (fun (k bl bc bo : Nat) (R : RL) => [(6, .slice bl 0 (j - k) j), (7, .slice bc 0 (j - k) j), (9, .slice bo 0 k k)])
          (fun k bl bc bo R h' => k + 3 ≤ j ∧ aliveQ q k ∧ rws R = (qSt q k).2.2 ∧ St h1 h' ((bl, row (ints ((qSt q k).1 ++ List.replicate k 0))) :: (bc, row (ints ((qSt q k).2.1 ++ List.replicate k 0))) :: (bo, row (slcs R)) :: (blks R ++ []))) (fun k _ _ _ _ => j - k) 0 b bc bo []
          (Less.cons rfl (Less.cons rfl (Less.cons rfl (Less.nil _)))) ⟨by omega, fun i hi => by omega, rfl, ?_⟩ ?_
        · rw [show iotaI j = (qSt q 0).2.1 by rw [hN]; rfl] at hs3
          have := hs3.perm (List.perm_append_comm (l₁ := [_]) (l₂ := [_, _]))
          have := this.perm (.swap _ _ _)
          simp only [List.replicate_zero, List.append_nil]
          exact this
        · rintro k bl bc bo R h4 ⟨hk3, al, hR, hs4⟩
          clear hs3 hs2
          have ln := qSt_len al (by omega)
          have lR : R.length = k := by rw [← rws_length, hR, ln.2.2]
          have bd := qSt_bd sm k
          have hL : Has h4 bl (ints ((qSt q k).1 ++ List.replicate k 0)) := hs4.has (.head _)
          have nx : qSt q (k + 1) = qStep (qSt q k) := rfl
          have al1 : fst1 (qSt q k).1 < (qSt q k).1.length → aliveQ q (k + 1) := fun hit i hi => by
            by_cases e : i = k
            · rw [e]; exact hit
            · exact al i (by omega)
          have dead : k + 3 < j → ¬ fst1 (qSt q k).1 < (qSt q k).1.length → isQ q = false := fun hk hit => decide_eq_false fun a => hit (a.2.1 k (by omega))
          have fin : k + 3 = j → isQ q = decide ((qSt q k).1 = [1, 1, 1]) := fun e => by
            have e3 : q.length - 3 = k := by omega
            unfold isQ
            rw [e3]
            exact decide_eq_decide.2 ⟨fun a => a.2.2, fun a => ⟨sm, al, a⟩⟩
          obtain ⟨m, hm⟩ : ∃ m, j - k = m := ⟨_, rfl⟩
          rw [hm]
          rw [← hN, hm] at ln
          generalize es : qSt q k = s at *
          obtain ⟨l, c, o⟩ := s
          simp only at ln bd hL al1 dead fin hR hs4
          by_cases hlt3 : 3 < m
          · by_cases hit : fst1 l < l.length
            · have hi := fst1_le l
              have nx2 := qStep_eq l c o
              generalize ei : fst1 l = i at *
              have t1 := cut_mod1 i m (by omega)
              have t2 := cut_mod2 i m
              have a1 : (i + m - 1) % m < m := Nat.mod_lt _ (by omega)
              have a2 : (i + 1) % m < m := Nat.mod_lt _ (by omega)
              rw [ln.1] at nx2
              have ecut : cutQ l i = ((l.set ((i + m - 1) % m) (l.getD ((i + m - 1) % m) 0 - 1)).set ((i + 1) % m) ((l.set ((i + m - 1) % m) (l.getD ((i + m - 1) % m) 0 - 1)).getD ((i + 1) % m) 0 - 1)).eraseIdx i := by
                rw [← ln.1]
                rfl
              generalize (i + m - 1) % m = a at *
              generalize (i + 1) % m = b at *
              have ll := ln.1
              have lc := ln.2.1
              have q1 := (bd.get (by omega) a)
              have q2 := ((bd.dec (by omega) a).get (by omega) b)
              have w1 : (l ++ List.replicate k 0).getD (a : Int).toNat 0 = l.getD a 0 := getD_app _ _ (by omega)
              have w2 : (l ++ List.replicate k 0).set (a : Int).toNat ((l ++ List.replicate k 0).getD (a : Int).toNat 0 - 1) = l.set a (l.getD a 0 - 1) ++ List.replicate k 0 := by
                rw [w1]
                exact set_app _ _ (by omega) _
              have w3 : (l.set a (l.getD a 0 - 1) ++ List.replicate k 0).getD (b : Int).toNat 0 = (l.set a (l.getD a 0 - 1)).getD b 0 := getD_app _ _ (by rw [List.length_set]; omega)
              have w4 : ((l.set a (l.getD a 0 - 1)) ++ List.replicate k 0).set (b : Int).toNat ((l.set a (l.getD a 0 - 1) ++ List.replicate k 0).getD (b : Int).toNat 0 - 1) = (l.set a (l.getD a 0 - 1)).set b ((l.set a (l.getD a 0 - 1)).getD b 0 - 1) ++ List.replicate k 0 := by
                rw [w3]
                exact set_app _ _ (by rw [List.length_set]; omega) _
              have w5 : (c ++ List.replicate k 0).getD (a : Int).toNat 0 = c.getD a 0 := getD_app _ _ (by omega)
              have w6 : (c ++ List.replicate k 0).getD (b : Int).toNat 0 = c.getD b 0 := getD_app _ _ (by omega)
              repeat' (first
                | (refine (index1_hit l _ _ _ _ _ hL (by omega) (by omega) (by omega)).mono ?_; rw [ei]; rintro v h' ⟨rfl, e'⟩; subst h'; conv => whnf)
                | (rw [t1, t2])
                | (refine StoreG.stZ hs4 .here rfl (by simp; omega) (fun h5 hs5 => ?_); rw [w2] at hs5; conv => whnf)
                | (refine StoreG.stZ hs5 .here rfl (by simp; omega) (fun h6 hs6 => ?_); rw [w4] at hs6; conv => whnf)
                | (refine NewG.st hs6 (fun bx hx hs6x => ?_); conv => whnf)
                | (refine AppG.stR (l := [_, _]) (St.perm (St.tail hs') (perm_cut _ _ _ _ _)) lR.symm rfl (by omega) (by decide) (fun bo' h' hs7 => ?_); have hs8 := St.perm hs7 (perm_cut2 _ _ _ _); conv => whnf)
                | (refine (delete_ok [] _ _ (List.replicate k 0) bl i m j h1 _ hs8 (by simp; omega) (by omega) (by omega) (by omega)).mono ?_; rintro v h' ⟨rfl, hs9⟩; conv => whnf)
                | (refine (delete_ok [_] _ c (List.replicate k 0) bc i m j h1 _ hs9 (by omega) (by omega) (by omega) (by omega)).mono ?_; rintro v h' ⟨rfl, hs10⟩; conv => whnf)
                | refine AW.seq ?_
                | (refine AW.region ?_; conv => whnf)
                | refine AW.block ?_
                | (refine AW.skip ?_; conv => whnf)
                | refine AW.cond (by rfl) ?_
                | (refine AW.draw (id := 22) (.p 0 (.p 1 (.p 2 (.p 3 (.p 4 (.p 5 (.p 6 (.p 7 (.p 8 (.p 9 (.p 10 (.p 11 .done)))))))))))) (by kernel_rfl) (by kernel_rfl) ?_; conv => whnf)
                | (refine AW.draw (id := 25) (.p 0 (.p 1 (.p 2 (.p 3 (.p 5 (.p 6 (.p 7 (.p 10 (.p 11 (.p 12 (.p 14 (.p 15 (.p 16 (.r 4 [9, 19, 20, 21, 22] (.r 8 [9, 19, 20, 21, 22] (.p 9 (.r 13 [18, 19, 20, 21, 22] (.r 17 [18, 19, 20, 21, 22] (.p 18 (.all [19] fun _ => (.all [20] fun _ => (.all [21] fun _ => (.p 22 .done))))))))))))))))))))))) (by kernel_rfl) (by kernel_rfl) ?_; conv => whnf)
                | (refine Br.ff ?_; conv => whnf)
                | (refine Br.dt (by omega) ?_; conv => whnf)
                | (refine Wr.i64 (by omega) ?_; conv => whnf)
                | (refine Ck.mk (by omega) ?_; conv => whnf)
                | (refine NewG.st (by assumption) (fun bt h' hs' => ?_); conv => whnf)
                | (refine Has.loadZ (by first | assumption | exact St.has (by assumption) (by repeat first | exact .head _ | apply List.Mem.tail) | exact St.arg (by assumption) (by assumption)) rfl (by first | (simp; done) | omega | (simp only [List.length_set, List.length_append, List.length_cons, List.length_nil, List.length_replicate, tab_length]; omega) | (simp; omega)) ?_; conv => whnf)
                | (refine LoadsG.has (by first | assumption | exact St.has (by assumption) (by repeat first | exact .head _ | apply List.Mem.tail) | exact St.arg (by assumption) (by assumption)) (by simp) ?_; conv => whnf))
              have em : j - (k + 1) = m - 1 := by omega
              refine ⟨k + 1, bl, bc, bo', R ++ [(bx, [_, _])], by rw [em]; exact (Less.cons rfl (Less.cons rfl (Less.cons rfl (Less.nil _)))), ⟨by omega, al1 hit, by rw [nx, nx2, rws_append, hR, ← w5, ← w6]; rfl, ?_⟩, by omega⟩
              rw [nx, nx2, ecut, List.replicate_succ]
              exact hs10
            · have d := dead (by omega) hit
              repeat' (first
                | (refine (index1_miss l _ _ _ _ _ hL (by omega) (by omega) hit).mono ?_; rintro v h' ⟨rfl, e'⟩; subst h'; conv => whnf)
                | refine AW.seq ?_
                | (refine AW.region ?_; conv => whnf)
                | refine AW.block ?_
                | (refine AW.skip ?_; conv => whnf)
                | (refine AW.ret ?_; conv => whnf)
                | refine AW.cond (by rfl) ?_
                | (refine Br.tt ?_; conv => whnf)
                | (refine Br.dt (by omega) ?_; conv => whnf))
              exact .inr ⟨d, .inl rfl, hs4.keeps⟩
          · have f := fin (by omega)
            repeat' (first
              | (refine (equalInts_ok l (List.replicate k 0) [1, 1, 1] _ _ _ _ _ _ _ (St.has hs' (.tail _ (.head _))) (St.has hs' (.head _)) (by omega) rfl (by omega) (by decide)).mono ?_; rintro v h' ⟨rfl, e'⟩; subst h'; conv => whnf)
              | refine AW.seq ?_
              | (refine AW.region ?_; conv => whnf)
              | (refine AW.ret ?_; conv => whnf)
              | (refine AW.exit ?_; conv => whnf)
              | refine AW.cond (by rfl) ?_
              | (refine Br.df (by omega) ?_; conv => whnf)
              | (refine NewG.st (by assumption) (fun bt h' hs' => ?_); conv => whnf))
            have e3 : q.length - 3 = k := by omega
            by_cases e : l = [1, 1, 1]
            · rw [decide_eq_true e] at f ⊢
              refine .inl ⟨f, bo, R, by rw [e3], by rw [e3, es]; exact hR, by omega, ?_⟩
              exact hs'.tail.sub ((List.sublist_cons_self _ _).trans (List.sublist_cons_self _ _))
            · rw [decide_eq_false e] at f ⊢
              exact .inr ⟨f, .inr ⟨_, _, _, rfl⟩, hs'.keeps⟩
  · refine AC.enter Try.func31 Try.call31 rfl Try.ntmps31 (of_decide_eq_true (by rfl)) ?_
    repeat' (first
      | refine AW.seq ?_
      | (refine AW.region ?_; conv => whnf)
      | (refine AW.ret ?_; conv => whnf)
      | refine AW.cond (by rfl) ?_
      | (refine (within_ok _ _ _ _).mono ?_; rintro v h' ⟨rfl, e'⟩; subst h'; conv => whnf)
      | refine Br.not ?_
      | (refine Br.df (by omega) ?_; conv => whnf))
    exact .inr ⟨decide_eq_false fun a => by have := a.1.1; omega, .inl rfl, Keeps.refl _⟩


theorem iIsQuiddity_ok (q : List Int) (bq N C : Nat) (h0 : H) (hb : Has h0 bq (ints q)) (hN : N = q.length) (hl : N ≤ 100000000) : AC env 13 [.slice bq 0 N C] h0 fun v h' => v = .bool (isQ q) ∧ Keeps h0 h' := by
  refine AC.enter Try.func13 Try.call13 rfl Try.ntmps13 (of_decide_eq_true (by rfl)) ?_
  repeat' (first
    | refine AW.seq ?_
    | (refine AW.region ?_; conv => whnf))
  refine (cuts_ok q bq N C h0 hb hN hl).mono ?_
  rintro v h' (⟨hq, b, R, rfl, hR, hL, hs⟩ | ⟨hq, rfl | ⟨_, _, _, rfl⟩, hk⟩)
  · conv => whnf
    repeat' (first
      | refine AW.seq ?_
      | (refine AW.region ?_; conv => whnf)
      | (refine AW.ret ?_; conv => whnf))
    exact ⟨by rw [hq], hs.keeps⟩
  all_goals
    conv => whnf
    repeat' (first
      | refine AW.seq ?_
      | (refine AW.region ?_; conv => whnf)
      | (refine AW.ret ?_; conv => whnf))
    exact ⟨by rw [hq], hk⟩

set_option maxHeartbeats 4000000 in
theorem sIsQuiddity_ok (q : List Int) (bq N C : Nat) (h0 : H) (hb : Has h0 bq (ints q)) (hN : N = q.length) (hl : N ≤ 100000000) : AC env 40 [.slice bq 0 N C] h0 fun v h' => v = .bool (isQ q) ∧ Keeps h0 h' := by
  have hs := St.refl h0
  subst hN
  by_cases sm : smallQ q
  · have sd : decide (smallQ q) = true := decide_eq_true sm
    have hsz := sm.1
    refine AC.enter Try.func40 Try.call40 rfl Try.ntmps40 (of_decide_eq_true (by rfl)) ?_
    repeat' (first
      | (refine (l22Fine_ok _ _ _ _ _ hb rfl (by omega)).mono ?_; rw [sd]; rintro v h' ⟨rfl, e'⟩; subst h'; conv => whnf)
      | (refine AppG.stZs (l := []) (by assumption) (by intro b'; repeat first | exact .here | apply Spot.there) (by simp) (by simp; omega) (by decide) (fun b' h' hs' => ?_); conv => whnf)
      | refine AW.seq ?_
      | (refine AW.region ?_; conv => whnf)
      | refine AW.block ?_
      | (refine AW.skip ?_; conv => whnf)
      | refine AW.cond (by rfl) ?_
      | (refine Br.ff ?_; conv => whnf)
      | (refine NewG.st (by assumption) (fun bt h' hs' => ?_); conv => whnf)
      | (refine LoadsG.has (by first | assumption | exact St.has (by assumption) (by repeat first | exact .head _ | apply List.Mem.tail) | exact St.arg (by assumption) (by assumption)) (by simp) ?_; conv => whnf))
    rw [List.nil_append] at hs'
    rw [Nat.zero_add]
    refine AW.loop2 (fun (k bl : Nat) => [(3, .slice bl 0 (q.length - k) (q.length - k))]) (fun k bl h' => k + 3 ≤ q.length ∧ aliveQ q k ∧ St h0 h' [(bl, row (ints (qSt q k).1))]) (fun k _ => q.length - k) 0 b' (Less.cons rfl (Less.nil _)) ⟨by omega, fun i hi => by omega, hs'⟩ ?_
    rintro k bl h4 ⟨hk3, al, hs4⟩
    clear hs' hs
    have ln := qSt_len al (by omega)
    have bd := qSt_bd sm k
    have hL : Has h4 bl (ints (qSt q k).1) := hs4.has (.head _)
    have nx : (qSt q (k + 1)).1 = cutQ (qSt q k).1 (fst1 (qSt q k).1) := rfl
    have al1 : fst1 (qSt q k).1 < (qSt q k).1.length → aliveQ q (k + 1) := fun hit i hi => by
      by_cases e : i = k
      · rw [e]; exact hit
      · exact al i (by omega)
    have dead : k + 3 < q.length → ¬ fst1 (qSt q k).1 < (qSt q k).1.length → isQ q = false := fun hk hit => decide_eq_false fun a => hit (a.2.1 k (by omega))
    have fin : k + 3 = q.length → isQ q = decide ((qSt q k).1 = [1, 1, 1]) := fun e => by
      have e3 : q.length - 3 = k := by omega
      unfold isQ
      rw [e3]
      exact decide_eq_decide.2 ⟨fun a => a.2.2, fun a => ⟨sm, al, a⟩⟩
    obtain ⟨m, hm⟩ : ∃ m, q.length - k = m := ⟨_, rfl⟩
    rw [hm]
    have ll := ln.1
    rw [hm] at ll
    have em : q.length - (k + 1) = m - 1 := by omega
    have m10 : m ≤ 10 := by omega
    clear ln sd
    generalize (qSt q k).1 = l at *
    by_cases hlt3 : 3 < m
    · repeat' (first
        | refine AW.seq ?_
        | (refine AW.region ?_; conv => whnf)
        | refine AW.block ?_
        | (refine AW.skip ?_; conv => whnf)
        | refine AW.cond (by rfl) ?_
        | (refine Br.dt (by omega) ?_; conv => whnf)
        | (refine Wr.i64 (by omega) ?_; conv => whnf))
      refine AW.loop2 (fun (i : Nat) (at_ : Int) => [(3, .slice bl 0 m m), (4, .int .i64 at_), (5, .int .i64 ((i : Int) - 1))]) (fun i at_ h' => i ≤ m ∧ ((at_ = -1 ∧ ∀ j, i ≤ j → j < m → l.getD j 0 ≠ 1) ∨ ∃ a : Nat, at_ = a ∧ i ≤ a ∧ a < m ∧ l.getD a 0 = 1 ∧ ∀ j, i ≤ j → j < a → l.getD j 0 ≠ 1) ∧ h' = h4) (fun i _ => i) m (-1) (Less.cons rfl (Less.cons rfl (Less.cons rfl (Less.nil _)))) ⟨by omega, .inl ⟨rfl, fun j a b => by omega⟩, rfl⟩ ?_
      rintro i at_ h5 ⟨hi, hat, rfl⟩
      cases i with
      | succ i =>
        have ei : (((i + 1 : Nat) : Int) - 1) = i := by omega
        rw [ei]
        by_cases c1 : l.getD i 0 = 1
        · have c2 : l.getD (i : Int).toNat 0 = 1 := c1
          repeat' (first
            | refine AW.seq ?_
            | (refine AW.region ?_; conv => whnf)
            | refine AW.block ?_
            | (refine AW.skip ?_; conv => whnf)
            | refine AW.cond (by rfl) ?_
            | (refine Br.tt ?_; conv => whnf)
            | (refine Br.dt (by omega) ?_; conv => whnf)
            | (refine Wr.i64 (by omega) ?_; conv => whnf)
            | (refine Ck.mk (by omega) ?_; conv => whnf)
            | (refine Has.loadZ (by first | assumption | exact St.has (by assumption) (by repeat first | exact .head _ | apply List.Mem.tail) | exact St.arg (by assumption) (by assumption)) rfl (by first | (simp; done) | omega | (simp only [List.length_set, List.length_append, List.length_cons, List.length_nil, List.length_replicate, tab_length]; omega) | (simp; omega)) ?_; conv => whnf))
          exact ⟨i, _, (Less.cons rfl (Less.cons rfl (Less.cons rfl (Less.nil _)))), ⟨by omega, .inr ⟨i, rfl, by omega, by omega, c1, fun j a b => by omega⟩, rfl⟩, by omega⟩
        · have c2 : l.getD (i : Int).toNat 0 ≠ 1 := c1
          repeat' (first
            | refine AW.seq ?_
            | (refine AW.region ?_; conv => whnf)
            | refine AW.block ?_
            | (refine AW.skip ?_; conv => whnf)
            | refine AW.cond (by rfl) ?_
            | (refine Br.tt ?_; conv => whnf)
            | (refine Br.df (by omega) ?_; conv => whnf)
            | (refine Wr.i64 (by omega) ?_; conv => whnf)
            | (refine Ck.mk (by omega) ?_; conv => whnf)
            | (refine Has.loadZ (by first | assumption | exact St.has (by assumption) (by repeat first | exact .head _ | apply List.Mem.tail) | exact St.arg (by assumption) (by assumption)) rfl (by first | (simp; done) | omega | (simp only [List.length_set, List.length_append, List.length_cons, List.length_nil, List.length_replicate, tab_length]; omega) | (simp; omega)) ?_; conv => whnf))
          refine ⟨i, _, (Less.cons rfl (Less.cons rfl (Less.cons rfl (Less.nil _)))), ⟨by omega, ?_, rfl⟩, by omega⟩
          have key : ∀ j, i ≤ j → (i + 1 ≤ j → l.getD j 0 ≠ 1) → l.getD j 0 ≠ 1 := fun j a h => by
            by_cases e : j = i
            · rw [e]; exact c1
            · exact h (by omega)
          rcases hat with ⟨h1, h2⟩ | ⟨a, h1, h2, h3, h4, h5⟩
          · exact .inl ⟨h1, fun j a b => key j a fun a => h2 j a b⟩
          · exact .inr ⟨a, h1, by omega, h3, h4, fun j x y => key j x fun x => h5 j x y⟩
      | zero =>
        rcases hat with ⟨rfl, h2⟩ | ⟨i, rfl, h2, hi, h4, h5⟩
        · have hit : ¬ fst1 l < l.length := by
            rw [fst1_miss l fun j hj => h2 j (by omega) (by omega)]
            omega
          have d := dead (by omega) hit
          repeat' (first
            | refine AW.seq ?_
            | (refine AW.region ?_; conv => whnf)
            | (refine AW.ret ?_; conv => whnf)
            | (refine AW.exit ?_; conv => whnf)
            | refine AW.cond (by rfl) ?_
            | (refine Br.tt ?_; conv => whnf)
            | (refine Br.ff ?_; conv => whnf))
          exact ⟨by rw [d], hs4.keeps⟩
        · have ei := fst1_hit l i (by omega) h4 fun j hj => h5 j (by omega) hj
          have al2 := al1 (by omega)
          have t1 := cut_mod1 i m (by omega)
          have t2 := cut_mod2 i m
          have a1 : (i + m - 1) % m < m := Nat.mod_lt _ (by omega)
          have a2 : (i + 1) % m < m := Nat.mod_lt _ (by omega)
          have cut := cutQ_two l i m ll hi (by omega)
          rw [ei] at nx
          generalize (i + m - 1) % m = a at *
          generalize (i + 1) % m = b at *
          have q1 := bd.get (by omega) b
          have q2 := (bd.dec (by omega) b).get (by omega) a
          have q3 : -(2 * (k : Int)) ≤ l.getD (b : Int).toNat 0 ∧ l.getD (b : Int).toNat 0 ≤ 100 := q1
          have q4 : -(2 * (k : Int) + 1) ≤ (l.set (b : Int).toNat (l.getD (b : Int).toNat 0 - 1)).getD (a : Int).toNat 0 ∧ (l.set (b : Int).toNat (l.getD (b : Int).toNat 0 - 1)).getD (a : Int).toNat 0 ≤ 100 := q2
          repeat' (first
            | (rw [t2])
            | (rw [t1])
            | (refine StoreG.stZ hs4 .here rfl (by simp; omega) (fun h5 hs5 => ?_); conv => whnf)
            | (refine StoreG.stZ hs5 .here rfl (by simp; omega) (fun h6 hs6 => ?_); conv => whnf)
            | (refine NewG.st hs6 (fun bx hx hs6x => ?_); have hL6 := St.has hs6x (.tail _ (.head _)); conv => whnf)
            | (refine Has.loadsTo hL6 i rfl (by simp; omega) ?_; conv => whnf)
            | (refine AppG.stZs (l := []) hs6x (fun b' => .here) rfl (by simp; omega) (by decide) (fun by' hy hs7 => ?_); have hL7 := St.has hs7 (.tail _ (.head _)); conv => whnf)
            | (refine Has.loadsOff hL7 rfl (i + 1) (m - (i + 1)) (by omega) (by omega) (by simp; omega) ?_; conv => whnf)
            | (refine AppG.stZs hs7 (fun b' => .here) (by simp; omega) (by simp; omega) (by decide) (fun bz hz hs8 => ?_); conv => whnf)
            | refine AW.seq ?_
            | (refine AW.region ?_; conv => whnf)
            | (refine AW.skip ?_; conv => whnf)
            | (refine AW.exit ?_; conv => whnf)
            | refine AW.cond (by rfl) ?_
            | (refine AW.draw (id := 14) (.p 0 (.p 1 (.p 2 (.p 3 (.p 4 (.p 5 (.p 6 (.p 7 (.p 8 (.p 9 (.p 10 (.r 11 [12, 13, 14] (.p 12 (.p 13 (.all [14] fun _ => .done))))))))))))))) (by kernel_rfl) (by kernel_rfl) ?_; conv => whnf)
            | (refine AW.draw (id := 15) (.p 0 (.p 1 (.p 2 (.p 3 (.p 4 (.p 5 (.p 6 (.p 7 (.p 8 (.p 9 (.p 10 (.p 11 (.p 12 (.p 13 (.p 14 (.r 15 [16, 17, 18] (.p 16 (.p 17 (.all [18] fun _ => .done))))))))))))))))))) (by kernel_rfl) (by kernel_rfl) ?_; conv => whnf)
            | (refine AW.draw (id := 16) (.p 1 (.p 2 (.p 3 (.p 5 (.p 6 (.p 7 (.p 8 (.all [0] fun _ => (.all [4] fun _ => (.all [9] fun _ => (.p 10 .done))))))))))) (by kernel_rfl) (by kernel_rfl) ?_; conv => whnf)
            | (refine Br.ff ?_; conv => whnf)
            | (refine Wr.i64 (by omega) ?_; conv => whnf)
            | (refine Ck.mk (by omega) ?_; conv => whnf)
            | (refine Has.loadZ (by first | assumption | exact St.has (by assumption) (by repeat first | exact .head _ | apply List.Mem.tail) | exact St.arg (by assumption) (by assumption)) rfl (by first | (simp; done) | omega | (simp only [List.length_set, List.length_append, List.length_cons, List.length_nil, List.length_replicate, tab_length]; omega) | (simp; omega)) ?_; conv => whnf))
          have en : 0 + i + (m - ((i : Int) + 1).toNat) = q.length - (k + 1) := by omega
          rw [List.nil_append, erase_two _ hi (by simp; omega)] at hs8
          refine ⟨k + 1, bz, by rw [← en]; exact (Less.cons rfl (Less.nil _)), ⟨by omega, al2, ?_⟩, by omega⟩
          rw [nx, cut]
          exact hs8.sub (List.Sublist.cons_cons _ (List.nil_sublist _))
    · have f := fin (by omega)
      obtain rfl : m = 3 := by omega
      match l, ll with
      | [x, y, z], _ =>
        have x0 : [x, y, z].getD (Int.toNat 0) 0 = x := rfl
        have x1 : [x, y, z].getD (Int.toNat 1) 0 = y := rfl
        have x2 : [x, y, z].getD (Int.toNat 2) 0 = z := rfl
        have g : ([x, y, z] = [1, 1, 1]) ↔ x = 1 ∧ y = 1 ∧ z = 1 := by simp
        repeat' (first
          | refine AW.seq ?_
          | (refine AW.region ?_; conv => whnf)
          | (refine AW.ret ?_; conv => whnf)
          | (refine AW.exit ?_; conv => whnf)
          | refine AW.cond (by rfl) ?_
          | (refine Br.ff ?_; conv => whnf)
          | (refine Br.dt (by omega) ?_; conv => whnf)
          | (refine Br.df (by omega) ?_; conv => whnf)
          | (refine Br.dec (fun hc => ?_) (fun hc => ?_) <;> conv => whnf)
          | (refine Ck.mk (by omega) ?_; conv => whnf)
          | (refine Has.loadZ (by first | assumption | exact St.has (by assumption) (by repeat first | exact .head _ | apply List.Mem.tail) | exact St.arg (by assumption) (by assumption)) rfl (by first | (simp; done) | omega | (simp only [List.length_set, List.length_append, List.length_cons, List.length_nil, List.length_replicate, tab_length]; omega) | (simp; omega)) ?_; conv => whnf))
        all_goals refine ⟨?_, hs4.keeps⟩
        all_goals rw [f, decide_eq_decide.2 g]
        all_goals congr 1
        all_goals first
          | (symm; apply decide_eq_false; omega)
          | (rw [Bool.eq_iff_iff, beq_iff_eq, decide_eq_true_iff]; omega)
          | (symm; apply decide_eq_true; omega)
  · have sd : decide (smallQ q) = false := decide_eq_false sm
    have sq : isQ q = false := decide_eq_false fun a => sm a.1
    refine AC.enter Try.func40 Try.call40 rfl Try.ntmps40 (of_decide_eq_true (by rfl)) ?_
    repeat' (first
      | (refine (l22Fine_ok _ _ _ _ _ hb rfl (by omega)).mono ?_; rw [sd]; rintro v h' ⟨rfl, e'⟩; subst h'; conv => whnf)
      | refine AW.seq ?_
      | (refine AW.region ?_; conv => whnf)
      | (refine AW.ret ?_; conv => whnf)
      | refine AW.cond (by rfl) ?_
      | (refine Br.tt ?_; conv => whnf))
    exact ⟨by rw [sq], Keeps.refl _⟩

end Go.Proofs.Ytbicfognbbeigaa
