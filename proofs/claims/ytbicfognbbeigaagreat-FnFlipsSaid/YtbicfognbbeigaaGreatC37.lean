/-
  Contracts of the cuts of ears are proved.
  They hold for all rows of numbers.
-/
import Derived.Test.YtbicfognbbeigaaGreatH8
import Derived.Test.YtbicfognbbeigaaGreatC36
set_option linter.unusedVariables false
set_option linter.unusedSimpArgs false
namespace Go.Proofs.YtbicfognbbeigaaGreat
open Go.Proofs.YtbicfognbbeigaaGreat.Ab Go.Proofs.YtbicfognbbeigaaGreat.Pl

theorem Has.loadsOff {h : H} {b n sz q : Nat} {l : List Int} {K : List AV → Prop} (m : Has h b (ints l)) (hs : sz = 1) (o r : Nat) (e : n = o) (e2 : q = r) (hn : o + r ≤ l.length) (hk : K (ints ((l.drop o).take r))) : LoadsG h b (0 + mulSz n sz) q K := by
  rw [off1 hs]
  subst e e2
  obtain ⟨w, s, e⟩ := m
  refine .mk w s _ e (by simpa using hn) ?_
  have : ((ints l).drop n).take q = ints ((l.drop n).take q) := by unfold ints; rw [← List.map_drop, ← List.map_take]
  rw [this]
  exact hk
theorem Has.loadsTo {h : H} {b q : Nat} {l : List Int} {K : List AV → Prop} (m : Has h b (ints l)) (r : Nat) (e2 : q = r) (hn : r ≤ l.length) (hk : K (ints (l.take r))) : LoadsG h b 0 q K := by
  subst e2
  obtain ⟨w, s, e⟩ := m
  refine .mk w s _ e (by simp; omega) ?_
  have : ((ints l).drop 0).take q = ints (l.take q) := by unfold ints; rw [List.drop_zero, ← List.map_take]
  rw [this]
  exact hk
theorem ClearG.at {h : H} {b n sz q : Nat} {z : AV} {cs : List AV} {K : H → Prop} (hb : h b = some (row cs)) (hs : sz = 1) (o r : Nat) (e : n = o) (e2 : q = r) (ho : o + r ≤ cs.length) (h1 : z.one = true) (hk : K (upd h b (row (cs.take o ++ List.replicate r z ++ cs.drop (o + r))))) : ClearG h b (0 + mulSz n sz) q z K := by
  rw [off1 hs]
  subst e e2
  exact .mk cs hb ho h1 hk
theorem ints_one (l : List Int) : ∀ v ∈ ints l, v.one = true := by
  intro v hv
  obtain ⟨z, _, rfl⟩ := List.mem_map.1 hv
  rfl
theorem getD_app (l z : List Int) {i : Nat} (h : i < l.length) : (l ++ z).getD i 0 = l.getD i 0 := by
  simp only [List.getD]
  rw [List.getElem?_append_left h]

/-- the place of the first one -/
def fst1 : List Int → Nat
  | [] => 0
  | x :: l => if x = 1 then 0 else fst1 l + 1
theorem fst1_le : ∀ l, fst1 l ≤ l.length
  | [] => Nat.le_refl _
  | x :: l => by
    rw [fst1]
    split
    · omega
    · have := fst1_le l
      simp
      exact this
theorem fst1_hit : ∀ (l : List Int) (k : Nat), k < l.length → l.getD k 0 = 1 → (∀ j, j < k → l.getD j 0 ≠ 1) → fst1 l = k
  | [], k, h, _, _ => by simp at h
  | x :: l, 0, _, h, _ => by
    simp at h
    rw [fst1, if_pos h]
  | x :: l, k + 1, h1, h2, h3 => by
    have := h3 0 (by omega)
    simp at this
    rw [fst1, if_neg this, fst1_hit l k (by simpa using h1) (by simpa using h2) fun j hj => by simpa using h3 (j + 1) (by omega)]
theorem fst1_miss : ∀ (l : List Int), (∀ j, j < l.length → l.getD j 0 ≠ 1) → fst1 l = l.length
  | [], _ => rfl
  | x :: l, h => by
    have := h 0 (by simp)
    simp at this
    rw [fst1, if_neg this, fst1_miss l fun j hj => by simpa using h (j + 1) (by simpa using hj)]
    simp
theorem fst1_at : ∀ (l : List Int), fst1 l < l.length → l.getD (fst1 l) 0 = 1 ∧ ∀ j, j < fst1 l → l.getD j 0 ≠ 1
  | [], h => by simp at h
  | x :: l, h => by
    rw [fst1] at h ⊢
    split
    · rename_i c
      exact ⟨by simpa using c, fun j hj => by omega⟩
    · rename_i c
      rw [if_neg c] at h
      have ih := fst1_at l (by simpa using h)
      refine ⟨by simpa using ih.1, fun j hj => ?_⟩
      cases j with
      | zero => simpa using c
      | succ j => simpa using ih.2 j (by omega)

theorem copyInts_ok (l : List Int) (b N C : Nat) (h0 : H) (hb : Has h0 b (ints l)) (hN : N = l.length) (hl : l.length ≤ 100000000) : AC env 91 [.slice b 0 N C] h0 fun v h' => ∃ b', v = .slice b' 0 N N ∧ New h0 h' b' (ints l) := by
  have hs := St.refl h0
  subst hN
  refine AC.enter Tryz.func91 Tryz.call91 rfl Tryz.ntmps91 (of_decide_eq_true (by rfl)) ?_
  repeat' (first
    | (refine AppG.stZs (l := []) (by assumption) (by intro b'; repeat first | exact .here | apply Spot.there) (by simp) (by simp; omega) (by decide) (fun b' h' hs' => ?_); conv => whnf)
    | refine AW.seq ?_
    | (refine AW.region ?_; conv => whnf)
    | (refine AW.ret ?_; conv => whnf)
    | (refine NewG.st (by assumption) (fun bt h' hs' => ?_); conv => whnf)
    | (refine LoadsG.has (by first | assumption | exact St.has (by assumption) (by repeat first | exact .head _ | apply List.Mem.tail) | exact St.arg (by assumption) (by assumption)) (by simp) ?_; conv => whnf))
  rw [Nat.zero_add]
  exact ⟨_, rfl, hs'.toNew⟩

theorem eqCond {l m : List Int} {k : Nat} (hk : k < l.length) (hm : k < m.length) (h : l.getD k 0 ≠ m.getD k 0) : l ≠ m := fun e => h (by rw [e])
theorem equalInts_ok (l z m : List Int) (b c N C M D : Nat) (h0 : H) (hb : Has h0 b (ints (l ++ z))) (hc' : Has h0 c (ints m)) (hN : N = l.length) (hM : M = m.length) (hl : N ≤ 100000000) (hm : M ≤ 100000000) :
    AC env 77 [.slice b 0 N C, .slice c 0 M D] h0 fun v h' => v = .bool (decide (l = m)) ∧ h' = h0 := by
  by_cases e : N = M
  · refine AC.enter Tryz.func77 Tryz.call77 rfl Tryz.ntmps77 (of_decide_eq_true (by rfl)) ?_
    repeat' (first
      | refine AW.seq ?_
      | (refine AW.region ?_; conv => whnf)
      | refine AW.block ?_
      | (refine AW.skip ?_; conv => whnf)
      | refine AW.cond (by rfl) ?_
      | refine Br.not ?_
      | (refine Br.dt (by omega) ?_; conv => whnf))
    refine AW.loop1 (fun (k : Nat) => [(0, .slice b 0 N C), (1, .slice c 0 M D), (12, .int .i64 N), (13, .int .i64 k)]) (fun k h' => k ≤ N ∧ (∀ j, j < k → l.getD j 0 = m.getD j 0) ∧ h' = h0) (fun k => N - k) 0
      (Less.cons rfl (Less.cons rfl (Less.cons rfl (Less.cons rfl (Less.nil _))))) ⟨by omega, fun j hj => by omega, rfl⟩ ?_
    rintro k h1 ⟨hk, hj, rfl⟩
    by_cases hlt : k < N
    · have ea := getD_app l z (i := k) (by omega)
      by_cases c1 : l.getD k 0 = m.getD k 0
      · have c2 : (l ++ z).getD (k : Int).toNat 0 = m.getD (k : Int).toNat 0 := ea.trans c1
        repeat' (first
          | (refine Has.loadZ hb rfl (by simp; omega) ?_; conv => whnf)
          | refine AW.seq ?_
          | (refine AW.region ?_; conv => whnf)
          | refine AW.block ?_
          | (refine AW.skip ?_; conv => whnf)
          | refine AW.cond (by rfl) ?_
          | (refine AW.draw (id := 6) (.p 0 (.p 1 (.p 2 (.p 4 (.p 5 (.p 6 (.r 3 [8] (.r 7 [8] (.p 8 .done))))))))) (by kernel_rfl) (by kernel_rfl) ?_; conv => whnf)
          | refine Br.not ?_
          | (refine Br.dt (by omega) ?_; conv => whnf)
          | (refine Wr.i64 (by omega) ?_; conv => whnf)
          | (refine Ck.mk (by omega) ?_; conv => whnf)
          | (refine Has.loadZ (by first | assumption | exact St.has (by assumption) (by repeat first | exact .head _ | apply List.Mem.tail) | exact St.arg (by assumption) (by assumption)) rfl (by first | (simp; done) | omega | (simp only [List.length_set, List.length_append, List.length_cons, List.length_nil, List.length_replicate, tab_length]; omega) | (simp; omega)) ?_; conv => whnf))
        refine ⟨k + 1, (Less.cons rfl (Less.cons rfl (Less.cons rfl (Less.cons rfl (Less.nil _))))), ⟨by omega, fun j hj' => ?_, rfl⟩, by omega⟩
        by_cases c3 : j = k
        · rw [c3]; exact c1
        · exact hj j (by omega)
      · have c2 : (l ++ z).getD (k : Int).toNat 0 ≠ m.getD (k : Int).toNat 0 := fun h => c1 (ea.symm.trans h)
        repeat' (first
          | (refine Has.loadZ hb rfl (by simp; omega) ?_; conv => whnf)
          | refine AW.seq ?_
          | (refine AW.region ?_; conv => whnf)
          | refine AW.block ?_
          | (refine AW.skip ?_; conv => whnf)
          | (refine AW.ret ?_; conv => whnf)
          | refine AW.cond (by rfl) ?_
          | (refine AW.draw (id := 6) (.p 0 (.p 1 (.p 2 (.p 4 (.p 5 (.p 6 (.r 3 [8] (.r 7 [8] (.p 8 .done))))))))) (by kernel_rfl) (by kernel_rfl) ?_; conv => whnf)
          | refine Br.not ?_
          | (refine Br.dt (by omega) ?_; conv => whnf)
          | (refine Br.df (by omega) ?_; conv => whnf)
          | (refine Ck.mk (by omega) ?_; conv => whnf)
          | (refine Has.loadZ (by first | assumption | exact St.has (by assumption) (by repeat first | exact .head _ | apply List.Mem.tail) | exact St.arg (by assumption) (by assumption)) rfl (by first | (simp; done) | omega | (simp only [List.length_set, List.length_append, List.length_cons, List.length_nil, List.length_replicate, tab_length]; omega) | (simp; omega)) ?_; conv => whnf))
        exact ⟨by rw [decide_eq_false (eqCond (by omega) (by omega) c1)], rfl⟩
    · repeat' (first
        | refine AW.seq ?_
        | (refine AW.region ?_; conv => whnf)
        | (refine AW.ret ?_; conv => whnf)
        | (refine AW.exit ?_; conv => whnf)
        | refine AW.cond (by rfl) ?_
        | (refine Br.df (by omega) ?_; conv => whnf))
      refine ⟨?_, rfl⟩
      have : l = m := by
        apply List.ext_getElem (by omega)
        intro i h1 h2
        have := hj i (by omega)
        simpa [List.getD, h1, h2] using this
      rw [decide_eq_true this]
  · refine AC.enter Tryz.func77 Tryz.call77 rfl Tryz.ntmps77 (of_decide_eq_true (by rfl)) ?_
    repeat' (first
      | refine AW.seq ?_
      | (refine AW.region ?_; conv => whnf)
      | (refine AW.ret ?_; conv => whnf)
      | refine AW.cond (by rfl) ?_
      | refine Br.not ?_
      | (refine Br.df (by omega) ?_; conv => whnf))
    exact ⟨by rw [decide_eq_false fun h => e (by rw [hN, hM, h])], rfl⟩


theorem del_list (l z : List Int) (i : Nat) (h : i < l.length) :
    ((((l ++ z).take i ++ ((l ++ z).drop (i + 1)).take (l.length - (i + 1))) ++ (l ++ z).drop (i + (l.length - (i + 1)))).take (l.length - 1) ++ [0]) ++ (((l ++ z).take i ++ ((l ++ z).drop (i + 1)).take (l.length - (i + 1))) ++ (l ++ z).drop (i + (l.length - (i + 1)))).drop (l.length - 1 + 1) = l.eraseIdx i ++ 0 :: z := by
  have e0 : ∃ A x B, l = A ++ x :: B ∧ A.length = i := ⟨l.take i, l[i], l.drop (i + 1), by rw [← List.drop_eq_getElem_cons h, List.take_append_drop], by simp; omega⟩
  obtain ⟨A, x, B, rfl, rfl⟩ := e0
  have e1 : (A ++ x :: B ++ z).drop (A.length + 1) = B ++ z := by
    rw [List.append_assoc, List.drop_append, List.drop_eq_nil_of_le (by omega)]
    simp
  have e2 : (A ++ x :: B).length - (A.length + 1) = B.length := by simp; omega
  have e3 : (A ++ x :: B).length - 1 = A.length + B.length := by simp
  have e4 : (A ++ x :: B).eraseIdx A.length = A ++ B := by
    rw [List.eraseIdx_append_of_length_le (Nat.le_refl _), Nat.sub_self]
    rfl
  have e5 : (A ++ x :: B ++ z).take A.length = A := by rw [List.append_assoc, List.take_left]
  have e6 : ((B ++ z).take B.length) = B := List.take_left
  obtain ⟨y, e7⟩ : ∃ y, (A ++ x :: B ++ z).drop (A.length + B.length) = y :: z := by
    refine ⟨(x :: B)[B.length]'(by simp), ?_⟩
    rw [List.append_assoc, List.drop_append, List.drop_eq_nil_of_le (by omega), Nat.add_sub_cancel_left, List.nil_append, List.drop_append_of_le_length (by simp), List.drop_eq_getElem_cons (show B.length < (x :: B).length by simp), List.drop_eq_nil_of_le (show (x :: B).length ≤ B.length + 1 by simp)]
    rfl
  simp only [e1, e2, e3, e4, e5, e6, e7]
  rw [List.take_append_of_le_length (by simp), List.take_of_length_le (by simp), List.drop_append, List.drop_eq_nil_of_le (by simp), List.length_append, Nat.add_sub_cancel_left]
  simp
theorem del_cells (l z : List Int) (i : Nat) (h : i < l.length) :
    (((ints (l ++ z)).take i ++ ints (((l ++ z).drop (i + 1)).take (l.length - (i + 1))) ++ (ints (l ++ z)).drop (i + (l.length - (i + 1)))).take (l.length - 1) ++ List.replicate 1 (.int .i64 0)) ++ ((ints (l ++ z)).take i ++ ints (((l ++ z).drop (i + 1)).take (l.length - (i + 1))) ++ (ints (l ++ z)).drop (i + (l.length - (i + 1)))).drop (l.length - 1 + 1) = ints (l.eraseIdx i ++ 0 :: z) := by
  rw [← del_list l z i h]
  simp [ints]


theorem cut_ne {i n : Nat} (hi : i < n) (hn : 3 ≤ n) : (i + n - 1) % n ≠ (i + 1) % n := by
  have e2 : i + 1 = n ∨ i + 1 < n := by omega
  rcases e2 with e2 | e2
  · rw [e2, Nat.mod_self, show i + n - 1 = (n - 2) + n by omega, Nat.add_mod_right, Nat.mod_eq_of_lt (by omega)]
    omega
  · rw [Nat.mod_eq_of_lt e2]
    cases i with
    | zero => rw [Nat.mod_eq_of_lt (by omega)]; omega
    | succ i => rw [show i + 1 + n - 1 = i + n by omega, Nat.add_mod_right, Nat.mod_eq_of_lt (by omega)]; omega
theorem set_swap (l : List Int) {a b : Nat} (h : a ≠ b) : (l.set a (l.getD a 0 - 1)).set b ((l.set a (l.getD a 0 - 1)).getD b 0 - 1) = (l.set b (l.getD b 0 - 1)).set a ((l.set b (l.getD b 0 - 1)).getD a 0 - 1) := by
  have e1 : (l.set a (l.getD a 0 - 1)).getD b 0 = l.getD b 0 := by simp only [List.getD, List.getElem?_set_ne h]
  have e2 : (l.set b (l.getD b 0 - 1)).getD a 0 = l.getD a 0 := by simp only [List.getD, List.getElem?_set_ne (Ne.symm h)]
  rw [e1, e2, List.set_comm _ _ h]
theorem cutQ_two (q : List Int) (i n : Nat) (hn : q.length = n) (hi : i < n) (h3 : 3 ≤ n) : cutQ q i = ((q.set ((i + 1) % n) (q.getD ((i + 1) % n) 0 - 1)).set ((i + n - 1) % n) ((q.set ((i + 1) % n) (q.getD ((i + 1) % n) 0 - 1)).getD ((i + n - 1) % n) 0 - 1)).eraseIdx i := by
  rw [← set_swap _ (cut_ne hi h3)]
  subst hn
  rfl
theorem erase_two (l : List Int) {i m : Nat} (hi : i < m) (hm : l.length = m) : l.take i ++ (l.drop (i + 1)).take (m - (i + 1)) = l.eraseIdx i := by
  rw [List.take_of_length_le (l := l.drop (i + 1)) (by rw [List.length_drop]; omega), List.eraseIdx_eq_take_drop_succ]

/-! cuts, one after the other -/
def iotaI (n : Nat) : List Int := tab n fun i => i
@[simp] theorem iotaI_length (n : Nat) : (iotaI n).length = n := tab_length _ _
def qStep (s : List Int × List Int × List (List Int)) : List Int × List Int × List (List Int) :=
  (cutQ s.1 (fst1 s.1), s.2.1.eraseIdx (fst1 s.1), s.2.2 ++ [[min (s.2.1.getD ((fst1 s.1 + s.1.length - 1) % s.1.length) 0) (s.2.1.getD ((fst1 s.1 + 1) % s.1.length) 0), max (s.2.1.getD ((fst1 s.1 + s.1.length - 1) % s.1.length) 0) (s.2.1.getD ((fst1 s.1 + 1) % s.1.length) 0)]])
def qSt (q : List Int) : Nat → List Int × List Int × List (List Int)
  | 0 => (q, iotaI q.length, [])
  | k + 1 => qStep (qSt q k)
theorem qStep_eq (l c : List Int) (o : List (List Int)) : qStep (l, c, o) = (cutQ l (fst1 l), c.eraseIdx (fst1 l), o ++ [[min (c.getD ((fst1 l + l.length - 1) % l.length) 0) (c.getD ((fst1 l + 1) % l.length) 0), max (c.getD ((fst1 l + l.length - 1) % l.length) 0) (c.getD ((fst1 l + 1) % l.length) 0)]]) := rfl
def aliveQ (q : List Int) (k : Nat) : Prop := ∀ j, j < k → fst1 (qSt q j).1 < (qSt q j).1.length
def smallQ (q : List Int) : Prop := (3 ≤ q.length ∧ q.length ≤ 10) ∧ ∀ i, i < q.length → 1 ≤ q.getD i 0 ∧ q.getD i 0 ≤ 100
instance (q : List Int) : Decidable (smallQ q) := inferInstanceAs (Decidable (_ ∧ _))
instance (q : List Int) (k : Nat) : Decidable (aliveQ q k) := inferInstanceAs (Decidable (∀ j, j < k → _))
def isQ (q : List Int) : Bool := decide (smallQ q ∧ aliveQ q (q.length - 3) ∧ (qSt q (q.length - 3)).1 = [1, 1, 1])
theorem qSt_len {q : List Int} : ∀ {k : Nat}, aliveQ q k → k ≤ q.length → (qSt q k).1.length = q.length - k ∧ (qSt q k).2.1.length = q.length - k ∧ (qSt q k).2.2.length = k
  | 0, _, _ => ⟨rfl, tab_length _ _, rfl⟩
  | k + 1, h, hk => by
    have ih := qSt_len (k := k) (fun j hj => h j (by omega)) (by omega)
    have hi := h k (by omega)
    rw [qSt, qStep]
    refine ⟨?_, ?_, by simp [ih.2.2]⟩
    · rw [cutQ_len _ hi, ih.1]; omega
    · rw [List.length_eraseIdx, if_pos (by rw [ih.2.1, ← ih.1]; exact hi), ih.2.1]; omega
def bdQ (m : Int) (l : List Int) : Prop := ∀ x ∈ l, -m ≤ x ∧ x ≤ 100
theorem bdQ.get {m : Int} {l : List Int} (h : bdQ m l) (hm : 0 ≤ m) (i : Nat) : -m ≤ l.getD i 0 ∧ l.getD i 0 ≤ 100 := by
  by_cases c : i < l.length
  · have e : l.getD i 0 = l[i] := by simp [List.getD, c]
    rw [e]
    exact h _ (List.getElem_mem c)
  · have e : l.getD i 0 = 0 := by simp [List.getD, c]
    rw [e]
    omega
theorem bdQ.dec {m : Int} {l : List Int} (h : bdQ m l) (hm : 0 ≤ m) (i : Nat) : bdQ (m + 1) (l.set i (l.getD i 0 - 1)) := fun x hx => by
  rcases List.mem_or_eq_of_mem_set hx with hx | rfl
  · have := h x hx; omega
  · have := h.get hm i; omega
theorem bdQ.cut {m : Int} {l : List Int} (h : bdQ m l) (hm : 0 ≤ m) (i : Nat) : bdQ (m + 2) (cutQ l i) := fun x hx => by
  have := ((h.dec hm _).dec (by omega) _) x (List.mem_of_mem_eraseIdx hx)
  omega
theorem qSt_bd {q : List Int} (h : smallQ q) : ∀ k : Nat, bdQ (2 * k) (qSt q k).1
  | 0 => fun x hx => by
    obtain ⟨i, hi, e⟩ := List.getElem_of_mem hx
    have := h.2 i hi
    have e2 : q.getD i 0 = x := by rw [← e]; simp [qSt, List.getD, show i < q.length from hi]
    omega
  | k + 1 => fun x hx => by
    have := (qSt_bd h k).cut (by omega) _ x hx
    omega



theorem iotaI_succ (n : Nat) : iotaI n ++ [(n : Int)] = iotaI (n + 1) := (tab_succ n _).symm
theorem cut_mod1 (i n : Nat) (h : 0 < n) : ((i : Int) + (n : Int) - 1).tmod (n : Int) = (((i + n - 1) % n : Nat) : Int) := by
  rw [show (i : Int) + (n : Int) - 1 = ((i + n - 1 : Nat) : Int) by omega]
  rfl
theorem cut_mod2 (i n : Nat) : ((i : Int) + 1).tmod (n : Int) = (((i + 1) % n : Nat) : Int) := rfl
theorem set_app (l z : List Int) {i : Nat} (h : i < l.length) (x : Int) : (l ++ z).set i x = l.set i x ++ z := List.set_append_left _ _ h
theorem perm_cut {α : Type} (c l1 l2 bo : α) (X : List α) : (c :: l1 :: l2 :: bo :: (X ++ [])).Perm (c :: bo :: (X ++ [l1, l2])) := by
  rw [List.append_nil]
  exact .cons _ (List.perm_append_comm (l₁ := [l1, l2]) (l₂ := bo :: X))
theorem perm_cut2 {α : Type} (l1 l2 bo : α) (X : List α) : (bo :: (X ++ [l1, l2])).Perm (l1 :: l2 :: bo :: (X ++ [])) := by
  rw [List.append_nil]
  exact List.perm_append_comm (l₁ := bo :: X) (l₂ := [l1, l2])





end Go.Proofs.YtbicfognbbeigaaGreat
