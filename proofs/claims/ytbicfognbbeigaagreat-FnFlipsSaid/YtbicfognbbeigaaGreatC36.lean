/-
  The law of friezes is proved: the numbers under the ones of a frieze can be cut down to three ones.
  It holds for all friezes that the statements speak of.
-/
import Derived.Test.YtbicfognbbeigaaGreatH4
set_option linter.unusedVariables false
set_option linter.unusedSimpArgs false
namespace Go.Proofs.YtbicfognbbeigaaGreat
open Go.Proofs.YtbicfognbbeigaaGreat.Ab Go.Proofs.YtbicfognbbeigaaGreat.Pl

/-! runs of numbers: each is a multiple of the one before less the one before that -/
def stp (s : Int × Int) (a : Int) : Int × Int := (s.2, a * s.2 - s.1)
def runQ (l : List Int) (s : Int × Int) : Int × Int := l.foldl stp s
def neg2 (s : Int × Int) : Int × Int := (-s.1, -s.2)
theorem runQ_nil (s : Int × Int) : runQ [] s = s := rfl
theorem runQ_cons (a : Int) (l : List Int) (s : Int × Int) : runQ (a :: l) s = runQ l (stp s a) := rfl
theorem runQ_append (l m : List Int) (s : Int × Int) : runQ (l ++ m) s = runQ m (runQ l s) := by
  unfold runQ
  rw [List.foldl_append]
theorem stp_lin (a u v : Int) (s t : Int × Int) : stp (u * s.1 + v * t.1, u * s.2 + v * t.2) a = (u * (stp s a).1 + v * (stp t a).1, u * (stp s a).2 + v * (stp t a).2) := by
  unfold stp
  simp only [Prod.mk.injEq, true_and]
  rw [Int.mul_sub, Int.mul_sub, Int.mul_add, Int.mul_left_comm a u, Int.mul_left_comm a v]
  omega
theorem runQ_lin (u v : Int) : ∀ (l : List Int) (s t : Int × Int), runQ l (u * s.1 + v * t.1, u * s.2 + v * t.2) = (u * (runQ l s).1 + v * (runQ l t).1, u * (runQ l s).2 + v * (runQ l t).2)
  | [], s, t => rfl
  | a :: l, s, t => by rw [runQ_cons, stp_lin, runQ_lin u v l, runQ_cons, runQ_cons]
theorem ear (a b : Int) (s : Int × Int) : runQ [a, 1, b] s = runQ [a - 1, b - 1] s := by
  simp only [runQ_cons, runQ_nil, stp, Prod.mk.injEq]
  have e : (a - 1) * s.2 = a * s.2 - s.2 := by rw [Int.sub_mul, Int.one_mul]
  rw [e, Int.one_mul]
  refine ⟨by omega, ?_⟩
  rw [Int.sub_mul, Int.one_mul]
  have : a * s.2 - s.1 - s.2 = a * s.2 - s.2 - s.1 := by omega
  rw [this]
  omega
/-- a circle of numbers that turns all signs round -/
def Turns (q : List Int) : Prop := ∀ s, runQ q s = neg2 s
theorem Turns.rot {a : Int} {l : List Int} (h : Turns (a :: l)) : Turns (l ++ [a]) := by
  intro t
  rw [runQ_append]
  have e : t = stp (a * t.1 - t.2, t.1) a := by
    unfold stp
    simp only
    rw [show a * t.1 - (a * t.1 - t.2) = t.2 by omega]
  have h1 := h (a * t.1 - t.2, t.1)
  rw [runQ_cons, ← e] at h1
  rw [h1, runQ_cons, runQ_nil]
  unfold stp neg2
  simp only [Prod.mk.injEq, true_and]
  rw [Int.mul_neg]
  omega
theorem Turns.back {a : Int} {l : List Int} (h : Turns (l ++ [a])) : Turns (a :: l) := by
  intro s
  have h1 := h (stp s a)
  rw [runQ_append, runQ_cons, runQ_nil] at h1
  rw [runQ_cons]
  generalize runQ l (stp s a) = t at h1
  unfold stp neg2 at h1
  simp only [Prod.mk.injEq] at h1
  obtain ⟨h1, h2⟩ := h1
  unfold neg2
  refine Prod.ext ?_ h1
  simp only
  rw [h1, Int.mul_neg] at h2
  omega
def Pos2 (q : List Int) : Prop := ∀ k, k + 2 ≤ q.length → 0 < (runQ (q.take k) (0, 1)).2
structure Fine (q : List Int) : Prop where
  turns : Turns q
  pos : Pos2 q

theorem Fine.three {a b c : Int} (h : Fine [a, b, c]) : a = 1 ∧ b = 1 ∧ c = 1 := by
  have h1 := h.turns (0, 1)
  have h2 := h.turns (-1, 0)
  have h3 := h.pos 1 (by simp)
  simp only [runQ_cons, runQ_nil, stp, neg2, Prod.mk.injEq, List.take_succ_cons, List.take_zero] at h1 h2 h3
  simp only [Int.mul_one, Int.sub_zero, Int.mul_zero] at h1 h2 h3
  obtain ⟨h4, h5⟩ := h1
  obtain ⟨h6, h7⟩ := h2
  simp at h6 h7 h4 h5 h3
  have hb : b = 1 := by omega
  subst hb
  simp at h4 h7
  omega
theorem runQ_big : ∀ (l : List Int) (p c : Int), 0 ≤ p → p < c → (∀ a ∈ l, 2 ≤ a) → 0 ≤ (runQ l (p, c)).1 ∧ (runQ l (p, c)).1 < (runQ l (p, c)).2
  | [], p, c, h, k, _ => ⟨h, k⟩
  | a :: l, p, c, h, k, hl => by
    rw [runQ_cons]
    have ha := hl a (.head _)
    have : 2 * c ≤ a * c := Int.mul_le_mul_of_nonneg_right ha (by omega)
    refine runQ_big l c (a * c - p) (by omega) (by omega) fun x hx => hl x (.tail _ hx)
theorem Fine.low {q : List Int} (h : Fine q) (hn : 3 ≤ q.length) : ∀ i, i + 1 < q.length → 1 ≤ q.getD i 0 := by
  intro i hi
  have e1 : q.take (i + 1) = q.take i ++ [q.getD i 0] := by
    rw [List.take_succ_eq_append_getElem (by omega)]
    simp [List.getD, show i < q.length by omega]
  have h1 := h.pos i (by omega)
  have h0 : 0 ≤ (runQ (q.take i) (0, 1)).1 := by
    cases i with
    | zero => simp [runQ]
    | succ i =>
      have e2 : q.take (i + 1) = q.take i ++ [q.getD i 0] := by
        rw [List.take_succ_eq_append_getElem (by omega)]
        simp [List.getD, show i < q.length by omega]
      rw [e2, runQ_append, runQ_cons, runQ_nil]
      unfold stp
      simp only
      have := h.pos i (by omega)
      omega
  have key : 0 < (runQ (q.take (i + 1)) (0, 1)).2 ∨ ((runQ (q.take (i + 1)) (0, 1)).2 = 0 ∧ 0 < (runQ (q.take i) (0, 1)).1) := by
    by_cases e : i + 3 ≤ q.length
    · exact .inl (h.pos (i + 1) (by omega))
    · right
      have en : i + 2 = q.length := by omega
      have e3 : q = q.take (i + 1) ++ [q.getD (i + 1) 0] := by
        have : q.take (i + 2) = q := List.take_of_length_le (by omega)
        conv => lhs; rw [← this]
        rw [List.take_succ_eq_append_getElem (by omega)]
        simp [List.getD, show i + 1 < q.length by omega]
      have h4 := h.turns (0, 1)
      rw [e3, runQ_append, runQ_cons, runQ_nil] at h4
      unfold stp neg2 at h4
      simp only [Prod.mk.injEq] at h4
      refine ⟨by have := h4.1; simp at this; simpa using this, ?_⟩
      obtain ⟨j, rfl⟩ : ∃ j, i = j + 1 := ⟨i - 1, by omega⟩
      have e2 : q.take (j + 1) = q.take j ++ [q.getD j 0] := by
        rw [List.take_succ_eq_append_getElem (by omega)]
        simp [List.getD, show j < q.length by omega]
      rw [e2, runQ_append, runQ_cons, runQ_nil]
      unfold stp
      exact h.pos j (by omega)
  rw [e1, runQ_append, runQ_cons, runQ_nil] at key
  generalize runQ (q.take i) (0, 1) = s at *
  unfold stp at key
  simp only at key
  apply Classical.byContradiction
  intro hc
  have : q.getD i 0 * s.2 ≤ 0 := Int.mul_nonpos_of_nonpos_of_nonneg (by omega) (by omega)
  omega
theorem Fine.one {q : List Int} (h : Fine q) (hn : 3 ≤ q.length) : ∃ i, i + 1 < q.length ∧ q.getD i 0 = 1 := by
  apply Classical.byContradiction
  intro hc
  have h2 : ∀ a ∈ q.take (q.length - 1), 2 ≤ a := by
    intro a ha
    obtain ⟨i, hi, e⟩ := List.getElem_of_mem ha
    rw [List.length_take] at hi
    rw [List.getElem_take] at e
    have hl := h.low hn i (by omega)
    have : q.getD i 0 ≠ 1 := fun e => hc ⟨i, by omega, e⟩
    have e2 : q.getD i 0 = a := by rw [← e]; simp [List.getD, show i < q.length by omega]
    omega
  have h3 := runQ_big _ 0 1 (by omega) (by omega) h2
  have e3 : q = q.take (q.length - 1) ++ [q.getD (q.length - 1) 0] := by
    have : q.take (q.length - 1 + 1) = q := List.take_of_length_le (by omega)
    conv => lhs; rw [← this]
    rw [List.take_succ_eq_append_getElem (by omega)]
    simp [List.getD, show q.length - 1 < q.length by omega]
  have h4 := h.turns (0, 1)
  rw [e3, runQ_append, runQ_cons, runQ_nil] at h4
  generalize runQ (List.take (q.length - 1) q) (0, 1) = s at *
  unfold stp neg2 at h4
  simp only [Prod.mk.injEq] at h4
  have := h4.1
  omega
theorem Fine.mid {A B : List Int} {a b : Int} (h : Fine (A ++ a :: 1 :: b :: B)) : Fine (A ++ (a - 1) :: (b - 1) :: B) := by
  have key : ∀ (X : List Int) s, runQ (A ++ a :: 1 :: b :: X) s = runQ (A ++ (a - 1) :: (b - 1) :: X) s := fun X s => by
    have e1 : A ++ a :: 1 :: b :: X = A ++ ([a, 1, b] ++ X) := rfl
    have e2 : A ++ (a - 1) :: (b - 1) :: X = A ++ ([a - 1, b - 1] ++ X) := rfl
    rw [e1, e2, runQ_append, runQ_append _ X, ear, ← runQ_append _ X, ← runQ_append]
  refine ⟨fun s => by rw [← key]; exact h.turns s, fun k hk => ?_⟩
  have hl : k + 3 ≤ (A ++ a :: 1 :: b :: B).length := by simp at hk ⊢; omega
  by_cases c1 : k ≤ A.length
  · have := h.pos k (by omega)
    rw [List.take_append_of_le_length c1] at this ⊢
    exact this
  · obtain ⟨j, rfl⟩ : ∃ j, k = A.length + (j + 1) := ⟨k - A.length - 1, by omega⟩
    have := h.pos (A.length + (j + 2)) (by omega)
    rw [List.take_length_add_append] at this ⊢
    cases j with
    | zero =>
      simp only [List.take_succ_cons, List.take_zero] at this ⊢
      rw [runQ_append] at this ⊢
      generalize runQ A (0, 1) = s at *
      simp only [runQ_cons, runQ_nil, stp] at this ⊢
      rw [Int.sub_mul, Int.one_mul]
      omega
    | succ j =>
      simp only [List.take_succ_cons] at this ⊢
      rw [← key]
      exact this
theorem Fine.first {m : List Int} {a b : Int} (h : Fine (1 :: b :: (m ++ [a]))) : Fine ((b - 1) :: (m ++ [a - 1])) := by
  constructor
  · have h1 : Turns (a :: 1 :: b :: m) := Turns.back (by simpa using h.turns)
    have h2 : Turns ((a - 1) :: (b - 1) :: m) := fun s => by
      have := h1 s
      have e1 : a :: 1 :: b :: m = [a, 1, b] ++ m := rfl
      have e2 : (a - 1) :: (b - 1) :: m = [a - 1, b - 1] ++ m := rfl
      rw [e1, runQ_append, ear, ← runQ_append] at this
      rw [e2]
      exact this
    have := h2.rot
    simpa using this
  · intro k hk
    cases k with
    | zero => simp [runQ]
    | succ k =>
      have := h.pos (k + 2) (by simp at hk ⊢; omega)
      simp only [List.take_succ_cons] at this ⊢
      have hk' : k ≤ m.length := by simp at hk; omega
      rw [List.take_append_of_le_length hk'] at this ⊢
      simp only [runQ_cons, stp] at this ⊢
      simpa using this

/-- one cut, in the code's own way -/
def cutQ (q : List Int) (i : Nat) : List Int :=
  let n := q.length
  let l := q.set ((i + n - 1) % n) (q.getD ((i + n - 1) % n) 0 - 1)
  (l.set ((i + 1) % n) (l.getD ((i + 1) % n) 0 - 1)).eraseIdx i
theorem cutQ_len (q : List Int) {i : Nat} (h : i < q.length) : (cutQ q i).length = q.length - 1 := by
  unfold cutQ
  simp [List.length_eraseIdx, h]
theorem cut_mid (A B : List Int) (a b : Int) : cutQ (A ++ a :: 1 :: b :: B) (A.length + 1) = A ++ (a - 1) :: (b - 1) :: B := by
  unfold cutQ
  have hn : (A ++ a :: 1 :: b :: B).length = A.length + B.length + 3 := by simp; omega
  simp only [hn]
  have e1 : (A.length + 1 + (A.length + B.length + 3) - 1) % (A.length + B.length + 3) = A.length := by
    rw [show A.length + 1 + (A.length + B.length + 3) - 1 = A.length + (A.length + B.length + 3) by omega, Nat.add_mod_right, Nat.mod_eq_of_lt (by omega)]
  have e2 : (A.length + 1 + 1) % (A.length + B.length + 3) = A.length + 2 := Nat.mod_eq_of_lt (by omega)
  rw [e1, e2]
  have g1 : (A ++ a :: 1 :: b :: B).getD A.length 0 = a := by simp [List.getD]
  rw [g1, List.set_append_right _ _ (Nat.le_refl _), Nat.sub_self, List.set_cons_zero]
  have g2 : (A ++ (a - 1) :: 1 :: b :: B).getD (A.length + 2) 0 = b := by simp [List.getD, List.getElem?_append_right]
  rw [g2, List.set_append_right _ _ (by omega), show A.length + 2 - A.length = 2 by omega, List.eraseIdx_append_of_length_le (by omega), show A.length + 1 - A.length = 1 by omega]
  rfl
theorem cut_first (m : List Int) (a b : Int) : cutQ (1 :: b :: (m ++ [a])) 0 = (b - 1) :: (m ++ [a - 1]) := by
  unfold cutQ
  have hn : (1 :: b :: (m ++ [a])).length = m.length + 3 := by simp
  simp only [hn]
  have e1 : (0 + (m.length + 3) - 1) % (m.length + 3) = m.length + 2 := by
    rw [show 0 + (m.length + 3) - 1 = m.length + 2 by omega, Nat.mod_eq_of_lt (by omega)]
  have e2 : (0 + 1) % (m.length + 3) = 1 := Nat.mod_eq_of_lt (by omega)
  rw [e1, e2]
  have g1 : (1 :: b :: (m ++ [a])).getD (m.length + 2) 0 = a := by simp [List.getD]
  rw [g1]
  simp only [List.set_cons_succ]
  rw [List.set_append_right _ _ (Nat.le_refl _), Nat.sub_self, List.set_cons_zero]
  simp [List.getD]
theorem Fine.cut {q : List Int} (h : Fine q) (hn : 3 ≤ q.length) {i : Nat} (hi : i + 1 < q.length) (h1 : q.getD i 0 = 1) : Fine (cutQ q i) := by
  cases i with
  | zero =>
    obtain ⟨x, b, t, rfl⟩ : ∃ x b t, q = x :: b :: t := by
      match q, hn with
      | x :: b :: t, _ => exact ⟨x, b, t, rfl⟩
    simp at h1
    subst h1
    rcases List.eq_nil_or_concat t with rfl | ⟨m, a, rfl⟩
    · simp at hn
    · rw [List.concat_eq_append] at h ⊢
      rw [cut_first]
      exact h.first
  | succ i =>
    have e : q = q.take i ++ q.getD i 0 :: 1 :: q.getD (i + 2) 0 :: q.drop (i + 3) := by
      by_cases c : i + 2 < q.length
      · conv => lhs; rw [← List.take_append_drop i q, List.drop_eq_getElem_cons (show i < q.length by omega), List.drop_eq_getElem_cons (show i + 1 < q.length by omega), List.drop_eq_getElem_cons c]
        have g0 : q.getD i 0 = q[i] := by simp [List.getD, show i < q.length by omega]
        have g2 : q.getD (i + 2) 0 = q[i + 2] := by simp [List.getD, c]
        have g1 : q[i + 1] = 1 := by rw [← h1]; simp [List.getD, show i + 1 < q.length by omega]
        rw [g0, g2, g1]
      · omega
    have hl : (q.take i).length = i := by simp; omega
    rw [e] at h ⊢
    have := cut_mid (q.take i) (q.drop (i + 3)) (q.getD i 0) (q.getD (i + 2) 0)
    rw [hl] at this
    rw [this]
    exact h.mid

theorem getD_of {l : List Int} {i : Nat} (h : i < l.length) : l[i] = l.getD i 0 := by simp [List.getD, h]
/-! a frieze's second row is fine -/
theorem friezeRec {f : List (List Int)} {n : Nat} (h : isF f = true) (hn : f.length = n + 1) : ∀ r, r + 1 ≤ n - 1 → ∀ i, i < n → ent f (r + 2) i = ent f 2 ((i + r) % n) * ent f (r + 1) i - ent f r i
  | 0, hr, i, hi => by
    have s := isF_spec h
    have n3 : 3 ≤ n := by have := s.1; omega
    have c1 := (s.2.1 1 (by omega)).2 i (by omega)
    have c0 := (s.2.1 0 (by omega)).2 i (by omega)
    have e1 : ent f 1 i = 1 := c1.2.2 (.inl rfl)
    have e0 : ent f 0 i = 0 := c0.1 (.inl rfl)
    rw [show (i + 0) % n = i from Nat.mod_eq_of_lt hi, show ent f (0 + 1) i = 1 from e1, e0, Nat.zero_add]
    omega
  | r + 1, hr, i, hi => by
    have s := isF_spec h
    have n3 : 3 ≤ n := by have := s.1; omega
    have hk : (i + 1) % n < n := Nat.mod_lt _ (by omega)
    have ih := friezeRec h hn r (by omega) ((i + 1) % n) hk
    have em : ((i + 1) % n + r) % n = (i + (r + 1)) % n := by rw [Nat.mod_add_mod]; congr 1; omega
    rw [em] at ih
    have ru := s.2.2 (r + 1) (by omega) i (by omega)
    have rl := s.2.2 r (by omega) i (by omega)
    unfold ruleOk at ru rl
    rw [hn, Nat.add_sub_cancel] at ru rl
    have c := (s.2.1 (r + 1) (by omega)).2 ((i + 1) % n) (by omega)
    have p : 0 < ent f (r + 1) ((i + 1) % n) := by
      rw [hn, Nat.add_sub_cancel] at c
      have := c.2.1 (by omega)
      omega
    rw [ih] at ru
    generalize ent f (r + 1) ((i + 1) % n) = u at *
    generalize ent f 2 ((i + (r + 1)) % n) = Q at *
    generalize ent f (r + 1 + 1) i = x at *
    generalize ent f (r + 1 + 2) i = y at *
    generalize ent f (r + 1) i = z at *
    generalize ent f r ((i + 1) % n) = w at *
    have e1 : u * y = u * (Q * x - z) := by
      have a1 : x * (Q * u - w) = u * (Q * x) - w * x := by rw [Int.mul_sub, Int.mul_comm w x]; congr 1; rw [Int.mul_left_comm x Q u, Int.mul_left_comm u Q x, Int.mul_comm x u]
      have a2 : u * (Q * x - z) = u * (Q * x) - z * u := by rw [Int.mul_sub, Int.mul_comm z u]
      have a3 : w * x = w * x := rfl
      have rl' : z * u - w * x = 1 := rl
      rw [a1] at ru
      rw [a2]
      have a4 : u * y = u * y := rfl
      omega
    exact Int.eq_of_mul_eq_mul_left (by omega) e1
theorem friezeRun {f : List (List Int)} {n : Nat} (h : isF f = true) (hn : f.length = n + 1) (j : Nat) (hj : j ≤ 1) : ∀ k, k + j ≤ n → k + 1 ≤ n → runQ (((f.getD 2 []).drop j).take k) (0, 1) = (ent f k j, ent f (k + 1) j)
  | 0, _, _ => by
    have s := isF_spec h
    have n3 : 3 ≤ n := by have := s.1; omega
    have c1 := (s.2.1 1 (by omega)).2 j (by omega)
    have c0 := (s.2.1 0 (by omega)).2 j (by omega)
    have e1 : ent f 1 j = 1 := c1.2.2 (.inl rfl)
    have e0 : ent f 0 j = 0 := c0.1 (.inl rfl)
    rw [e0, e1]
    rfl
  | k + 1, h1, h2 => by
    have s := isF_spec h
    have n3 : 3 ≤ n := by have := s.1; omega
    have hl := isF_len h hn (show 2 < n + 1 by omega)
    have ih := friezeRun h hn j hj k (by omega) (by omega)
    have e : ((f.getD 2 []).drop j).take (k + 1) = ((f.getD 2 []).drop j).take k ++ [ent f 2 (j + k)] := by
      rw [List.take_succ_eq_append_getElem (by rw [List.length_drop]; omega)]
      congr 1
      unfold ent
      rw [List.getElem_drop]
      have : j + k < (f.getD 2 []).length := by omega
      rw [getD_of this]
    rw [e, runQ_append, ih, runQ_cons, runQ_nil]
    have r := friezeRec h hn k (by omega) j (by omega)
    unfold stp
    rw [r, Nat.mod_eq_of_lt (by omega)]
theorem frieze_fine {f : List (List Int)} (h : isF f = true) : Fine (f.getD 2 []) := by
  have s := isF_spec h
  obtain ⟨n, hn⟩ : ∃ n, f.length = n + 1 := ⟨f.length - 1, by omega⟩
  have n3 : 3 ≤ n := by have := s.1; omega
  have hl := isF_len h hn (show 2 < n + 1 by omega)
  have last : ∀ j, j ≤ 1 → ent f (n - 1) j = 1 ∧ ent f n j = 0 := fun j hj => by
    have c1 := (s.2.1 (n - 1) (by omega)).2 j (by omega)
    have c0 := (s.2.1 n (by omega)).2 j (by omega)
    exact ⟨c1.2.2 (.inr (by omega)), c0.1 (.inr (by omega))⟩
  generalize hq : f.getD 2 [] = q at *
  have r0 : runQ q (0, 1) = (0, -1) := by
    have := friezeRun h hn 0 (by omega) (n - 1) (by omega) (by omega)
    rw [hq, List.drop_zero, Nat.sub_add_cancel (by omega), (last 0 (by omega)).1, (last 0 (by omega)).2] at this
    have e3 : q = q.take (n - 1) ++ [q.getD (n - 1) 0] := by
      have t : q.take (n - 1 + 1) = q := List.take_of_length_le (by omega)
      conv => lhs; rw [← t]
      rw [List.take_succ_eq_append_getElem (by omega)]
      simp [List.getD, show n - 1 < q.length by omega]
    rw [e3, runQ_append, this, runQ_cons, runQ_nil]
    simp [stp]
  have r1 : runQ q (-1, 0) = (1, 0) := by
    have := friezeRun h hn 1 (by omega) (n - 1) (by omega) (by omega)
    rw [hq, Nat.sub_add_cancel (by omega), (last 1 (by omega)).1, (last 1 (by omega)).2, List.take_of_length_le (by simp; omega)] at this
    match q, hl with
    | a :: t, _ =>
      rw [runQ_cons]
      have e : stp (-1, 0) a = (0, 1) := by simp [stp]
      rw [e]
      simpa using this
  refine ⟨fun t => ?_, fun k hk => ?_⟩
  · have := runQ_lin t.2 (-t.1) q (0, 1) (-1, 0)
    rw [r0, r1] at this
    simp at this
    unfold neg2
    rw [← this]
  · have := friezeRun h hn 0 (by omega) k (by omega) (by omega)
    rw [hq, List.drop_zero] at this
    rw [this]
    have c := (s.2.1 (k + 1) (by omega)).2 0 (by omega)
    rw [hn, Nat.add_sub_cancel] at c
    have := c.2.1 (by omega)
    omega

end Go.Proofs.YtbicfognbbeigaaGreat
