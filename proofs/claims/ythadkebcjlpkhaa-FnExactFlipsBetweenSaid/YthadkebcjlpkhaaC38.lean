/-
  Plain laws of triangulations as rows of diagonals are proved, by their numbers.
  They hold for up to ten corners.
-/
import Derived.Test.YthadkebcjlpkhaaH13
set_option linter.unusedVariables false
set_option linter.unusedSimpArgs false
namespace Go.Proofs.Ythadkebcjlpkhaa
open Go.Proofs.Ythadkebcjlpkhaa.Ab Go.Proofs.Ythadkebcjlpkhaa.Pl

def diagOk (n : Int) (x : List Int) : Prop := x.length = 2 ∧ 0 ≤ x.getD 0 0 ∧ x.getD 0 0 + 2 ≤ x.getD 1 0 ∧ x.getD 1 0 ≤ n - 1 ∧ ¬ (x.getD 0 0 = 0 ∧ x.getD 1 0 = n - 1)
instance (n : Int) (x : List Int) : Decidable (diagOk n x) := inferInstanceAs (Decidable (_ ∧ _))
def crossR (x y : List Int) : Prop := (x.getD 0 0 < y.getD 0 0 ∧ y.getD 0 0 < x.getD 1 0 ∧ x.getD 1 0 < y.getD 1 0) ∨ (y.getD 0 0 < x.getD 0 0 ∧ x.getD 0 0 < y.getD 1 0 ∧ y.getD 1 0 < x.getD 1 0)
instance (x y : List Int) : Decidable (crossR x y) := inferInstanceAs (Decidable (_ ∨ _))
def triRow (n : Int) (f : List (List Int)) (i : Nat) : Prop := diagOk n (f.getD i []) ∧ (0 < i → cmpL (f.getD (i - 1) []) (f.getD i []) < 0) ∧ ∀ k, k < i → ¬ crossR (f.getD k []) (f.getD i [])
instance (n : Int) (f : List (List Int)) (i : Nat) : Decidable (triRow n f i) := inferInstanceAs (Decidable (_ ∧ (0 < i → _) ∧ ∀ k, k < i → _))
def triSz (n : Int) (f : List (List Int)) : Prop := (2 ≤ n ∧ n ≤ 10) ∧ (f.length : Int) = max 0 (n - 3)
instance (n : Int) (f : List (List Int)) : Decidable (triSz n f) := inferInstanceAs (Decidable (_ ∧ _))
def isTri (n : Int) (f : List (List Int)) : Bool := decide (triSz n f ∧ ∀ i, i < f.length → triRow n f i)
theorem isTri_spec {n : Int} {f : List (List Int)} (h : isTri n f = true) : triSz n f ∧ ∀ i, i < f.length → triRow n f i := of_decide_eq_true h
theorem isTri_no {n : Int} {f : List (List Int)} (h : ¬ triSz n f) : isTri n f = false := decide_eq_false fun a => h a.1
theorem isTri_row {n : Int} {f : List (List Int)} {i : Nat} (hi : i < f.length) (h : ¬ triRow n f i) : isTri n f = false := decide_eq_false fun a => h (a.2 i hi)
theorem isTri_yes {n : Int} {f : List (List Int)} (h : triSz n f) (k : ∀ i, i < f.length → triRow n f i) : isTri n f = true := decide_eq_true ⟨h, k⟩

/-! rows and numbers -/
def encR (x : List Int) : Nat := (16 * x.getD 0 0 + x.getD 1 0).toNat
def decR (c : Nat) : List Int := [((c / 16 : Nat) : Int), ((c % 16 : Nat) : Int)]
theorem two_of {x : List Int} (h : x.length = 2) : x = [x.getD 0 0, x.getD 1 0] := by
  match x, h with
  | [a, b], _ => rfl
theorem decR_enc {n : Int} {x : List Int} (h : diagOk n x) (hn : n ≤ 10) : decR (encR x) = x := by
  obtain ⟨h1, h2, h3, h4, h5⟩ := h
  rw [two_of h1]
  generalize x.getD 0 0 = a at *
  generalize x.getD 1 0 = b at *
  unfold decR encR
  simp only [List.getD_cons_zero, List.getD_cons_succ]
  have e1 : (((16 * a + b).toNat / 16 : Nat) : Int) = a := by omega
  have e2 : (((16 * a + b).toNat % 16 : Nat) : Int) = b := by omega
  rw [e1, e2]
theorem encR_parts {n : Int} {x : List Int} (h : diagOk n x) (hn : n ≤ 10) : ((encR x / 16 : Nat) : Int) = x.getD 0 0 ∧ ((encR x % 16 : Nat) : Int) = x.getD 1 0 := by
  obtain ⟨h1, h2, h3, h4, h5⟩ := h
  unfold encR
  omega
theorem dgC_enc {N : Nat} {x : List Int} (h : diagOk N x) (hn : N ≤ 10) : dgC N (encR x) = true ∧ encR x < 160 := by
  have e := encR_parts h (by omega)
  obtain ⟨h1, h2, h3, h4, h5⟩ := h
  rw [dgC_iff]
  refine ⟨⟨by omega, by omega, ?_⟩, by omega⟩
  omega
theorem crC_enc {N : Int} {x y : List Int} (h : diagOk N x) (k : diagOk N y) (hn : N ≤ 10) (c : ¬ crossR x y) : crC (encR x) (encR y) = false := by
  have e := encR_parts h hn
  have g := encR_parts k hn
  unfold crossR at c
  rw [Bool.eq_false_iff]
  simp only [ne_eq, crC_iff]
  omega
theorem cmp_enc {N : Int} {x y : List Int} (h : diagOk N x) (k : diagOk N y) (hn : N ≤ 10) : cmpL x y < 0 ↔ encR x < encR y := by
  have e := encR_parts h hn
  have g := encR_parts k hn
  rw [two_of h.1, two_of k.1]
  rw [two_of h.1] at e
  rw [two_of k.1] at g
  simp only [List.getD_cons_zero, List.getD_cons_succ] at e g
  obtain ⟨h1, h2, h3, h4, h5⟩ := h
  obtain ⟨k1, k2, k3, k4, k5⟩ := k
  simp only [cmpL]
  split
  · omega
  · split
    · omega
    · split
      · omega
      · split
        · omega
        · omega

theorem getD_map_enc (f : List (List Int)) {i : Nat} (h : i < f.length) : (f.map encR).getD i 0 = encR (f.getD i []) := by
  simp [List.getD, h]
theorem isTri_up {n : Int} {f : List (List Int)} (h : isTri n f = true) : ∀ j, j < f.length → ∀ i, i < j → encR (f.getD i []) < encR (f.getD j []) := by
  have s := isTri_spec h
  intro j
  induction j with
  | zero => intro _ i hi; omega
  | succ j ih =>
    intro hj i hi
    have a := s.2 (j + 1) hj
    have b := s.2 j (by omega)
    have c := (cmp_enc b.1 a.1 s.1.1.2).1 (a.2.1 (by omega))
    by_cases e : i = j
    · subst e; exact c
    · have := ih (by omega) i (by omega)
      omega
theorem isTri_codes {N : Nat} {f : List (List Int)} (h : isTri N f = true) : TriC N (f.map encR) := by
  have s := isTri_spec h
  have n10 : N ≤ 10 := by have := s.1.1.2; omega
  refine ⟨?_, fun c hc => ?_, ?_, ?_⟩
  · rw [List.length_map]
    have := s.1.2
    omega
  · obtain ⟨x, hx, rfl⟩ := List.mem_map.1 hc
    obtain ⟨i, hi, rfl⟩ := List.getElem_of_mem hx
    have := (s.2 i hi).1
    have e : f.getD i [] = f[i] := by simp [List.getD, hi]
    rw [e] at this
    exact dgC_enc this n10
  · rw [List.pairwise_iff_getElem]
    intro i j hi hj hij
    have := isTri_up h j (by simpa using hj) i hij
    simp only [List.length_map] at hi hj
    simpa [List.getD, hi, hj] using this
  · rw [List.pairwise_iff_getElem]
    intro i j hi hj hij
    simp only [List.length_map] at hi hj
    have a := s.2 j hj
    have := crC_enc (s.2 i hi).1 a.1 s.1.1.2 (a.2.2 i hij)
    simpa [List.getD, hi, hj] using this
theorem map_dec {n : Int} {f : List (List Int)} (h : isTri n f = true) : (f.map encR).map decR = f := by
  have s := isTri_spec h
  apply List.ext_getElem (by simp)
  intro i h1 h2
  have := decR_enc (s.2 i h2).1 s.1.1.2
  simpa [List.getD, h2] using this

/-! joined corners -/
def jnR (n : Int) (f : List (List Int)) (a b : Int) : Bool := decide (b = a + 1 ∨ (a = 0 ∧ b = n - 1) ∨ ∃ i, i < f.length ∧ ent f i 0 = a ∧ ent f i 1 = b)
/-- the numbers of a triangulation, in reverse -/
def revC (f : List (List Int)) : List Nat := (f.map encR).reverse
theorem tb_rev (f : List (List Int)) (c : Nat) : tb (mskC (revC f)) c = true ↔ ∃ x ∈ f, encR x = c := by
  rw [tb_mask, revC, List.mem_reverse, List.mem_map]
theorem jnC_iff (n m a b : Nat) : jnC n m a b = true ↔ b = a + 1 ∨ tb m (16 * a + b) = true ∨ (a = 0 ∧ b + 1 = n) := by
  have e : Nat.add (Nat.mul 16 a) b = 16 * a + b := rfl
  unfold jnC
  rw [e, beq_of, beq_of, beq_of]
  simp only [cond_decide]
  by_cases c1 : b = a + 1
  · simp [c1]
  · rw [if_neg c1]
    cases tb m (16 * a + b) with
    | true => simp
    | false =>
      simp only [cond_false]
      split
      · simp [c1]; omega
      · simp [c1]; omega
theorem jnR_code {N : Nat} {f : List (List Int)} (h : isTri N f = true) {a b : Nat} (hb : b < 16) : jnR N f a b = jnC N (mskC (revC f)) a b := by
  have s := isTri_spec h
  have n2 := s.1.1.1
  unfold jnR
  rw [Bool.eq_iff_iff, decide_eq_true_iff, jnC_iff, tb_rev]
  constructor
  · rintro (e | ⟨e1, e2⟩ | ⟨i, hi, e1, e2⟩)
    · left; omega
    · right; right; omega
    · right; left
      refine ⟨f.getD i [], ?_, ?_⟩
      · simp [List.getD, hi]
      · unfold ent at e1 e2
        unfold encR
        rw [e1, e2]
        omega
  · rintro (e | e | ⟨e1, e2⟩)
    · left; omega
    · right; right
      obtain ⟨x, hx, e⟩ := e
      obtain ⟨i, hi, rfl⟩ := List.getElem_of_mem hx
      have p := encR_parts (s.2 i hi).1 s.1.1.2
      have eg : f.getD i [] = f[i] := by simp [List.getD, hi]
      refine ⟨i, hi, ?_, ?_⟩
      · unfold ent
        rw [← p.1, eg, e]
        omega
      · unfold ent
        rw [← p.2, eg, e]
        omega
    · right; left; omega
def thR (N : Nat) (f : List (List Int)) (k : Nat) : List Nat := (List.range N).filter fun (c : Nat) => decide ((c : Int) ≠ ent f k 0) && decide ((c : Int) ≠ ent f k 1) && jnR N f (min (c : Int) (ent f k 0)) (max (c : Int) (ent f k 0)) && jnR N f (min (c : Int) (ent f k 1)) (max (c : Int) (ent f k 1))
theorem jmC_eq {N : Nat} {f : List (List Int)} (h : isTri N f = true) {a b : Nat} (ha : a < 16) (hb : b < 16) : jnR N f (min (a : Int) b) (max (a : Int) b) = jmC N (mskC (revC f)) a b := by
  unfold jmC
  rw [ble_of, cond_decide]
  by_cases c : a ≤ b
  · rw [if_pos c, Int.min_eq_left (by omega), Int.max_eq_right (by omega), jnR_code h hb]
  · rw [if_neg c, Int.min_eq_right (by omega), Int.max_eq_left (by omega), jnR_code h ha]
theorem thR_code {N : Nat} {f : List (List Int)} (h : isTri N f = true) {k : Nat} (hk : k < f.length) : thR N f k = thC N (mskC (revC f)) (Nat.div (encR (f.getD k [])) 16) (Nat.mod (encR (f.getD k [])) 16) := by
  have s := isTri_spec h
  have p := encR_parts (s.2 k hk).1 s.1.1.2
  have d := (s.2 k hk).1
  unfold thR thC
  rw [filR_eq]
  apply List.filter_congr
  intro c hc
  have hc := List.mem_range.1 hc
  have n10 := s.1.1.2
  have e1 : Nat.div (encR (f.getD k [])) 16 = encR (f.getD k []) / 16 := rfl
  have e2 : Nat.mod (encR (f.getD k [])) 16 = encR (f.getD k []) % 16 := rfl
  have q := (dgC_enc d (by omega)).2
  have b1 : encR (f.getD k []) / 16 < 16 := by omega
  have b2 : encR (f.getD k []) % 16 < 16 := by omega
  rw [e1, e2]
  unfold ent
  rw [← p.1, ← p.2, jmC_eq h (by omega) b1, jmC_eq h (by omega) b2, beq_of, beq_of, cond_decide, cond_decide]
  generalize encR (f.getD k []) / 16 = a
  generalize encR (f.getD k []) % 16 = b
  by_cases c1 : c = a
  · rw [if_pos c1, decide_eq_false (by omega)]
    rfl
  · rw [if_neg c1, decide_eq_true (by omega)]
    by_cases c2 : c = b
    · rw [if_pos c2, decide_eq_false (by omega)]
      rfl
    · rw [if_neg c2, decide_eq_true (by omega)]
      cases jmC N (mskC (revC f)) c a <;> cases jmC N (mskC (revC f)) c b <;> rfl

/-! flips -/
def flipR (N : Nat) (f : List (List Int)) (k : Nat) : List (List Int) := putL (f.eraseIdx k) [((thR N f k).getD 0 0 : Int), ((thR N f k).getD 1 0 : Int)]
theorem dec_diag {N c : Nat} (h : dgC N c = true) : diagOk N (decR c) := by
  rw [dgC_iff] at h
  obtain ⟨h1, h2, h3⟩ := h
  unfold diagOk decR
  simp only [List.getD_cons_zero, List.getD_cons_succ, List.length_cons, List.length_nil]
  refine ⟨trivial, by omega, by omega, by omega, ?_⟩
  omega
theorem enc_decR (c : Nat) : encR (decR c) = c := by
  unfold encR decR
  simp only [List.getD_cons_zero, List.getD_cons_succ]
  omega
theorem cross_enc {N : Int} {x y : List Int} (h : diagOk N x) (k : diagOk N y) (hn : N ≤ 10) (c : crC (encR x) (encR y) = false) : ¬ crossR x y := by
  have e := encR_parts h hn
  have g := encR_parts k hn
  rw [Bool.eq_false_iff] at c
  simp only [ne_eq, crC_iff] at c
  unfold crossR
  omega
theorem crossR_symm {x y : List Int} (h : ¬ crossR x y) : ¬ crossR y x := by
  unfold crossR at *
  omega
/-- rows in order that do not cross are a triangulation -/
theorem isTri_of {n : Int} {f : List (List Int)} (hz : triSz n f) (hs : f.Pairwise leL) (hd : f.Nodup) (ho : ∀ x ∈ f, diagOk n x) (hc : f.Pairwise fun x y => ¬ crossR x y) : isTri n f = true := by
  refine isTri_yes hz fun i hi => ?_
  have eg : ∀ j, (h : j < f.length) → f.getD j [] = f[j] := fun j h => by simp [List.getD, h]
  refine ⟨by rw [eg i hi]; exact ho _ (List.getElem_mem hi), fun h0 => ?_, fun k hk => ?_⟩
  · have a := List.pairwise_iff_getElem.1 hs (i - 1) i (by omega) hi (by omega)
    have b := List.pairwise_iff_getElem.1 hd (i - 1) i (by omega) hi (by omega)
    rw [eg i hi, eg (i - 1) (by omega)]
    unfold leL at a
    have : cmpL f[i - 1] f[i] ≠ 0 := fun e => b (cmpL_eq _ _ e)
    omega
  · rw [eg i hi, eg k (by omega)]
    exact List.pairwise_iff_getElem.1 hc k i (by omega) hi hk
theorem tri_sorted {n : Int} {f : List (List Int)} (h : isTri n f = true) : f.Pairwise leL := by
  have s := isTri_spec h
  rw [List.pairwise_iff_getElem]
  intro i j hi hj hij
  have := isTri_up h j hj i hij
  have c := (cmp_enc (s.2 i hi).1 (s.2 j hj).1 s.1.1.2).2 this
  have e1 : f.getD i [] = f[i] := by simp [List.getD, hi]
  have e2 : f.getD j [] = f[j] := by simp [List.getD, hj]
  rw [e1, e2] at c
  unfold leL
  omega
theorem tri_nodup {n : Int} {f : List (List Int)} (h : isTri n f = true) : f.Nodup := by
  refine List.pairwise_iff_getElem.2 fun i j hi hj hij e => ?_
  have := isTri_up h j hj i hij
  have e1 : f.getD i [] = f[i] := by simp [List.getD, hi]
  have e2 : f.getD j [] = f[j] := by simp [List.getD, hj]
  rw [e1, e2, e] at this
  omega
theorem tri_diag {n : Int} {f : List (List Int)} (h : isTri n f = true) : ∀ x ∈ f, diagOk n x := fun x hx => by
  obtain ⟨i, hi, rfl⟩ := List.getElem_of_mem hx
  have := ((isTri_spec h).2 i hi).1
  have e1 : f.getD i [] = f[i] := by simp [List.getD, hi]
  rwa [e1] at this
theorem tri_cross {n : Int} {f : List (List Int)} (h : isTri n f = true) : f.Pairwise fun x y => ¬ crossR x y := by
  refine List.pairwise_iff_getElem.2 fun i j hi hj hij => ?_
  have := ((isTri_spec h).2 j hj).2.2 i hij
  have e1 : f.getD i [] = f[i] := by simp [List.getD, hi]
  have e2 : f.getD j [] = f[j] := by simp [List.getD, hj]
  rwa [e1, e2] at this
theorem flip1_two {n : Nat} {r : List Nat} {x : Nat} {t : List Nat} (h : flip1 n r x t = true) : ∃ p q, t = [p, q] ∧ dgC n (16 * p + q) = true ∧ ∀ y ∈ r, y = x ∨ (y ≠ 16 * p + q ∧ crC y (16 * p + q) = false) := by
  match t, h with
  | [], h => cases h
  | [p], h => cases h
  | p :: q :: z :: t, h => cases h
  | [p, q], h =>
    have h : (bif dgC n (16 * p + q) then allR (fun y => bif Nat.beq y x then true else bif Nat.beq y (16 * p + q) then false else !crC y (16 * p + q)) r else false) = true := h
    cases e : dgC n (16 * p + q) with
    | false => rw [e] at h; cases h
    | true =>
      rw [e, cond_true] at h
      refine ⟨p, q, rfl, e, fun y hy => ?_⟩
      have := allR_all h y hy
      rw [beq_of, beq_of, cond_decide, cond_decide] at this
      split at this
      · left; assumption
      · split at this
        · cases this
        · right
          exact ⟨by assumption, by simpa using this⟩
theorem flip_fine {N : Nat} {f : List (List Int)} (h : isTri N f = true) {k : Nat} (hk : k < f.length) : (thR N f k).length = 2 ∧ isTri N (flipR N f k) = true := by
  have s := isTri_spec h
  have n2 : 2 ≤ N ∧ N ≤ 10 := by have := s.1.1; omega
  have o := (isTri_codes h).all (flips_fine n2)
  have ek : f.getD k [] = f[k] := by simp [List.getD, hk]
  have o := allR_all o (encR (f.getD k [])) (List.mem_reverse.2 (List.mem_map.2 ⟨_, by rw [ek]; exact List.getElem_mem hk, rfl⟩))
  have o : flip1 N (revC f) (encR (f.getD k [])) (thC N (mskC (revC f)) (Nat.div (encR (f.getD k [])) 16) (Nat.mod (encR (f.getD k [])) 16)) = true := o
  rw [← thR_code h hk] at o
  obtain ⟨p, q, e, d, hy⟩ := flip1_two o
  refine ⟨by rw [e]; rfl, ?_⟩
  have hq : q < 16 := by
    have : q ∈ thR N f k := by rw [e]; simp
    unfold thR at this
    have := List.mem_range.1 (List.mem_filter.1 this).1
    omega
  have pq : decR (16 * p + q) = [(p : Int), (q : Int)] := by
    unfold decR
    have e1 : (16 * p + q) / 16 = p := by omega
    have e2 : (16 * p + q) % 16 = q := by omega
    rw [e1, e2]
  have ed := dec_diag d
  have es : flipR N f k = putL (f.eraseIdx k) (decR (16 * p + q)) := by
    unfold flipR
    rw [e, pq]
    rfl
  have sub : (f.eraseIdx k).Sublist f := List.eraseIdx_sublist _ _
  have pm := putL_perm (f.eraseIdx k) (decR (16 * p + q))
  have oth : ∀ y ∈ f.eraseIdx k, encR y ≠ 16 * p + q ∧ crC (encR y) (16 * p + q) = false := fun y hy' => by
    have hm := sub.subset hy'
    rcases hy (encR y) (List.mem_reverse.2 (List.mem_map.2 ⟨y, hm, rfl⟩)) with hx | hx
    · exfalso
      obtain ⟨i, hi, e1⟩ := List.mem_eraseIdx_iff_getElem.1 hy'
      obtain ⟨hne, e1⟩ := e1
      subst e1
      have a : encR (f.getD i []) = encR (f.getD k []) := by rw [← hx]; simp [List.getD, hi]
      rcases Nat.lt_or_gt_of_ne hne with c | c
      · have := isTri_up h k hk i c; omega
      · have := isTri_up h i hi k c; omega
    · exact hx
  rw [es]
  refine isTri_of ⟨s.1.1, ?_⟩ (putL_sorted _ _ ((tri_sorted h).sublist sub)) ?_ ?_ ?_
  · rw [putL_len, List.length_eraseIdx, if_pos hk]
    have := s.1.2
    omega
  · rw [pm.nodup_iff, List.nodup_cons]
    refine ⟨fun hm => (oth _ hm).1 (enc_decR _), (tri_nodup h).sublist sub⟩
  · intro x hx
    rcases List.mem_cons.1 (pm.mem_iff.1 hx) with rfl | hx
    · exact ed
    · exact tri_diag h x (sub.subset hx)
  · rw [pm.pairwise_iff fun h => crossR_symm h, List.pairwise_cons]
    refine ⟨fun y hy' => crossR_symm (cross_enc (tri_diag h y (sub.subset hy')) ed (by omega) (by rw [enc_decR]; exact (oth y hy').2)), (tri_cross h).sublist sub⟩
/-- a sort puts the new one in its place -/
theorem flip_sort {N : Nat} {f : List (List Int)} (h : isTri N f = true) {k : Nat} (hk : k < f.length) : sortL (f.set k [((thR N f k).getD 0 0 : Int), ((thR N f k).getD 1 0 : Int)]) = flipR N f k := by
  unfold flipR
  refine sortL_eq (putL_sorted _ _ ((tri_sorted h).sublist (List.eraseIdx_sublist _ _))) ?_
  refine List.Perm.trans ?_ (putL_perm _ _).symm
  generalize [((thR N f k).getD 0 0 : Int), ((thR N f k).getD 1 0 : Int)] = x
  rw [List.set_eq_take_append_cons_drop, if_pos hk, List.eraseIdx_eq_take_drop_succ]
  exact List.perm_middle

end Go.Proofs.Ythadkebcjlpkhaa
