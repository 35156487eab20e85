/-
  Contracts of rows of rows that are marked are proved.
  They hold for all rows of rows.
-/
import Derived.Test.YthadkebcjlpkhaaC23
import Derived.Test.YthadkebcjlpkhaaH3
import Derived.Test.YthadkebcjlpkhaaH0
set_option linter.unusedVariables false
set_option linter.unusedSimpArgs false
namespace Go.Proofs.Ythadkebcjlpkhaa
open Go.Proofs.Ythadkebcjlpkhaa.Ab Go.Proofs.Ythadkebcjlpkhaa.Pl

/-- rows of rows among one's blocks, and the same with other rows -/
inductive RSpot : List (Nat × Blk) → Nat → RL → RL → List (Nat × Blk) → Prop where
  | here {b : Nat} {R R' : RL} {L : List (Nat × Blk)} : RSpot ((b, row (slcs R)) :: (blks R ++ L)) b R R' ((b, row (slcs R')) :: (blks R' ++ L))
  | there {x : Nat × Blk} {b : Nat} {R R' : RL} {L L' : List (Nat × Blk)} (s : RSpot L b R R' L') : RSpot (x :: L) b R R' (x :: L')
  | app {X : List (Nat × Blk)} {b : Nat} {R R' : RL} {L L' : List (Nat × Blk)} (s : RSpot L b R R' L') : RSpot (X ++ L) b R R' (X ++ L')
theorem RSpot.split {L L' : List (Nat × Blk)} {b : Nat} {R R' : RL} (s : RSpot L b R R' L') : ∃ A B, L = A ++ (b, row (slcs R)) :: (blks R ++ B) ∧ L' = A ++ (b, row (slcs R')) :: (blks R' ++ B) := by
  induction s with
  | here => exact ⟨[], _, rfl, rfl⟩
  | there s ih =>
    obtain ⟨A, B, e1, e2⟩ := ih
    exact ⟨_ :: A, B, by rw [e1]; rfl, by rw [e2]; rfl⟩
  | app s ih =>
    obtain ⟨A, B, e1, e2⟩ := ih
    exact ⟨_ ++ A, B, by rw [e1, List.append_assoc], by rw [e2, List.append_assoc]⟩
theorem St.gridAt {h0 h : H} {L : List (Nat × Blk)} {b : Nat} {R : RL} (s : St h0 h L) (sp : RSpot L b R R L) : Grid h b R := by
  obtain ⟨A, B, rfl, _⟩ := sp.split
  exact s.rowsIn (List.mem_append_right _ (.head _)) fun p hp => List.mem_append_right _ (.tail _ (List.mem_append_left _ hp))

def totL (f : List (List Int)) : Nat := (f.map List.length).sum
theorem totL_cons (l : List Int) (f : List (List Int)) : totL (l :: f) = l.length + totL f := by simp [totL]
theorem totL_append (f g : List (List Int)) : totL (f ++ g) = totL f + totL g := by simp [totL]
theorem totL_mem {f : List (List Int)} {l : List Int} (h : l ∈ f) : l.length ≤ totL f := by
  induction f with
  | nil => cases h
  | cons x f ih =>
    rw [totL_cons]
    cases h with
    | head => omega
    | tail _ h => have := ih h; omega
theorem totL_le {f : List (List Int)} {m : Nat} (h : ∀ l ∈ f, l.length ≤ m) : totL f ≤ f.length * m := by
  induction f with
  | nil => simp [totL]
  | cons x f ih =>
    rw [totL_cons, List.length_cons, Nat.add_mul]
    have := ih fun l hl => h l (.tail _ hl)
    have := h x (.head _)
    omega
def markR (k : Int) : RL → RL
  | [] => []
  | r :: R => (r.1, iota k r.2.length) :: markR (k + r.2.length) R
theorem iota_length (k : Int) (n : Nat) : (iota k n).length = n := tab_length _ _
theorem markR_slcs : ∀ (R : RL) (k : Int), slcs (markR k R) = slcs R
  | [], k => rfl
  | r :: R, k => by
    have := markR_slcs R (k + r.2.length)
    simp only [slcs, markR, List.map_cons, iota_length] at this ⊢
    rw [this]
theorem markR_len : ∀ (R : RL) (k : Int), (markR k R).length = R.length
  | [], k => rfl
  | r :: R, k => by rw [markR, List.length_cons, markR_len R, List.length_cons]
theorem markR_append : ∀ (A B : RL) (k : Int), markR k (A ++ B) = markR k A ++ markR (k + totL (rws A)) B
  | [], B, k => by simp [markR, totL, rws]
  | r :: A, B, k => by
    rw [List.cons_append, markR, markR, markR_append A B]
    have : totL (rws (r :: A)) = r.2.length + totL (rws A) := totL_cons _ _
    rw [this, List.cons_append]
    congr 3
    omega
theorem spot_mid {α : Type} (X Y : List α) (p q : α) : Spot (X ++ p :: Y) p q (X ++ q :: Y) := by
  induction X with
  | nil => exact .here
  | cons x X ih => exact .there ih
theorem rl_mid (A B : RL) (x : Nat × List Int) : (A ++ x :: B).getD A.length (0, []) = x := by simp [List.getD]

theorem Spot.app {α : Type} {L L' X : List α} {p q : α} (s : Spot L p q L') : Spot (X ++ L) p q (X ++ L') := by
  induction X with
  | nil => exact s
  | cons x X ih => exact .there ih



theorem eqRows_ok (R S : RL) (f : List (List Int)) (b c N C D : Nat) (h0 : H) (hb : Grid h0 b R) (hc' : Grid h0 c S) (hR : rws R = f) (hS : rws S = f) (hN : N = f.length) (ht : totL f ≤ 2000000) (hl : f.length ≤ 2000000) : AC env 8 [.slice b 0 N C, .slice c 0 N D] h0 fun v h' => v = .bool true ∧ h' = h0 :=
  eqIntSS_ok R S f b c N C D h0 hb hc' hR hS hN (by omega) fun l hl => by have := totL_mem hl; omega



end Go.Proofs.Ythadkebcjlpkhaa

/-
  Plain laws of triangulations, as numbers, are proved by a search that finds all of them.
  They hold for up to ten corners.
-/
set_option linter.unusedVariables false
set_option linter.unusedSimpArgs false
namespace Go.Proofs.Ythadkebcjlpkhaa.Pl

/-! tests over lists, in a form that is quick to check -/
noncomputable def allR (p : Nat → Bool) (l : List Nat) : Bool := @List.rec Nat (fun _ => Bool) true (fun x _ ih => bif p x then ih else false) l
noncomputable def filR (p : Nat → Bool) (l : List Nat) : List Nat := @List.rec Nat (fun _ => List Nat) [] (fun x _ ih => bif p x then x :: ih else ih) l
theorem allR_all {p : Nat → Bool} : ∀ {l : List Nat}, allR p l = true → ∀ x ∈ l, p x = true
  | [], _, x, hx => by cases hx
  | y :: l, h, x, hx => by
    have h : (bif p y then allR p l else false) = true := h
    cases e : p y with
    | false => rw [e] at h; cases h
    | true =>
      rw [e] at h
      cases hx with
      | head => exact e
      | tail _ hx => exact allR_all h x hx
theorem filR_eq (p : Nat → Bool) : ∀ l : List Nat, filR p l = l.filter p
  | [] => rfl
  | x :: l => by
    have e : filR p (x :: l) = bif p x then x :: filR p l else filR p l := rfl
    rw [e, filR_eq p l, List.filter_cons]
    cases p x <;> rfl

/-! a diagonal from a to b is the number 16 a + b -/
def crH (a b c d : Nat) : Bool := bif Nat.ble (Nat.succ a) c then (bif Nat.ble (Nat.succ c) b then Nat.ble (Nat.succ b) d else false) else (bif Nat.ble (Nat.succ c) a then (bif Nat.ble (Nat.succ a) d then Nat.ble (Nat.succ d) b else false) else false)
def crC (x y : Nat) : Bool := crH (Nat.div x 16) (Nat.mod x 16) (Nat.div y 16) (Nat.mod y 16)
def dgC (n c : Nat) : Bool := bif Nat.ble (Nat.add (Nat.div c 16) 2) (Nat.mod c 16) then (bif Nat.ble (Nat.succ (Nat.mod c 16)) n then (bif Nat.beq (Nat.div c 16) 0 then !(Nat.beq (Nat.succ (Nat.mod c 16)) n) else true) else false) else false
theorem ble_of {a b : Nat} : Nat.ble a b = decide (a ≤ b) := by
  cases h : Nat.ble a b with
  | true => rw [decide_eq_true (Nat.le_of_ble_eq_true h)]
  | false => rw [decide_eq_false fun g => by rw [Nat.ble_eq_true_of_le g] at h; cases h]
theorem beq_of {a b : Nat} : Nat.beq a b = decide (a = b) := by
  cases h : Nat.beq a b with
  | true => rw [decide_eq_true (Nat.eq_of_beq_eq_true h)]
  | false => rw [decide_eq_false fun g => by subst g; rw [Nat.beq_refl] at h; cases h]
theorem cond_decide {α : Type} {p : Prop} [Decidable p] (x y : α) : (bif decide p then x else y) = if p then x else y := by
  by_cases h : p <;> simp [h]
theorem crH_iff (a b c d : Nat) : crH a b c d = true ↔ (a < c ∧ c < b ∧ b < d) ∨ (c < a ∧ a < d ∧ d < b) := by
  unfold crH
  simp only [ble_of, cond_decide]
  split
  · split
    · simp; omega
    · simp; omega
  · split
    · split
      · simp; omega
      · simp; omega
    · simp; omega
theorem crC_iff (x y : Nat) : crC x y = true ↔ (x / 16 < y / 16 ∧ y / 16 < x % 16 ∧ x % 16 < y % 16) ∨ (y / 16 < x / 16 ∧ x / 16 < y % 16 ∧ y % 16 < x % 16) := crH_iff _ _ _ _
theorem crC_symm (x y : Nat) : crC x y = crC y x := by
  rw [Bool.eq_iff_iff, crC_iff, crC_iff]
  omega
theorem dgC_iff (n c : Nat) : dgC n c = true ↔ c / 16 + 2 ≤ c % 16 ∧ c % 16 < n ∧ ¬ (c / 16 = 0 ∧ c % 16 + 1 = n) := by
  have e1 : Nat.div c 16 = c / 16 := rfl
  have e2 : Nat.mod c 16 = c % 16 := rfl
  have e3 : Nat.add (c / 16) 2 = c / 16 + 2 := rfl
  unfold dgC
  rw [e1, e2, e3]
  simp only [ble_of, beq_of, cond_decide]
  split
  · split
    · split
      · simp; omega
      · simp; omega
    · simp; omega
  · simp; omega
def candC (n : Nat) : List Nat := (List.range 160).filter (dgC n)

noncomputable def stepC (f : List Nat → List Nat → Bool) (acc : List Nat) (l : List Nat) : Bool :=
  @List.rec Nat (fun _ => Bool) true (fun c t ih => bif f (c :: acc) (filR (fun x => !crC c x) t) then ih else false) l
/-- all choices of so many diagonals that do not cross pass a test (they come in reverse) -/
noncomputable def allC (P : List Nat → Bool) (k : Nat) : List Nat → List Nat → Bool :=
  @Nat.rec (fun _ => List Nat → List Nat → Bool) (fun acc _ => P acc) (fun k ih acc cs => bif Nat.ble (Nat.succ k) cs.length then stepC ih acc cs else true) k

theorem stepC_cons (f : List Nat → List Nat → Bool) (acc : List Nat) (c : Nat) (t : List Nat) : stepC f acc (c :: t) = bif f (c :: acc) (t.filter fun x => !crC c x) then stepC f acc t else false := by
  rw [← filR_eq]
  rfl
theorem stepC_spec {f : List Nat → List Nat → Bool} {acc : List Nat} : ∀ {cs : List Nat}, stepC f acc cs = true → ∀ c t, (c :: t).Sublist cs → (∀ x ∈ t, crC c x = false) → ∃ cs', f (c :: acc) cs' = true ∧ t.Sublist cs'
  | [], _, c, t, h, _ => by cases h
  | d :: cs, h, c, t, hs, hx => by
    rw [stepC_cons] at h
    cases e : f (d :: acc) (cs.filter fun x => !crC d x) with
    | false => rw [e] at h; cases h
    | true =>
      rw [e, cond_true] at h
      cases hs with
      | cons _ hs => exact stepC_spec h c t hs hx
      | cons_cons _ hs =>
        refine ⟨_, e, ?_⟩
        have := hs.filter fun x => !crC d x
        rwa [List.filter_eq_self.2 (fun x hx' => by rw [hx x hx']; rfl)] at this

theorem allC_spec {P : List Nat → Bool} : ∀ {k : Nat} {acc cs : List Nat}, allC P k acc cs = true → ∀ l : List Nat, l.length = k → l.Sublist cs → l.Pairwise (fun x y => crC x y = false) → P (l.reverse ++ acc) = true
  | 0, acc, cs, h, l, hl, _, _ => by
    rw [List.eq_nil_of_length_eq_zero hl]
    exact h
  | k + 1, acc, cs, h, [], hl, _, _ => by simp at hl
  | k + 1, acc, cs, h, c :: t, hl, hs, hp => by
    have h : (bif Nat.ble (k + 1) cs.length then stepC (allC P k) acc cs else true) = true := h
    have e : Nat.ble (k + 1) cs.length = true := Nat.ble_eq_true_of_le (by rw [← hl]; exact hs.length_le)
    rw [e, cond_true] at h
    obtain ⟨cs', h1, h2⟩ := stepC_spec h c t hs fun x hx => (List.pairwise_cons.1 hp).1 x hx
    have := allC_spec h1 t (by simpa using hl) h2 (List.pairwise_cons.1 hp).2
    simpa using this

theorem sub_of_sorted : ∀ {m l : List Nat}, m.Pairwise (· < ·) → l.Pairwise (· < ·) → (∀ x ∈ l, x ∈ m) → l.Sublist m
  | [], l, _, _, h => by
    cases l with
    | nil => exact List.Sublist.slnil
    | cons x l => exact absurd (h x (.head _)) (by simp)
  | a :: m, [], _, _, _ => List.nil_sublist _
  | a :: m, x :: l, hm, hl, h => by
    have hm' := List.pairwise_cons.1 hm
    have hl' := List.pairwise_cons.1 hl
    by_cases e : x = a
    · subst e
      refine List.Sublist.cons_cons _ (sub_of_sorted hm'.2 hl'.2 fun y hy => ?_)
      have h1 := h y (.tail _ hy)
      have h2 := hl'.1 y hy
      cases h1 with
      | head => omega
      | tail _ h1 => exact h1
    · refine List.Sublist.cons _ (sub_of_sorted hm'.2 hl fun y hy => ?_)
      have h1 := h y hy
      have hx : x ∈ m := by
        have := h x (.head _)
        cases this with
        | head => exact absurd rfl e
        | tail _ h1 => exact h1
      have h3 := hm'.1 x hx
      cases h1 with
      | head =>
        cases hy with
        | head => exact absurd rfl e
        | tail _ hy => have := hl'.1 _ hy; omega
      | tail _ h1 => exact h1

theorem candC_sorted (n : Nat) : (candC n).Pairwise (· < ·) := List.Pairwise.filter _ List.pairwise_lt_range

/-- a triangulation, as numbers -/
structure TriC (n : Nat) (l : List Nat) : Prop where
  len : l.length = n - 3
  dg : ∀ c ∈ l, dgC n c = true ∧ c < 160
  up : l.Pairwise (· < ·)
  nc : l.Pairwise fun x y => crC x y = false
theorem TriC.all {n : Nat} {l : List Nat} (h : TriC n l) {P : List Nat → Bool} (hP : allC P (n - 3) [] (candC n) = true) : P l.reverse = true := by
  have := allC_spec hP l h.len (sub_of_sorted (candC_sorted n) h.up fun x hx => List.mem_filter.2 ⟨List.mem_range.2 (h.dg x hx).2, (h.dg x hx).1⟩) h.nc
  rwa [List.append_nil] at this

/-! joined corners, corners joined with both ends, flips -/
noncomputable def mskC (l : List Nat) : Nat := @List.rec Nat (fun _ => Nat) 0 (fun x _ ih => Nat.lor ih (Nat.shiftLeft 1 x)) l
def tb (m c : Nat) : Bool := Nat.beq (Nat.land (Nat.shiftRight m c) 1) 1
theorem tb_eq (m c : Nat) : tb m c = m.testBit c := by
  have e : Nat.land (Nat.shiftRight m c) 1 = (m >>> c) &&& 1 := rfl
  unfold tb
  rw [e, beq_of, Nat.and_one_is_mod, Nat.testBit_eq_decide_div_mod_eq, Nat.shiftRight_eq_div_pow]
theorem tb_mask : ∀ (l : List Nat) (c : Nat), tb (mskC l) c = true ↔ c ∈ l
  | [], c => by rw [tb_eq]; simp [mskC]
  | x :: l, c => by
    have ih := tb_mask l c
    rw [tb_eq] at ih ⊢
    have e : mskC (x :: l) = mskC l ||| (1 <<< x) := rfl
    rw [e, Nat.testBit_or, Nat.one_shiftLeft, Nat.testBit_two_pow, Bool.or_eq_true, ih, decide_eq_true_eq, List.mem_cons, or_comm]
    exact ⟨fun h => h.imp Eq.symm id, fun h => h.imp Eq.symm id⟩
def jnC (n m a b : Nat) : Bool := bif Nat.beq b (Nat.succ a) then true else bif tb m (Nat.add (Nat.mul 16 a) b) then true else bif Nat.beq a 0 then Nat.beq (Nat.succ b) n else false
def jmC (n m a b : Nat) : Bool := bif Nat.ble a b then jnC n m a b else jnC n m b a
noncomputable def thC (n m a b : Nat) : List Nat := filR (fun c => bif Nat.beq c a then false else bif Nat.beq c b then false else bif jmC n m c a then jmC n m c b else false) (List.range n)
/-- the flip of each diagonal is one again, and its corners are two -/
noncomputable def flip1 (n : Nat) (r : List Nat) (x : Nat) (t : List Nat) : Bool :=
  @List.rec Nat (fun _ => Bool) false (fun p t _ => @List.rec Nat (fun _ => Bool) false (fun q t _ => @List.rec Nat (fun _ => Bool)
    (bif dgC n (Nat.add (Nat.mul 16 p) q) then allR (fun y => bif Nat.beq y x then true else bif Nat.beq y (Nat.add (Nat.mul 16 p) q) then false else !crC y (Nat.add (Nat.mul 16 p) q)) r else false) (fun _ _ _ => false) t) t) t
noncomputable def flipOk (n : Nat) (r : List Nat) : Bool := allR (fun x => flip1 n r x (thC n (mskC r) (Nat.div x 16) (Nat.mod x 16))) r

end Go.Proofs.Ythadkebcjlpkhaa.Pl
