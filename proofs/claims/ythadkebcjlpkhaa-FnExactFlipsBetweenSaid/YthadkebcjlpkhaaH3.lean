/-
  Contracts of functions that gather words in a variable that an inner function shares are proved: words of Fuss.
  They hold for all arguments.
-/
import Derived.Test.YthadkebcjlpkhaaH2
import Derived.Test.YthadkebcjlpkhaaGY
set_option linter.unusedVariables false
set_option linter.unusedSimpArgs false
namespace Go.Proofs.Ythadkebcjlpkhaa
open Go.Proofs.Ythadkebcjlpkhaa.Ab Go.Proofs.Ythadkebcjlpkhaa.Pl

/-- the blocks of an inner function that gathers: itself, the shared variable, its row, a number -/
abbrev accL (F pm po b pq N : Nat) (m : Int) (out : List (List UInt8)) (R : List (Nat × Blk)) : List (Nat × Blk) :=
  (pm, row [.func F [.ptr po 0, .ptr pm 0, .ptr pq 0]]) :: (po, row [.slice b 0 N N]) :: (b, row (strs out)) :: (pq, row [.int .i64 m]) :: R


/-- the words of Fuss, and whether there are some -/
def fussP (m n : Int) : List (List UInt8) × Bool := if (1 ≤ m ∧ m ≤ 4) ∧ 0 ≤ n ∧ n ≤ 4 then (fussAll m.toNat 25 [] n.toNat 0, true) else ([], false)
theorem fussP_len (m n : Int) : (fussP m n).1.length ≤ 33554432 := by
  unfold fussP
  split
  · exact fussAll_len _ 25 _ _ _
  · simp





end Go.Proofs.Ythadkebcjlpkhaa

/-
  Contracts of matchings without crossings are proved.
  They hold for all rows of numbers.
-/
set_option linter.unusedVariables false
set_option linter.unusedSimpArgs false
namespace Go.Proofs.Ythadkebcjlpkhaa
open Go.Proofs.Ythadkebcjlpkhaa.Ab Go.Proofs.Ythadkebcjlpkhaa.Pl

theorem fill_len {α : Type} (A B : List α) (k : Nat) (e : A.length = B.length) : (A.take k ++ B.drop k).length = B.length := by
  simp
  omega
theorem fill_set {α : Type} (A B : List α) (d : α) (k : Nat) (ha : k < A.length) (hb : k < B.length) : (A.take k ++ B.drop k).set k (A.getD k d) = A.take (k + 1) ++ B.drop (k + 1) := by
  have e : (A.take k).length = k := by simp; omega
  have e2 : A.getD k d = A[k] := by simp [List.getD, ha]
  rw [List.set_append_right _ _ (by omega), e, Nat.sub_self, List.drop_eq_getElem_cons hb, List.set_cons_zero, e2, List.take_succ_eq_append_getElem ha, List.append_assoc]
  rfl
theorem fill_all {α : Type} (A B : List α) (k : Nat) (e : A.length = B.length) (h : k = A.length) : A.take k ++ B.drop k = A := by
  subst h
  rw [List.take_length, List.drop_eq_nil_of_le (by omega), List.append_nil]

theorem toIntS_ok (l : List Int) (v : AV) (h0 : H) (hv : CellsAt h0 v (ints l)) (hl : l.length ≤ 100000000) : AC env 12 [v] h0 fun r h' => ∃ b, r = .slice b 0 l.length l.length ∧ New h0 h' b (ints l) := by
  have hs := St.refl h0
  rcases hv with ⟨rfl, e⟩ | ⟨b, c, rfl, hb⟩
  · have e : l = [] := List.eq_nil_of_length_eq_zero (by rw [← ints_length, e]; rfl)
    subst e
    refine AC.enter Try.func12 Try.call12 rfl Try.ntmps12 (of_decide_eq_true (by rfl)) ?_
    repeat' (first
      | refine AW.seq ?_
      | (refine AW.region ?_; conv => whnf)
      | refine AW.block ?_
      | (refine AW.skip ?_; conv => whnf)
      | (refine AW.ret ?_; conv => whnf)
      | (refine AW.exit ?_; conv => whnf)
      | refine AW.cond (by rfl) ?_
      | (refine Br.tt ?_; conv => whnf)
      | (refine Br.ff ?_; conv => whnf)
      | refine Br.not ?_
      | (refine Br.t (beq_self_eq_true _) ?_; conv => whnf)
      | (refine Br.t (by assumption) ?_; conv => whnf)
      | (refine Br.f (by assumption) ?_; conv => whnf)
      | (refine Br.dt (by omega) ?_; conv => whnf)
      | (refine Br.df (by omega) ?_; conv => whnf)
      | (refine Br.it (by omega) ?_; conv => whnf)
      | (refine Br.if (by omega) ?_; conv => whnf)
      | (refine Br.nt (by omega) ?_; conv => whnf)
      | (refine Br.nf (by omega) ?_; conv => whnf)
      | (refine Br.dec (fun hc => ?_) (fun hc => ?_) <;> conv => whnf)
      | (refine Br.ieq (fun hc => ?_) (fun hc => ?_) <;> conv => whnf)
      | (refine Br.ine (fun hc => ?_) (fun hc => ?_) <;> conv => whnf)
      | (refine Br.mk (fun hc => ?_) (fun hc => ?_) <;> conv => whnf)
      | (refine Wr.i64 (by omega) ?_; conv => whnf)
      | (refine Ck.mk (by omega) ?_; conv => whnf)
      | (refine Wr.i64 (by simp only [List.length_drop, List.length_take, List.length_append, List.length_cons, List.length_nil]; omega) ?_; conv => whnf)
      | (refine Ck.mk (by simp only [List.length_drop, List.length_take, List.length_append, List.length_cons, List.length_nil]; omega) ?_; conv => whnf)
      | (refine NewG.stZ (by assumption) rfl (fun bt h' hs' => ?_); conv => whnf)
      | (refine Ck.slice (by omega) (by omega) (by omega) (by decide) ?_; conv => whnf)
      | (refine Has.load1 (by first | assumption | exact St.has (by assumption) (by repeat first | exact .head _ | apply List.Mem.tail) | exact St.arg (by assumption) (by assumption)) ?_; conv => whnf)
      | (refine Has.loadZ (by first | assumption | exact St.has (by assumption) (by repeat first | exact .head _ | apply List.Mem.tail) | exact St.arg (by assumption) (by assumption)) rfl (by first | (simp; done) | omega | (simp only [List.length_set, List.length_append, List.length_cons, List.length_nil, List.length_replicate, tab_length]; omega) | (simp; omega)) ?_; conv => whnf)
      | (refine StoreG.st1 (by assumption) (by repeat first | exact .here | apply Spot.there) rfl (fun h' hs' => ?_); conv => whnf)
      | (refine StoreG.stZ (by assumption) (by repeat first | exact .here | apply Spot.there) rfl (by first | (simp; done) | omega | (simp only [List.length_set, List.length_append, List.length_cons, List.length_nil, List.length_replicate, tab_length]; omega) | (simp; omega)) (fun h' hs' => ?_); conv => whnf)
      | (refine Ck.mk (by simp; omega) ?_; conv => whnf))
    refine AW.once ?_
    repeat' (first
      | refine AW.seq ?_
      | (refine AW.region ?_; conv => whnf)
      | refine AW.block ?_
      | (refine AW.skip ?_; conv => whnf)
      | (refine AW.ret ?_; conv => whnf)
      | (refine AW.exit ?_; conv => whnf)
      | refine AW.cond (by rfl) ?_
      | (refine Br.tt ?_; conv => whnf)
      | (refine Br.ff ?_; conv => whnf)
      | refine Br.not ?_
      | (refine Br.t (beq_self_eq_true _) ?_; conv => whnf)
      | (refine Br.t (by assumption) ?_; conv => whnf)
      | (refine Br.f (by assumption) ?_; conv => whnf)
      | (refine Br.dt (by omega) ?_; conv => whnf)
      | (refine Br.df (by omega) ?_; conv => whnf)
      | (refine Br.it (by omega) ?_; conv => whnf)
      | (refine Br.if (by omega) ?_; conv => whnf)
      | (refine Br.nt (by omega) ?_; conv => whnf)
      | (refine Br.nf (by omega) ?_; conv => whnf)
      | (refine Br.dec (fun hc => ?_) (fun hc => ?_) <;> conv => whnf)
      | (refine Br.ieq (fun hc => ?_) (fun hc => ?_) <;> conv => whnf)
      | (refine Br.ine (fun hc => ?_) (fun hc => ?_) <;> conv => whnf)
      | (refine Br.mk (fun hc => ?_) (fun hc => ?_) <;> conv => whnf)
      | (refine Wr.i64 (by omega) ?_; conv => whnf)
      | (refine Ck.mk (by omega) ?_; conv => whnf)
      | (refine Wr.i64 (by simp only [List.length_drop, List.length_take, List.length_append, List.length_cons, List.length_nil]; omega) ?_; conv => whnf)
      | (refine Ck.mk (by simp only [List.length_drop, List.length_take, List.length_append, List.length_cons, List.length_nil]; omega) ?_; conv => whnf)
      | (refine NewG.stZ (by assumption) rfl (fun bt h' hs' => ?_); conv => whnf)
      | (refine Ck.slice (by omega) (by omega) (by omega) (by decide) ?_; conv => whnf)
      | (refine Has.load1 (by first | assumption | exact St.has (by assumption) (by repeat first | exact .head _ | apply List.Mem.tail) | exact St.arg (by assumption) (by assumption)) ?_; conv => whnf)
      | (refine Has.loadZ (by first | assumption | exact St.has (by assumption) (by repeat first | exact .head _ | apply List.Mem.tail) | exact St.arg (by assumption) (by assumption)) rfl (by first | (simp; done) | omega | (simp only [List.length_set, List.length_append, List.length_cons, List.length_nil, List.length_replicate, tab_length]; omega) | (simp; omega)) ?_; conv => whnf)
      | (refine StoreG.st1 (by assumption) (by repeat first | exact .here | apply Spot.there) rfl (fun h' hs' => ?_); conv => whnf)
      | (refine StoreG.stZ (by assumption) (by repeat first | exact .here | apply Spot.there) rfl (by first | (simp; done) | omega | (simp only [List.length_set, List.length_append, List.length_cons, List.length_nil, List.length_replicate, tab_length]; omega) | (simp; omega)) (fun h' hs' => ?_); conv => whnf)
      | (refine Ck.mk (by simp; omega) ?_; conv => whnf))
    exact ⟨_, rfl, hs'.toNew⟩
  · rw [ints_length]
    refine AC.enter Try.func12 Try.call12 rfl Try.ntmps12 (of_decide_eq_true (by rfl)) ?_
    repeat' (first
      | refine AW.seq ?_
      | (refine AW.region ?_; conv => whnf)
      | refine AW.block ?_
      | (refine AW.skip ?_; conv => whnf)
      | (refine AW.ret ?_; conv => whnf)
      | (refine AW.exit ?_; conv => whnf)
      | refine AW.cond (by rfl) ?_
      | (refine Br.tt ?_; conv => whnf)
      | (refine Br.ff ?_; conv => whnf)
      | refine Br.not ?_
      | (refine Br.t (beq_self_eq_true _) ?_; conv => whnf)
      | (refine Br.t (by assumption) ?_; conv => whnf)
      | (refine Br.f (by assumption) ?_; conv => whnf)
      | (refine Br.dt (by omega) ?_; conv => whnf)
      | (refine Br.df (by omega) ?_; conv => whnf)
      | (refine Br.it (by omega) ?_; conv => whnf)
      | (refine Br.if (by omega) ?_; conv => whnf)
      | (refine Br.nt (by omega) ?_; conv => whnf)
      | (refine Br.nf (by omega) ?_; conv => whnf)
      | (refine Br.dec (fun hc => ?_) (fun hc => ?_) <;> conv => whnf)
      | (refine Br.ieq (fun hc => ?_) (fun hc => ?_) <;> conv => whnf)
      | (refine Br.ine (fun hc => ?_) (fun hc => ?_) <;> conv => whnf)
      | (refine Br.mk (fun hc => ?_) (fun hc => ?_) <;> conv => whnf)
      | (refine Wr.i64 (by omega) ?_; conv => whnf)
      | (refine Ck.mk (by omega) ?_; conv => whnf)
      | (refine Wr.i64 (by simp only [List.length_drop, List.length_take, List.length_append, List.length_cons, List.length_nil]; omega) ?_; conv => whnf)
      | (refine Ck.mk (by simp only [List.length_drop, List.length_take, List.length_append, List.length_cons, List.length_nil]; omega) ?_; conv => whnf)
      | (refine NewG.stZ (by assumption) rfl (fun bt h' hs' => ?_); conv => whnf)
      | (refine Ck.slice (by omega) (by omega) (by omega) (by decide) ?_; conv => whnf)
      | (refine Has.load1 (by first | assumption | exact St.has (by assumption) (by repeat first | exact .head _ | apply List.Mem.tail) | exact St.arg (by assumption) (by assumption)) ?_; conv => whnf)
      | (refine Has.loadZ (by first | assumption | exact St.has (by assumption) (by repeat first | exact .head _ | apply List.Mem.tail) | exact St.arg (by assumption) (by assumption)) rfl (by first | (simp; done) | omega | (simp only [List.length_set, List.length_append, List.length_cons, List.length_nil, List.length_replicate, tab_length]; omega) | (simp; omega)) ?_; conv => whnf)
      | (refine StoreG.st1 (by assumption) (by repeat first | exact .here | apply Spot.there) rfl (fun h' hs' => ?_); conv => whnf)
      | (refine StoreG.stZ (by assumption) (by repeat first | exact .here | apply Spot.there) rfl (by first | (simp; done) | omega | (simp only [List.length_set, List.length_append, List.length_cons, List.length_nil, List.length_replicate, tab_length]; omega) | (simp; omega)) (fun h' hs' => ?_); conv => whnf)
      | (refine Ck.mk (by simp; omega) ?_; conv => whnf))
    refine AW.loop1 (fun (k : Nat) => [(0, .slice b 0 l.length c), (3, .slice bt 0 l.length l.length), (4, .int .i64 k)]) (fun k h' => k ≤ l.length ∧ St h0 h' [(bt, row (ints (l.take k ++ (List.replicate l.length 0).drop k)))]) (fun k => l.length - k) 0
      (Less.cons rfl (Less.cons rfl (Less.cons rfl (Less.nil _)))) ⟨by omega, hs'⟩ ?_
    rintro k h1 ⟨hk, hs⟩
    have hle := fill_len l (List.replicate l.length 0) k (by simp)
    rw [List.length_replicate] at hle
    repeat' (first
      | refine AW.seq ?_
      | (refine AW.region ?_; conv => whnf)
      | refine AW.block ?_
      | (refine AW.skip ?_; conv => whnf)
      | (refine AW.ret ?_; conv => whnf)
      | (refine AW.exit ?_; conv => whnf)
      | refine AW.cond (by rfl) ?_
      | (refine Br.tt ?_; conv => whnf)
      | (refine Br.ff ?_; conv => whnf)
      | refine Br.not ?_
      | (refine Br.t (beq_self_eq_true _) ?_; conv => whnf)
      | (refine Br.t (by assumption) ?_; conv => whnf)
      | (refine Br.f (by assumption) ?_; conv => whnf)
      | (refine Br.dt (by omega) ?_; conv => whnf)
      | (refine Br.df (by omega) ?_; conv => whnf)
      | (refine Br.it (by omega) ?_; conv => whnf)
      | (refine Br.if (by omega) ?_; conv => whnf)
      | (refine Br.nt (by omega) ?_; conv => whnf)
      | (refine Br.nf (by omega) ?_; conv => whnf)
      | (refine Br.dec (fun hc => ?_) (fun hc => ?_) <;> conv => whnf)
      | (refine Br.ieq (fun hc => ?_) (fun hc => ?_) <;> conv => whnf)
      | (refine Br.ine (fun hc => ?_) (fun hc => ?_) <;> conv => whnf)
      | (refine Br.mk (fun hc => ?_) (fun hc => ?_) <;> conv => whnf)
      | (refine Wr.i64 (by omega) ?_; conv => whnf)
      | (refine Ck.mk (by omega) ?_; conv => whnf)
      | (refine Wr.i64 (by simp only [List.length_drop, List.length_take, List.length_append, List.length_cons, List.length_nil]; omega) ?_; conv => whnf)
      | (refine Ck.mk (by simp only [List.length_drop, List.length_take, List.length_append, List.length_cons, List.length_nil]; omega) ?_; conv => whnf)
      | (refine NewG.stZ (by assumption) rfl (fun bt h' hs' => ?_); conv => whnf)
      | (refine Ck.slice (by omega) (by omega) (by omega) (by decide) ?_; conv => whnf)
      | (refine Has.load1 (by first | assumption | exact St.has (by assumption) (by repeat first | exact .head _ | apply List.Mem.tail) | exact St.arg (by assumption) (by assumption)) ?_; conv => whnf)
      | (refine Has.loadZ (by first | assumption | exact St.has (by assumption) (by repeat first | exact .head _ | apply List.Mem.tail) | exact St.arg (by assumption) (by assumption)) rfl (by first | (simp; done) | omega | (simp only [List.length_set, List.length_append, List.length_cons, List.length_nil, List.length_replicate, tab_length]; omega) | (simp; omega)) ?_; conv => whnf)
      | (refine StoreG.st1 (by assumption) (by repeat first | exact .here | apply Spot.there) rfl (fun h' hs' => ?_); conv => whnf)
      | (refine StoreG.stZ (by assumption) (by repeat first | exact .here | apply Spot.there) rfl (by first | (simp; done) | omega | (simp only [List.length_set, List.length_append, List.length_cons, List.length_nil, List.length_replicate, tab_length]; omega) | (simp; omega)) (fun h' hs' => ?_); conv => whnf)
      | (refine Ck.mk (by simp; omega) ?_; conv => whnf))
    · refine ⟨k + 1, (Less.cons rfl (Less.cons rfl (Less.cons rfl (Less.nil _)))), ⟨by omega, ?_⟩, by omega⟩
      rw [← fill_set l _ 0 k (by omega) (by simp; omega)]
      exact hs'
    · rw [fill_all l _ k (by simp) (by omega)] at hs
      exact ⟨_, rfl, hs.toNew⟩

/-- a place of a matching is as it must be -/
def okAt (l : List Int) (i : Nat) : Prop := (0 ≤ l.getD i 0 ∧ l.getD i 0 ≤ (l.length : Int) - 1) ∧ l.getD i 0 ≠ i ∧ l.getD (l.getD i 0).toNat 0 = i
instance (l : List Int) (i : Nat) : Decidable (okAt l i) := by unfold okAt; infer_instance
def isM (l : List Int) : Bool := decide (l.length ≤ 16 ∧ ∀ i, i < l.length → okAt l i)
def crossAt (l : List Int) (a c : Nat) : Prop := a < c ∧ (c : Int) < l.getD a 0 ∧ l.getD a 0 < l.getD c 0
instance (l : List Int) (a c : Nat) : Decidable (crossAt l a c) := by unfold crossAt; infer_instance
def crossless (l : List Int) (i j : Nat) : Prop := ∀ a c, c < l.length → (a < i ∨ (a = i ∧ c < j)) → ¬ crossAt l a c
def isNC (l : List Int) : Bool := isM l && decide (∀ a, a < l.length → ∀ c, c < l.length → ¬ crossAt l a c)
theorem isM_spec {l : List Int} (h : isM l = true) : l.length ≤ 16 ∧ ∀ i, i < l.length → okAt l i := of_decide_eq_true h
theorem isNC_spec {l : List Int} (h : isNC l = true) : isM l = true := by
  unfold isNC at h
  simp only [Bool.and_eq_true] at h
  exact h.1

theorem crossless_zero (l : List Int) : crossless l 0 0 := fun a c _ h => by omega
theorem crossless_hit {l : List Int} {i j : Nat} (hj : j < l.length) (h : crossAt l i j) : ¬ crossless l i (j + 1) := fun n => n i j hj (.inr ⟨rfl, by omega⟩) h
theorem crossless_miss {l : List Int} {i j : Nat} (h : ¬ crossAt l i j) : crossless l i (j + 1) ↔ crossless l i j := by
  constructor
  · exact fun n a c hc hh => n a c hc (by omega)
  · intro n a c hc hh
    by_cases e : a = i ∧ c = j
    · rw [e.1, e.2]; exact h
    · exact n a c hc (by omega)
theorem crossless_row {l : List Int} {i j : Nat} (hj : l.length ≤ j) : crossless l (i + 1) 0 ↔ crossless l i j := by
  constructor
  · exact fun n a c hc hh => n a c hc (by omega)
  · exact fun n a c hc hh => n a c hc (by omega)
theorem crossless_start {l : List Int} {i : Nat} : crossless l i (i + 1) ↔ crossless l i 0 := by
  constructor
  · exact fun n a c hc hh => n a c hc (by omega)
  · intro n a c hc hh
    by_cases e : a = i
    · subst e
      intro hx
      unfold crossAt at hx
      omega
    · exact n a c hc (by omega)
theorem crossless_all {l : List Int} (i : Nat) (h : l.length ≤ i) : crossless l i 0 ↔ ∀ a, a < l.length → ∀ c, c < l.length → ¬ crossAt l a c := by
  constructor
  · exact fun n a ha c hc => n a c hc (.inl (by omega))
  · intro n a c hc hh hx
    exact n a (by unfold crossAt at hx; omega) c hc hx


theorem isM_all {l : List Int} (h : ∀ i, i < l.length → okAt l i) : isM l = decide ((l.length : Int) ≤ 16) := decide_eq_decide.2 ⟨fun g => by have := g.1; omega, fun g => ⟨by omega, h⟩⟩



theorem beq_zero (k : Nat) : ((k : Int) == 0) = decide (k = 0) := by
  cases k <;> rfl
theorem isNC_of {l : List Int} (h : isM l = true) {p : Prop} [Decidable p] (g : p ↔ ∀ a, a < l.length → ∀ c, c < l.length → ¬ crossAt l a c) : decide p = isNC l := by
  unfold isNC
  rw [h, Bool.true_and]
  exact decide_eq_decide.2 g



def isD (l : List Int) : Bool := decide (2 ≤ (l.length : Int)) && isNC l
theorem isD_spec {l : List Int} (h : isD l = true) : 2 ≤ l.length ∧ isNC l = true := by
  unfold isD at h
  simp only [Bool.and_eq_true, decide_eq_true_eq] at h
  exact ⟨by omega, h.2⟩





/-- the arcs from above to below, among the first points -/
def thrTo (l : List Int) : Nat → Nat
  | 0 => 0
  | i + 1 => thrTo l i + if ((l.length / 2 : Nat) : Int) ≤ l.getD i 0 then 1 else 0
theorem thrTo_le (l : List Int) : ∀ i, thrTo l i ≤ i
  | 0 => Nat.le_refl _
  | i + 1 => by
    have := thrTo_le l i
    simp only [thrTo]
    split <;> omega
def thr (l : List Int) : Int := if isD l = true then (thrTo l (l.length / 2) : Int) else -1

theorem half_len (n : Nat) : (n : Int).tdiv 2 = ((n / 2 : Nat) : Int) := rfl




/-- a law's row, in its two forms -/
theorem intsArg_two {h : H} {v : AV} (m : IntsArg h v) : ∃ l, bdI l ∧ l.length ≤ 9223372036854775807 ∧ CellsAt h v (ints l) ∧ ((v = .nilslice ∧ l = []) ∨ ∃ b c, v = .slice b 0 l.length c) := by
  obtain ⟨l, bd, hl, hv⟩ := m
  refine ⟨l, bd, hl, hv, ?_⟩
  rcases hv with ⟨rfl, e⟩ | ⟨b, c, rfl, hb⟩
  · exact .inl ⟨rfl, List.eq_nil_of_length_eq_zero (by rw [← ints_length, e]; rfl)⟩
  · exact .inr ⟨b, c, by rw [ints_length]⟩



end Go.Proofs.Ythadkebcjlpkhaa
