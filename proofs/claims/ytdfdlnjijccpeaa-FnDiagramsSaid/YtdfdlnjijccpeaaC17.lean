/-
  Contracts of matchings without crossings are proved.
  They hold for all rows of numbers.
-/
import Derived.Test.YtdfdlnjijccpeaaC16
set_option linter.unusedVariables false
set_option linter.unusedSimpArgs false
namespace Go.Proofs.Ytdfdlnjijccpeaa
open Go.Proofs.Ytdfdlnjijccpeaa.Ab Go.Proofs.Ytdfdlnjijccpeaa.Pl

theorem fill_len {α : Type} (A B : List α) (k : Nat) (e : A.length = B.length) : (A.take k ++ B.drop k).length = B.length := by
  simp
  omega
theorem fill_set {α : Type} (A B : List α) (d : α) (k : Nat) (ha : k < A.length) (hb : k < B.length) : (A.take k ++ B.drop k).set k (A.getD k d) = A.take (k + 1) ++ B.drop (k + 1) := by
  have e : (A.take k).length = k := by simp; omega
  have e2 : A.getD k d = A[k] := by simp [List.getD, ha]
  rw [List.set_append_right _ _ (by omega), e, Nat.sub_self, List.drop_eq_getElem_cons hb, List.set_cons_zero, e2, List.take_succ_eq_append_getElem ha, List.append_assoc]
  rfl
theorem fill_all {α : Type} (A B : List α) (k : Nat) (e : A.length = B.length) (h : k = A.length) : A.take k ++ B.drop k = A := by
  subst h
  rw [List.take_length, List.drop_eq_nil_of_le (by omega), List.append_nil]


/-- a place of a matching is as it must be -/
def okAt (l : List Int) (i : Nat) : Prop := (0 ≤ l.getD i 0 ∧ l.getD i 0 ≤ (l.length : Int) - 1) ∧ l.getD i 0 ≠ i ∧ l.getD (l.getD i 0).toNat 0 = i
instance (l : List Int) (i : Nat) : Decidable (okAt l i) := by unfold okAt; infer_instance
def isM (l : List Int) : Bool := decide (l.length ≤ 16 ∧ ∀ i, i < l.length → okAt l i)
def crossAt (l : List Int) (a c : Nat) : Prop := a < c ∧ (c : Int) < l.getD a 0 ∧ l.getD a 0 < l.getD c 0
instance (l : List Int) (a c : Nat) : Decidable (crossAt l a c) := by unfold crossAt; infer_instance
def crossless (l : List Int) (i j : Nat) : Prop := ∀ a c, c < l.length → (a < i ∨ (a = i ∧ c < j)) → ¬ crossAt l a c
def isNC (l : List Int) : Bool := isM l && decide (∀ a, a < l.length → ∀ c, c < l.length → ¬ crossAt l a c)
theorem isM_spec {l : List Int} (h : isM l = true) : l.length ≤ 16 ∧ ∀ i, i < l.length → okAt l i := of_decide_eq_true h
theorem isNC_spec {l : List Int} (h : isNC l = true) : isM l = true := by
  unfold isNC at h
  simp only [Bool.and_eq_true] at h
  exact h.1

theorem crossless_zero (l : List Int) : crossless l 0 0 := fun a c _ h => by omega
theorem crossless_hit {l : List Int} {i j : Nat} (hj : j < l.length) (h : crossAt l i j) : ¬ crossless l i (j + 1) := fun n => n i j hj (.inr ⟨rfl, by omega⟩) h
theorem crossless_miss {l : List Int} {i j : Nat} (h : ¬ crossAt l i j) : crossless l i (j + 1) ↔ crossless l i j := by
  constructor
  · exact fun n a c hc hh => n a c hc (by omega)
  · intro n a c hc hh
    by_cases e : a = i ∧ c = j
    · rw [e.1, e.2]; exact h
    · exact n a c hc (by omega)
theorem crossless_row {l : List Int} {i j : Nat} (hj : l.length ≤ j) : crossless l (i + 1) 0 ↔ crossless l i j := by
  constructor
  · exact fun n a c hc hh => n a c hc (by omega)
  · exact fun n a c hc hh => n a c hc (by omega)
theorem crossless_start {l : List Int} {i : Nat} : crossless l i (i + 1) ↔ crossless l i 0 := by
  constructor
  · exact fun n a c hc hh => n a c hc (by omega)
  · intro n a c hc hh
    by_cases e : a = i
    · subst e
      intro hx
      unfold crossAt at hx
      omega
    · exact n a c hc (by omega)
theorem crossless_all {l : List Int} (i : Nat) (h : l.length ≤ i) : crossless l i 0 ↔ ∀ a, a < l.length → ∀ c, c < l.length → ¬ crossAt l a c := by
  constructor
  · exact fun n a ha c hc => n a c hc (.inl (by omega))
  · intro n a c hc hh hx
    exact n a (by unfold crossAt at hx; omega) c hc hx

theorem iIsMatching_ok (l : List Int) (b N C : Nat) (h0 : H) (hb : Has h0 b (ints l)) (hN : N = l.length) : AC env 140 [.slice b 0 N C] h0 fun v h' => v = .bool (isM l) ∧ h' = h0 := by
  subst hN
  by_cases hl : l.length ≤ 16
  · refine AC.enter Try.func140 Try.call140 rfl Try.ntmps140 (of_decide_eq_true (by rfl)) ?_
    repeat' (first
      | refine AW.seq ?_
      | (refine AW.region ?_; conv => whnf)
      | refine AW.block ?_
      | (refine AW.skip ?_; conv => whnf)
      | refine AW.cond (by rfl) ?_
      | (refine Br.df (by omega) ?_; conv => whnf))
    refine AW.loop1 (fun (i : Nat) => [(0, .slice b 0 l.length C), (8, .slice b 0 l.length C), (9, .int .i64 l.length), (10, .int .i64 i)]) (fun i h' => i ≤ l.length ∧ (∀ j, j < i → okAt l j) ∧ h' = h0) (fun i => l.length - i) 0
      (Less.cons rfl (Less.cons rfl (Less.cons rfl (Less.cons rfl (Less.nil _))))) ⟨by omega, fun j hj => by omega, rfl⟩ ?_
    rintro i h1 ⟨hi, hall, rfl⟩
    have bad : ¬ okAt l i → i < l.length → isM l = false := fun n hi => decide_eq_false fun h => n (h.2 i hi)
    repeat' (first
      | refine AW.seq ?_
      | (refine AW.region ?_; conv => whnf)
      | refine AW.block ?_
      | (refine AW.skip ?_; conv => whnf)
      | (refine AW.ret ?_; conv => whnf)
      | (refine AW.exit ?_; conv => whnf)
      | refine AW.cond (by rfl) ?_
      | (refine (within_ok _ _ _ _).mono ?_; rintro v h' ⟨rfl, e'⟩; subst h'; conv => whnf)
      | (refine Br.tt ?_; conv => whnf)
      | refine Br.not ?_
      | (refine Br.dt (by omega) ?_; conv => whnf)
      | (refine Br.df (by omega) ?_; conv => whnf)
      | (refine Br.dec (fun hc => ?_) (fun hc => ?_) <;> conv => whnf)
      | (refine Wr.i64 (by omega) ?_; conv => whnf)
      | (refine Ck.mk (by omega) ?_; conv => whnf)
      | (refine Has.loadZ (by first | assumption | exact St.has (by assumption) (by repeat first | exact .head _ | apply List.Mem.tail) | exact St.arg (by assumption) (by assumption)) rfl (by first | (simp; done) | omega | (simp only [List.length_set, List.length_append, List.length_cons, List.length_nil, List.length_replicate, tab_length]; omega) | (simp; omega)) ?_; conv => whnf))
    · exact ⟨congrArg AV.bool (bad (fun o => o.2.1 hc) (by omega)).symm, rfl⟩
    · exact ⟨i + 1, (Less.cons rfl (Less.cons rfl (Less.cons rfl (Less.cons rfl (Less.nil _))))), ⟨by omega, fun j hj => by
        rcases Nat.lt_succ_iff_lt_or_eq.1 hj with h | rfl
        · exact hall j h
        · exact ⟨by assumption, by assumption, hc⟩, rfl⟩, by omega⟩
    · exact ⟨congrArg AV.bool (bad (fun o => hc o.2.2) (by omega)).symm, rfl⟩
    · exact ⟨congrArg AV.bool (bad (fun o => hc o.1) (by omega)).symm, rfl⟩
    · exact ⟨congrArg AV.bool (decide_eq_true ⟨hl, fun j hj => hall j (by omega)⟩).symm, rfl⟩
  · rw [show isM l = false from decide_eq_false fun h => hl h.1]
    refine AC.enter Try.func140 Try.call140 rfl Try.ntmps140 (of_decide_eq_true (by rfl)) ?_
    repeat' (first
      | refine AW.seq ?_
      | (refine AW.region ?_; conv => whnf)
      | (refine AW.ret ?_; conv => whnf)
      | refine AW.cond (by rfl) ?_
      | (refine Br.dt (by omega) ?_; conv => whnf))
    exact ⟨rfl, rfl⟩

theorem isM_all {l : List Int} (h : ∀ i, i < l.length → okAt l i) : isM l = decide ((l.length : Int) ≤ 16) := decide_eq_decide.2 ⟨fun g => by have := g.1; omega, fun g => ⟨by omega, h⟩⟩

theorem sIsMatching_ok (l : List Int) (b N C : Nat) (h0 : H) (hb : Has h0 b (ints l)) (hN : N = l.length) (hl : l.length ≤ 100000000) : AC env 141 [.slice b 0 N C] h0 fun v h' => v = .bool (isM l) ∧ h' = h0 := by
  subst hN
  refine AC.enter Try.func141 Try.call141 rfl Try.ntmps141 (of_decide_eq_true (by rfl)) ?_
  repeat' (first
    | refine AW.seq ?_
    | (refine AW.region ?_; conv => whnf)
    | refine AW.block ?_)
  refine AW.loop1 (fun (i : Nat) => [(0, .slice b 0 l.length C), (3, .int .i64 i)]) (fun i h' => i ≤ l.length ∧ (∀ j, j < i → okAt l j) ∧ h' = h0) (fun i => l.length - i) 0
    (Less.cons rfl (Less.cons rfl (Less.nil _))) ⟨by omega, fun j hj => by omega, rfl⟩ ?_
  rintro i h1 ⟨hi, hall, rfl⟩
  have bad : ¬ okAt l i → i < l.length → isM l = false := fun n hi => decide_eq_false fun h => n (h.2 i hi)
  repeat' (first
    | refine AW.seq ?_
    | (refine AW.region ?_; conv => whnf)
    | refine AW.block ?_
    | (refine AW.skip ?_; conv => whnf)
    | (refine AW.ret ?_; conv => whnf)
    | (refine AW.exit ?_; conv => whnf)
    | refine AW.cond (by rfl) ?_
    | (refine (l1In_ok _ _ _ _).mono ?_; rintro v h' ⟨rfl, e'⟩; subst h'; conv => whnf)
    | (refine Br.tt ?_; conv => whnf)
    | refine Br.not ?_
    | (refine Br.dt (by omega) ?_; conv => whnf)
    | (refine Br.df (by omega) ?_; conv => whnf)
    | (refine Br.dec (fun hc => ?_) (fun hc => ?_) <;> conv => whnf)
    | (refine Wr.i64 (by omega) ?_; conv => whnf)
    | (refine Ck.mk (by omega) ?_; conv => whnf)
    | (refine Has.loadZ (by first | assumption | exact St.has (by assumption) (by repeat first | exact .head _ | apply List.Mem.tail) | exact St.arg (by assumption) (by assumption)) rfl (by first | (simp; done) | omega | (simp only [List.length_set, List.length_append, List.length_cons, List.length_nil, List.length_replicate, tab_length]; omega) | (simp; omega)) ?_; conv => whnf))
  · exact ⟨congrArg AV.bool (bad (fun o => o.2.1 hc) (by omega)).symm, rfl⟩
  · exact ⟨i + 1, (Less.cons rfl (Less.cons rfl (Less.nil _))), ⟨by omega, fun j hj => by
      rcases Nat.lt_succ_iff_lt_or_eq.1 hj with h | rfl
      · exact hall j h
      · exact ⟨by assumption, by assumption, hc⟩, rfl⟩, by omega⟩
  · exact ⟨congrArg AV.bool (bad (fun o => hc o.2.2) (by omega)).symm, rfl⟩
  · exact ⟨congrArg AV.bool (bad (fun o => hc o.1) (by omega)).symm, rfl⟩
  · exact ⟨congrArg AV.bool (isM_all (fun j hj => hall j (by omega))).symm, rfl⟩

theorem arcs_ok (l : List Int) (b N C : Nat) (h0 : H) (hb : Has h0 b (ints l)) (hN : N = l.length) (hl : l.length ≤ 16) : AC env 148 [.slice b 0 N C] h0 fun v h' => (∃ kc kn : Nat, v = .tup [.int .i64 kc, .int .i64 kn] ∧ (kc = 0 ↔ ∀ a, a < l.length → ∀ c, c < l.length → ¬ crossAt l a c)) ∧ h' = h0 := by
  subst hN
  refine AC.enter Try.func148 Try.call148 rfl Try.ntmps148 (of_decide_eq_true (by rfl)) ?_
  repeat' (first
    | refine AW.seq ?_
    | (refine AW.region ?_; conv => whnf)
    | refine AW.block ?_)
  refine AW.loop3 (fun (i kc kn : Nat) => [(0, .slice b 0 l.length C), (4, .int .i64 kc), (5, .int .i64 kn), (10, .slice b 0 l.length C), (11, .int .i64 l.length), (12, .int .i64 i)]) (fun i kc kn h' => i ≤ l.length ∧ kc ≤ 16 * i ∧ kn ≤ 16 * i ∧ (kc = 0 ↔ crossless l i 0) ∧ h' = h0) (fun i _ _ => l.length - i) 0 0 0
    (Less.cons rfl (Less.cons rfl (Less.cons rfl (Less.cons rfl (Less.cons rfl (Less.cons rfl (Less.nil _))))))) ⟨by omega, by omega, by omega, ⟨fun _ => crossless_zero l, fun _ => rfl⟩, rfl⟩ ?_
  rintro i kc kn h1 ⟨hi, hc1, hn1, hz, rfl⟩
  repeat' (first
    | refine AW.seq ?_
    | (refine AW.region ?_; conv => whnf)
    | refine AW.block ?_
    | (refine AW.skip ?_; conv => whnf)
    | (refine AW.ret ?_; conv => whnf)
    | (refine AW.exit ?_; conv => whnf)
    | refine AW.cond (by rfl) ?_
    | (refine Br.dec (fun hc => ?_) (fun hc => ?_) <;> conv => whnf)
    | (refine Ck.mk (by omega) ?_; conv => whnf)
    | (refine Has.loadZ (by first | assumption | exact St.has (by assumption) (by repeat first | exact .head _ | apply List.Mem.tail) | exact St.arg (by assumption) (by assumption)) rfl (by first | (simp; done) | omega | (simp only [List.length_set, List.length_append, List.length_cons, List.length_nil, List.length_replicate, tab_length]; omega) | (simp; omega)) ?_; conv => whnf))
  · refine AW.loop3 (fun (j kc kn : Nat) => [(0, .slice b 0 l.length C), (4, .int .i64 kc), (5, .int .i64 kn), (6, .int .i64 i), (7, .int .i64 (l.getD i 0)), (10, .slice b 0 l.length C), (11, .int .i64 l.length), (12, .int .i64 i), (17, .slice b 0 l.length C), (18, .int .i64 l.length), (19, .int .i64 j)])
      (fun j kc kn h' => j ≤ l.length ∧ kc ≤ 16 * i + j ∧ kn ≤ 16 * i + j ∧ (kc = 0 ↔ crossless l i j) ∧ h' = h1) (fun j _ _ => l.length - j) 0 kc kn
      (Less.cons rfl (Less.cons rfl (Less.cons rfl (Less.cons rfl (Less.cons rfl (Less.cons rfl (Less.cons rfl (Less.cons rfl (Less.cons rfl (Less.cons rfl (Less.cons rfl (Less.nil _)))))))))))) ⟨by omega, by omega, by omega, hz, rfl⟩ ?_
    rintro j kc kn h2 ⟨hj, hc2, hn2, hz, rfl⟩
    repeat' (first
      | refine AW.seq ?_
      | (refine AW.region ?_; conv => whnf)
      | refine AW.block ?_
      | (refine AW.skip ?_; conv => whnf)
      | (refine AW.exit ?_; conv => whnf)
      | refine AW.cond (by rfl) ?_
      | (refine Br.ff ?_; conv => whnf)
      | (refine Br.dt (by omega) ?_; conv => whnf)
      | (refine Br.df (by omega) ?_; conv => whnf)
      | (refine Br.dec (fun hc => ?_) (fun hc => ?_) <;> conv => whnf)
      | (refine Wr.i64 (by omega) ?_; conv => whnf)
      | (refine Ck.mk (by omega) ?_; conv => whnf)
      | (refine Has.loadZ (by first | assumption | exact St.has (by assumption) (by repeat first | exact .head _ | apply List.Mem.tail) | exact St.arg (by assumption) (by assumption)) rfl (by first | (simp; done) | omega | (simp only [List.length_set, List.length_append, List.length_cons, List.length_nil, List.length_replicate, tab_length]; omega) | (simp; omega)) ?_; conv => whnf))
    all_goals (try simp only [Int.toNat_natCast] at *)
    all_goals first
      | exact ⟨j + 1, kc + 1, kn, (Less.cons rfl (Less.cons rfl (Less.cons rfl (Less.cons rfl (Less.cons rfl (Less.cons rfl (Less.cons rfl (Less.cons rfl (Less.cons rfl (Less.cons rfl (Less.cons rfl (Less.nil _)))))))))))), ⟨by omega, by omega, by omega, ⟨fun e => by omega, fun e => absurd e (crossless_hit (by omega) ⟨by omega, by omega, by omega⟩)⟩, by trivial⟩, by omega⟩
      | exact ⟨j + 1, kc, kn + 1, (Less.cons rfl (Less.cons rfl (Less.cons rfl (Less.cons rfl (Less.cons rfl (Less.cons rfl (Less.cons rfl (Less.cons rfl (Less.cons rfl (Less.cons rfl (Less.cons rfl (Less.nil _)))))))))))), ⟨by omega, by omega, by omega, hz.trans (crossless_miss (fun x => by unfold crossAt at x; omega)).symm, by trivial⟩, by omega⟩
      | exact ⟨j + 1, kc, kn, (Less.cons rfl (Less.cons rfl (Less.cons rfl (Less.cons rfl (Less.cons rfl (Less.cons rfl (Less.cons rfl (Less.cons rfl (Less.cons rfl (Less.cons rfl (Less.cons rfl (Less.nil _)))))))))))), ⟨by omega, by omega, by omega, hz.trans (crossless_miss (fun x => by unfold crossAt at x; omega)).symm, by trivial⟩, by omega⟩
      | exact ⟨i + 1, kc, kn, (Less.cons rfl (Less.cons rfl (Less.cons rfl (Less.cons rfl (Less.cons rfl (Less.cons rfl (Less.nil _))))))), ⟨by omega, by omega, by omega, hz.trans (crossless_row (by omega)).symm, by trivial⟩, by omega⟩
  · exact ⟨⟨kc, kn, rfl, hz.trans (crossless_all i (by omega))⟩, rfl⟩

theorem beq_zero (k : Nat) : ((k : Int) == 0) = decide (k = 0) := by
  cases k <;> rfl
theorem isNC_of {l : List Int} (h : isM l = true) {p : Prop} [Decidable p] (g : p ↔ ∀ a, a < l.length → ∀ c, c < l.length → ¬ crossAt l a c) : decide p = isNC l := by
  unfold isNC
  rw [h, Bool.true_and]
  exact decide_eq_decide.2 g

theorem iCrossingsOf_ok (l : List Int) (b N C : Nat) (h0 : H) (hb : Has h0 b (ints l)) (hN : N = l.length) : AC env 137 [.slice b 0 N C] h0 fun v h' => (∃ k : Int, v = .int .i64 k ∧ (k == 0) = isNC l) ∧ h' = h0 := by
  subst hN
  by_cases hm : isM l = true
  · have hl := (isM_spec hm).1
    refine AC.enter Try.func137 Try.call137 rfl Try.ntmps137 (of_decide_eq_true (by rfl)) ?_
    repeat' (first
      | refine AW.seq ?_
      | (refine AW.region ?_; conv => whnf)
      | (refine AW.skip ?_; conv => whnf)
      | (refine AW.ret ?_; conv => whnf)
      | refine AW.cond (by rfl) ?_
      | (refine (iIsMatching_ok _ _ _ _ _ (by first | assumption | exact St.has (by assumption) (by repeat first | exact .head _ | apply List.Mem.tail) | exact St.arg (by assumption) (by assumption)) (by first | rfl | omega)).mono ?_; rintro v h' ⟨rfl, e'⟩; subst h'; conv => whnf)
      | (refine (arcs_ok _ _ _ _ _ (by first | assumption | exact St.has (by assumption) (by repeat first | exact .head _ | apply List.Mem.tail) | exact St.arg (by assumption) (by assumption)) (by first | rfl | omega) (by first | (simp; done) | omega | (simp only [List.length_set, List.length_append, List.length_cons, List.length_nil, List.length_replicate, tab_length]; omega) | (simp; omega))).mono ?_; rintro v h' ⟨⟨kc, kn, rfl, hk⟩, e'⟩; subst h'; conv => whnf)
      | refine Br.not ?_
      | (refine Br.t (by assumption) ?_; conv => whnf))
    exact ⟨⟨_, rfl, (by rw [← isNC_of hm hk, beq_zero])⟩, rfl⟩
  · have hm : isM l = false := by simpa using hm
    refine AC.enter Try.func137 Try.call137 rfl Try.ntmps137 (of_decide_eq_true (by rfl)) ?_
    repeat' (first
      | refine AW.seq ?_
      | (refine AW.region ?_; conv => whnf)
      | (refine AW.ret ?_; conv => whnf)
      | refine AW.cond (by rfl) ?_
      | (refine (iIsMatching_ok _ _ _ _ _ (by first | assumption | exact St.has (by assumption) (by repeat first | exact .head _ | apply List.Mem.tail) | exact St.arg (by assumption) (by assumption)) (by first | rfl | omega)).mono ?_; rintro v h' ⟨rfl, e'⟩; subst h'; conv => whnf)
      | refine Br.not ?_
      | (refine Br.f (by assumption) ?_; conv => whnf))
    exact ⟨⟨_, rfl, by unfold isNC; rw [hm]; rfl⟩, rfl⟩

theorem iIsNC_ok (l : List Int) (b N C : Nat) (h0 : H) (hb : Has h0 b (ints l)) (hN : N = l.length) : AC env 103 [.slice b 0 N C] h0 fun v h' => v = .bool (isNC l) ∧ h' = h0 := by
  subst hN
  refine AC.enter Try.func103 Try.call103 rfl Try.ntmps103 (of_decide_eq_true (by rfl)) ?_
  repeat' (first
    | refine AW.seq ?_
    | (refine AW.region ?_; conv => whnf)
    | (refine AW.ret ?_; conv => whnf)
    | (refine (iCrossingsOf_ok _ _ _ _ _ (by first | assumption | exact St.has (by assumption) (by repeat first | exact .head _ | apply List.Mem.tail) | exact St.arg (by assumption) (by assumption)) (by first | rfl | omega)).mono ?_; rintro v h' ⟨⟨kc, rfl, hk⟩, e'⟩; subst h'; conv => whnf))
  exact ⟨congrArg AV.bool hk, rfl⟩

def isD (l : List Int) : Bool := decide (2 ≤ (l.length : Int)) && isNC l
theorem isD_spec {l : List Int} (h : isD l = true) : 2 ≤ l.length ∧ isNC l = true := by
  unfold isD at h
  simp only [Bool.and_eq_true, decide_eq_true_eq] at h
  exact ⟨by omega, h.2⟩

theorem iIsDiagram_ok (l : List Int) (b N C : Nat) (h0 : H) (hb : Has h0 b (ints l)) (hN : N = l.length) : AC env 32 [.slice b 0 N C] h0 fun v h' => v = .bool (isD l) ∧ h' = h0 := by
  subst hN
  refine AC.enter Try.func32 Try.call32 rfl Try.ntmps32 (of_decide_eq_true (by rfl)) ?_
  repeat' (first
    | refine AW.seq ?_
    | (refine AW.region ?_; conv => whnf)
    | (refine AW.ret ?_; conv => whnf)
    | (refine (iIsNC_ok _ _ _ _ _ (by first | assumption | exact St.has (by assumption) (by repeat first | exact .head _ | apply List.Mem.tail) | exact St.arg (by assumption) (by assumption)) (by first | rfl | omega)).mono ?_; rintro v h' ⟨rfl, e'⟩; subst h'; conv => whnf)
    | (refine Br.dt (by omega) ?_; conv => whnf)
    | (refine Br.df (by omega) ?_; conv => whnf)
    | (refine Br.dec (fun hc => ?_) (fun hc => ?_) <;> conv => whnf))
  all_goals refine ⟨congrArg AV.bool ?_, rfl⟩
  · rw [isD, decide_eq_true (by omega), Bool.true_and]
  · rw [isD, decide_eq_false (by omega), Bool.false_and]

theorem sCrossingsOf_ok (l : List Int) (b N C : Nat) (h0 : H) (hb : Has h0 b (ints l)) (hN : N = l.length) (hl : l.length ≤ 100000000) : AC env 138 [.slice b 0 N C] h0 fun v h' => (∃ k : Int, v = .int .i64 k ∧ (k == 0) = isNC l) ∧ h' = h0 := by
  subst hN
  by_cases hm : isM l = true
  · have hl := (isM_spec hm).1
    refine AC.enter Try.func138 Try.call138 rfl Try.ntmps138 (of_decide_eq_true (by rfl)) ?_
    repeat' (first
      | refine AW.seq ?_
      | (refine AW.region ?_; conv => whnf)
      | refine AW.block ?_
      | (refine AW.skip ?_; conv => whnf)
      | refine AW.cond (by rfl) ?_
      | (refine (sIsMatching_ok _ _ _ _ _ (by first | assumption | exact St.has (by assumption) (by repeat first | exact .head _ | apply List.Mem.tail) | exact St.arg (by assumption) (by assumption)) (by first | rfl | omega) (by first | (simp; done) | omega | (simp only [List.length_set, List.length_append, List.length_cons, List.length_nil, List.length_replicate, tab_length]; omega) | (simp; omega))).mono ?_; rintro v h' ⟨rfl, e'⟩; subst h'; conv => whnf)
      | refine Br.not ?_
      | (refine Br.t (by assumption) ?_; conv => whnf))
    refine AW.loop2 (fun (i kc : Nat) => [(0, .slice b 0 l.length C), (3, .int .i64 kc), (4, .int .i64 i)]) (fun i kc h' => i ≤ l.length ∧ kc ≤ 16 * i ∧ (kc = 0 ↔ crossless l i 0) ∧ h' = h0) (fun i _ => l.length - i) 0 0
      (Less.cons rfl (Less.cons rfl (Less.cons rfl (Less.nil _)))) ⟨by omega, by omega, ⟨fun _ => crossless_zero l, fun _ => rfl⟩, rfl⟩ ?_
    rintro i kc h1 ⟨hi, hc1, hz, rfl⟩
    repeat' (first
      | refine AW.seq ?_
      | (refine AW.region ?_; conv => whnf)
      | refine AW.block ?_
      | (refine AW.skip ?_; conv => whnf)
      | (refine AW.ret ?_; conv => whnf)
      | (refine AW.exit ?_; conv => whnf)
      | refine AW.cond (by rfl) ?_
      | (refine Br.dec (fun hc => ?_) (fun hc => ?_) <;> conv => whnf)
      | (refine Wr.i64 (by omega) ?_; conv => whnf))
    · refine AW.loop2 (fun (j kc : Nat) => [(0, .slice b 0 l.length C), (3, .int .i64 kc), (4, .int .i64 i), (5, .int .i64 j)])
        (fun j kc h' => (i < j ∧ j ≤ l.length) ∧ kc ≤ 16 * i + j ∧ (kc = 0 ↔ crossless l i j) ∧ h' = h1) (fun j _ => l.length - j) (i + 1) kc
        (Less.cons rfl (Less.cons rfl (Less.cons rfl (Less.cons rfl (Less.nil _))))) ⟨by omega, by omega, hz.trans crossless_start.symm, rfl⟩ ?_
      rintro j kc h2 ⟨hj, hc2, hz, rfl⟩
      repeat' (first
        | refine AW.seq ?_
        | (refine AW.region ?_; conv => whnf)
        | refine AW.block ?_
        | (refine AW.skip ?_; conv => whnf)
        | (refine AW.exit ?_; conv => whnf)
        | refine AW.cond (by rfl) ?_
        | (refine AW.draw (id := 10) (.p 0 (.p 1 (.p 2 (.p 3 (.r 4 [5, 6, 7, 8, 9, 10, 11, 12, 13, 14, 15, 16] (.p 5 (.p 6 (.p 7 (.p 8 (.p 9 (.p 11 (.p 12 (.p 13 (.r 10 [15, 16] (.r 14 [15, 16] (.p 15 (.p 16 .done))))))))))))))))) (by kernel_rfl) (by kernel_rfl) ?_; conv => whnf)
        | (refine Br.ff ?_; conv => whnf)
        | (refine Br.dt (by omega) ?_; conv => whnf)
        | (refine Br.df (by omega) ?_; conv => whnf)
        | (refine Br.dec (fun hc => ?_) (fun hc => ?_) <;> conv => whnf)
        | (refine Wr.i64 (by omega) ?_; conv => whnf)
        | (refine Ck.mk (by omega) ?_; conv => whnf)
        | (refine Has.loadZ (by first | assumption | exact St.has (by assumption) (by repeat first | exact .head _ | apply List.Mem.tail) | exact St.arg (by assumption) (by assumption)) rfl (by first | (simp; done) | omega | (simp only [List.length_set, List.length_append, List.length_cons, List.length_nil, List.length_replicate, tab_length]; omega) | (simp; omega)) ?_; conv => whnf))
      all_goals (try simp only [Int.toNat_natCast] at *)
      all_goals first
        | exact ⟨j + 1, kc + 1, (Less.cons rfl (Less.cons rfl (Less.cons rfl (Less.cons rfl (Less.nil _))))), ⟨by omega, by omega, ⟨fun e => by omega, fun e => absurd e (crossless_hit (by omega) ⟨by omega, by omega, by omega⟩)⟩, by trivial⟩, by omega⟩
        | exact ⟨j + 1, kc, (Less.cons rfl (Less.cons rfl (Less.cons rfl (Less.cons rfl (Less.nil _))))), ⟨by omega, by omega, hz.trans (crossless_miss (fun x => by unfold crossAt at x; omega)).symm, by trivial⟩, by omega⟩
        | exact ⟨i + 1, kc, (Less.cons rfl (Less.cons rfl (Less.cons rfl (Less.nil _)))), ⟨by omega, by omega, hz.trans (crossless_row (by omega)).symm, by trivial⟩, by omega⟩
    · exact ⟨⟨kc, rfl, by rw [← isNC_of hm (hz.trans (crossless_all i (by omega))), beq_zero]⟩, rfl⟩
  · have hm : isM l = false := by simpa using hm
    refine AC.enter Try.func138 Try.call138 rfl Try.ntmps138 (of_decide_eq_true (by rfl)) ?_
    repeat' (first
      | refine AW.seq ?_
      | (refine AW.region ?_; conv => whnf)
      | (refine AW.ret ?_; conv => whnf)
      | refine AW.cond (by rfl) ?_
      | (refine (sIsMatching_ok _ _ _ _ _ (by first | assumption | exact St.has (by assumption) (by repeat first | exact .head _ | apply List.Mem.tail) | exact St.arg (by assumption) (by assumption)) (by first | rfl | omega) (by first | (simp; done) | omega | (simp only [List.length_set, List.length_append, List.length_cons, List.length_nil, List.length_replicate, tab_length]; omega) | (simp; omega))).mono ?_; rintro v h' ⟨rfl, e'⟩; subst h'; conv => whnf)
      | refine Br.not ?_
      | (refine Br.f (by assumption) ?_; conv => whnf))
    exact ⟨⟨_, rfl, by unfold isNC; rw [hm]; rfl⟩, rfl⟩

theorem sIsNC_ok (l : List Int) (b N C : Nat) (h0 : H) (hb : Has h0 b (ints l)) (hN : N = l.length) (hl : l.length ≤ 100000000) : AC env 106 [.slice b 0 N C] h0 fun v h' => v = .bool (isNC l) ∧ h' = h0 := by
  subst hN
  refine AC.enter Try.func106 Try.call106 rfl Try.ntmps106 (of_decide_eq_true (by rfl)) ?_
  repeat' (first
    | refine AW.seq ?_
    | (refine AW.region ?_; conv => whnf)
    | (refine AW.ret ?_; conv => whnf)
    | (refine (sCrossingsOf_ok _ _ _ _ _ (by first | assumption | exact St.has (by assumption) (by repeat first | exact .head _ | apply List.Mem.tail) | exact St.arg (by assumption) (by assumption)) (by first | rfl | omega) (by first | (simp; done) | omega | (simp only [List.length_set, List.length_append, List.length_cons, List.length_nil, List.length_replicate, tab_length]; omega) | (simp; omega))).mono ?_; rintro v h' ⟨⟨kc, rfl, hk⟩, e'⟩; subst h'; conv => whnf))
  exact ⟨congrArg AV.bool hk, rfl⟩

theorem sIsDiagram_ok (l : List Int) (b N C : Nat) (h0 : H) (hb : Has h0 b (ints l)) (hN : N = l.length) (hl : l.length ≤ 100000000) : AC env 33 [.slice b 0 N C] h0 fun v h' => v = .bool (isD l) ∧ h' = h0 := by
  subst hN
  refine AC.enter Try.func33 Try.call33 rfl Try.ntmps33 (of_decide_eq_true (by rfl)) ?_
  repeat' (first
    | refine AW.seq ?_
    | (refine AW.region ?_; conv => whnf)
    | (refine AW.ret ?_; conv => whnf)
    | (refine (sIsNC_ok _ _ _ _ _ (by first | assumption | exact St.has (by assumption) (by repeat first | exact .head _ | apply List.Mem.tail) | exact St.arg (by assumption) (by assumption)) (by first | rfl | omega) (by first | (simp; done) | omega | (simp only [List.length_set, List.length_append, List.length_cons, List.length_nil, List.length_replicate, tab_length]; omega) | (simp; omega))).mono ?_; rintro v h' ⟨rfl, e'⟩; subst h'; conv => whnf)
    | (refine Br.dt (by omega) ?_; conv => whnf)
    | (refine Br.df (by omega) ?_; conv => whnf)
    | (refine Br.dec (fun hc => ?_) (fun hc => ?_) <;> conv => whnf))
  all_goals refine ⟨congrArg AV.bool ?_, rfl⟩
  · rw [isD, decide_eq_true (by omega), Bool.true_and]
  · rw [isD, decide_eq_false (by omega), Bool.false_and]

/-- the arcs from above to below, among the first points -/
def thrTo (l : List Int) : Nat → Nat
  | 0 => 0
  | i + 1 => thrTo l i + if ((l.length / 2 : Nat) : Int) ≤ l.getD i 0 then 1 else 0
theorem thrTo_le (l : List Int) : ∀ i, thrTo l i ≤ i
  | 0 => Nat.le_refl _
  | i + 1 => by
    have := thrTo_le l i
    simp only [thrTo]
    split <;> omega
def thr (l : List Int) : Int := if isD l = true then (thrTo l (l.length / 2) : Int) else -1

theorem half_len (n : Nat) : (n : Int).tdiv 2 = ((n / 2 : Nat) : Int) := rfl

theorem iThroughOf_ok (l : List Int) (b N C : Nat) (h0 : H) (hb : Has h0 b (ints l)) (hN : N = l.length) (hC : N ≤ C) : AC env 21 [.slice b 0 N C] h0 fun v h' => v = .int .i64 (thr l) ∧ h' = h0 := by
  subst hN
  by_cases hd : isD l = true
  · have hl := (isM_spec (isNC_spec (isD_spec hd).2)).1
    have e2 := half_len l.length
    rw [show thr l = (thrTo l (l.length / 2) : Int) from if_pos hd]
    refine AC.enter Try.func21 Try.call21 rfl Try.ntmps21 (of_decide_eq_true (by rfl)) ?_
    repeat' (first
      | refine AW.seq ?_
      | (refine AW.region ?_; conv => whnf)
      | refine AW.block ?_
      | (refine AW.skip ?_; conv => whnf)
      | refine AW.cond (by rfl) ?_
      | (refine (iIsDiagram_ok _ _ _ _ _ (by first | assumption | exact St.has (by assumption) (by repeat first | exact .head _ | apply List.Mem.tail) | exact St.arg (by assumption) (by assumption)) (by first | rfl | omega)).mono ?_; rintro v h' ⟨rfl, e'⟩; subst h'; conv => whnf)
      | refine Br.not ?_
      | (refine Br.t (by assumption) ?_; conv => whnf)
      | (refine Wr.i64 (by omega) ?_; conv => whnf)
      | (refine Ck.mk (by omega) ?_; conv => whnf))
    refine AW.loop2 (fun (k i : Nat) => [(3, .int .i64 (k : Nat)), (4, .int .i64 (l.length / 2 : Nat)), (15, .slice b 0 (l.length / 2) C), (16, .int .i64 (l.length / 2 : Nat)), (17, .int .i64 i)]) (fun k i h' => i ≤ l.length / 2 ∧ k = thrTo l i ∧ h' = h0) (fun _ i => l.length - i) 0 0
      (Less.cons rfl (Less.cons rfl (Less.cons rfl (Less.cons rfl (Less.cons rfl (Less.nil _)))))) ⟨by omega, rfl, rfl⟩ ?_
    rintro k i h1 ⟨hi, rfl, rfl⟩
    have b1 := thrTo_le l i
    repeat' (first
      | refine AW.seq ?_
      | (refine AW.region ?_; conv => whnf)
      | refine AW.block ?_
      | (refine AW.skip ?_; conv => whnf)
      | (refine AW.ret ?_; conv => whnf)
      | (refine AW.exit ?_; conv => whnf)
      | refine AW.cond (by rfl) ?_
      | (refine Br.dec (fun hc => ?_) (fun hc => ?_) <;> conv => whnf)
      | (refine Wr.i64 (by omega) ?_; conv => whnf)
      | (refine Ck.mk (by omega) ?_; conv => whnf)
      | (refine Has.loadZ (by first | assumption | exact St.has (by assumption) (by repeat first | exact .head _ | apply List.Mem.tail) | exact St.arg (by assumption) (by assumption)) rfl (by first | (simp; done) | omega | (simp only [List.length_set, List.length_append, List.length_cons, List.length_nil, List.length_replicate, tab_length]; omega) | (simp; omega)) ?_; conv => whnf))
    all_goals (try simp only [Int.toNat_natCast] at *)
    · exact ⟨thrTo l i + 1, i + 1, (Less.cons rfl (Less.cons rfl (Less.cons rfl (Less.cons rfl (Less.cons rfl (Less.nil _)))))), ⟨by omega, by rw [thrTo, if_pos (by omega)], by trivial⟩, by omega⟩
    · exact ⟨thrTo l i, i + 1, (Less.cons rfl (Less.cons rfl (Less.cons rfl (Less.cons rfl (Less.cons rfl (Less.nil _)))))), ⟨by omega, by rw [thrTo, if_neg (by omega)]; rfl, by trivial⟩, by omega⟩
    · rw [show i = l.length / 2 by omega]
      exact ⟨rfl, by trivial⟩
  · have hd : isD l = false := by simpa using hd
    refine AC.enter Try.func21 Try.call21 rfl Try.ntmps21 (of_decide_eq_true (by rfl)) ?_
    repeat' (first
      | refine AW.seq ?_
      | (refine AW.region ?_; conv => whnf)
      | (refine AW.ret ?_; conv => whnf)
      | refine AW.cond (by rfl) ?_
      | (refine (iIsDiagram_ok _ _ _ _ _ (by first | assumption | exact St.has (by assumption) (by repeat first | exact .head _ | apply List.Mem.tail) | exact St.arg (by assumption) (by assumption)) (by first | rfl | omega)).mono ?_; rintro v h' ⟨rfl, e'⟩; subst h'; conv => whnf)
      | refine Br.not ?_
      | (refine Br.f (by assumption) ?_; conv => whnf))
    exact ⟨by rw [thr, hd]; rfl, rfl⟩

theorem sThroughOf_ok (l : List Int) (b N C : Nat) (h0 : H) (hb : Has h0 b (ints l)) (hN : N = l.length) (hl : l.length ≤ 100000000) : AC env 35 [.slice b 0 N C] h0 fun v h' => v = .int .i64 (thr l) ∧ h' = h0 := by
  subst hN
  by_cases hd : isD l = true
  · have hl := (isM_spec (isNC_spec (isD_spec hd).2)).1
    have e2 := half_len l.length
    rw [show thr l = (thrTo l (l.length / 2) : Int) from if_pos hd]
    refine AC.enter Try.func35 Try.call35 rfl Try.ntmps35 (of_decide_eq_true (by rfl)) ?_
    repeat' (first
      | refine AW.seq ?_
      | (refine AW.region ?_; conv => whnf)
      | refine AW.block ?_
      | (refine AW.skip ?_; conv => whnf)
      | refine AW.cond (by rfl) ?_
      | (refine (sIsDiagram_ok _ _ _ _ _ (by first | assumption | exact St.has (by assumption) (by repeat first | exact .head _ | apply List.Mem.tail) | exact St.arg (by assumption) (by assumption)) (by first | rfl | omega) (by first | (simp; done) | omega | (simp only [List.length_set, List.length_append, List.length_cons, List.length_nil, List.length_replicate, tab_length]; omega) | (simp; omega))).mono ?_; rintro v h' ⟨rfl, e'⟩; subst h'; conv => whnf)
      | refine Br.not ?_
      | (refine Br.t (by assumption) ?_; conv => whnf))
    refine AW.loop2 (fun (k i : Nat) => [(0, .slice b 0 l.length C), (3, .int .i64 (k : Nat)), (4, .int .i64 i)]) (fun k i h' => i ≤ l.length / 2 ∧ k = thrTo l i ∧ h' = h0) (fun _ i => l.length - i) 0 0
      (Less.cons rfl (Less.cons rfl (Less.cons rfl (Less.nil _)))) ⟨by omega, rfl, rfl⟩ ?_
    rintro k i h1 ⟨hi, rfl, rfl⟩
    have b1 := thrTo_le l i
    repeat' (first
      | refine AW.seq ?_
      | (refine AW.region ?_; conv => whnf)
      | refine AW.block ?_
      | (refine AW.skip ?_; conv => whnf)
      | (refine AW.ret ?_; conv => whnf)
      | (refine AW.exit ?_; conv => whnf)
      | refine AW.cond (by rfl) ?_
      | (refine Br.dec (fun hc => ?_) (fun hc => ?_) <;> conv => whnf)
      | (refine Wr.i64 (by omega) ?_; conv => whnf)
      | (refine Ck.mk (by omega) ?_; conv => whnf)
      | (refine Has.loadZ (by first | assumption | exact St.has (by assumption) (by repeat first | exact .head _ | apply List.Mem.tail) | exact St.arg (by assumption) (by assumption)) rfl (by first | (simp; done) | omega | (simp only [List.length_set, List.length_append, List.length_cons, List.length_nil, List.length_replicate, tab_length]; omega) | (simp; omega)) ?_; conv => whnf))
    all_goals (try simp only [Int.toNat_natCast] at *)
    · exact ⟨thrTo l i + 1, i + 1, (Less.cons rfl (Less.cons rfl (Less.cons rfl (Less.nil _)))), ⟨by omega, by rw [thrTo, if_pos (by omega)], by trivial⟩, by omega⟩
    · exact ⟨thrTo l i, i + 1, (Less.cons rfl (Less.cons rfl (Less.cons rfl (Less.nil _)))), ⟨by omega, by rw [thrTo, if_neg (by omega)]; rfl, by trivial⟩, by omega⟩
    · rw [show i = l.length / 2 by omega]
      exact ⟨rfl, by trivial⟩
  · have hd : isD l = false := by simpa using hd
    refine AC.enter Try.func35 Try.call35 rfl Try.ntmps35 (of_decide_eq_true (by rfl)) ?_
    repeat' (first
      | refine AW.seq ?_
      | (refine AW.region ?_; conv => whnf)
      | (refine AW.ret ?_; conv => whnf)
      | refine AW.cond (by rfl) ?_
      | (refine (sIsDiagram_ok _ _ _ _ _ (by first | assumption | exact St.has (by assumption) (by repeat first | exact .head _ | apply List.Mem.tail) | exact St.arg (by assumption) (by assumption)) (by first | rfl | omega) (by first | (simp; done) | omega | (simp only [List.length_set, List.length_append, List.length_cons, List.length_nil, List.length_replicate, tab_length]; omega) | (simp; omega))).mono ?_; rintro v h' ⟨rfl, e'⟩; subst h'; conv => whnf)
      | refine Br.not ?_
      | (refine Br.f (by assumption) ?_; conv => whnf))
    exact ⟨by rw [thr, hd]; rfl, rfl⟩


/-- a law's row, in its two forms -/
theorem intsArg_two {h : H} {v : AV} (m : IntsArg h v) : ∃ l, bdI l ∧ l.length ≤ 9223372036854775807 ∧ CellsAt h v (ints l) ∧ ((v = .nilslice ∧ l = []) ∨ ∃ b c, v = .slice b 0 l.length c) := by
  obtain ⟨l, bd, hl, hv⟩ := m
  refine ⟨l, bd, hl, hv, ?_⟩
  rcases hv with ⟨rfl, e⟩ | ⟨b, c, rfl, hb⟩
  · exact .inl ⟨rfl, List.eq_nil_of_length_eq_zero (by rw [← ints_length, e]; rfl)⟩
  · exact .inr ⟨b, c, by rw [ints_length]⟩



end Go.Proofs.Ytdfdlnjijccpeaa
