/-
  Contracts of words of Fuss that are joined, ranked and split are proved.
  They hold for all arguments.
-/
import Derived.Test.YtdfdlnjijccpeaaC20
set_option linter.unusedVariables false
set_option linter.unusedSimpArgs false
namespace Go.Proofs.Ytdfdlnjijccpeaa
open Go.Proofs.Ytdfdlnjijccpeaa.Ab Go.Proofs.Ytdfdlnjijccpeaa.Pl

theorem strsArg_two {h : H} {v : AV} (m : StrsArg h v) : ∃ l, (∀ s ∈ l, s.length ≤ 9223372036854775807) ∧ l.length ≤ 9223372036854775807 ∧ CellsAt h v (strs l) ∧ ((v = .nilslice ∧ l = []) ∨ ∃ b c, v = .slice b 0 l.length c) := by
  obtain ⟨l, bd, hl, hv⟩ := m
  refine ⟨l, bd, hl, hv, ?_⟩
  rcases hv with ⟨rfl, e⟩ | ⟨b, c, rfl, hb⟩
  · exact .inl ⟨rfl, List.eq_nil_of_length_eq_zero (by rw [← strs_length, e]; rfl)⟩
  · exact .inr ⟨b, c, by rw [strs_length]⟩
theorem getD_bd {l : List (List UInt8)} {M : Nat} (h : ∀ s ∈ l, s.length ≤ M) (i : Nat) : (l.getD i []).length ≤ M := by
  by_cases hi : i < l.length
  · rw [List.getD, List.getElem?_eq_getElem hi]
    exact h _ (List.getElem_mem hi)
  · rw [List.getD, List.getElem?_eq_none (by omega)]
    exact Nat.zero_le _



/-- words that are joined by d, so many of them -/
def glueTo (l : List (List UInt8)) : Nat → List UInt8
  | 0 => []
  | i + 1 => (glueTo l i ++ (if 0 < i then [100] else [])) ++ l.getD i []
theorem glueTo_len {l : List (List UInt8)} (h : ∀ i, (l.getD i []).length ≤ 24) : ∀ i, (glueTo l i).length ≤ 25 * i := by
  intro i
  induction i with
  | zero => simp [glueTo]
  | succ i ih =>
    have := h i
    simp only [glueTo, List.length_append]
    split <;> simp only [List.length_cons, List.length_nil] <;> omega
def joinOk (m : Int) (l : List (List UInt8)) : Prop := (1 ≤ m ∧ m ≤ 4) ∧ (l.length : Int) = m ∧ (∀ i, i < l.length → isFuss m (l.getD i []) = true) ∧ isFuss m (117 :: glueTo l l.length) = true
instance (m : Int) (l : List (List UInt8)) : Decidable (joinOk m l) := by unfold joinOk; infer_instance
def joinF (m : Int) (l : List (List UInt8)) : List UInt8 × Bool := if joinOk m l then (117 :: glueTo l l.length, true) else ([], false)
theorem isFuss_len {m : Int} {w : List UInt8} (h : isFuss m w = true) : (1 ≤ m ∧ m ≤ 4) ∧ w.length ≤ 24 := by
  unfold isFuss at h
  simp only [Bool.and_eq_true, decide_eq_true_eq] at h
  exact h.1

theorem glued_ok (l : List (List UInt8)) (b C : Nat) (h0 : H) (hb : Has h0 b (strs l)) (hl : l.length ≤ 4) (hw : ∀ i, (l.getD i []).length ≤ 24) : AC env 117 [.slice b 0 l.length C, .str [100]] h0 fun v h' => v = .str (glueTo l l.length) ∧ h' = h0 := by
  refine AC.enter Try.func117 Try.call117 rfl Try.ntmps117 (of_decide_eq_true (by rfl)) ?_
  repeat' (first
    | refine AW.seq ?_
    | (refine AW.region ?_; conv => whnf)
    | refine AW.block ?_)
  refine AW.loop2 (fun (s : List UInt8) (i : Nat) => [(1, .str [100]), (5, .str s), (8, .slice b 0 l.length C), (9, .int .i64 l.length), (10, .int .i64 i)]) (fun s i h' => i ≤ l.length ∧ s = glueTo l i ∧ h' = h0) (fun _ i => l.length - i) [] 0
    (Less.cons rfl (Less.cons rfl (Less.cons rfl (Less.cons rfl (Less.cons rfl (Less.nil _)))))) ⟨by omega, rfl, rfl⟩ ?_
  rintro s i h1 ⟨hi, rfl, rfl⟩
  have bi : (l.getD (i : Int).toNat []).length ≤ 24 := hw i
  have bg := glueTo_len hw i
  repeat' (first
    | refine AW.seq ?_
    | (refine AW.region ?_; conv => whnf)
    | refine AW.block ?_
    | (refine AW.skip ?_; conv => whnf)
    | (refine AW.ret ?_; conv => whnf)
    | (refine AW.exit ?_; conv => whnf)
    | refine AW.cond (by rfl) ?_
    | (refine Br.dec (fun hc => ?_) (fun hc => ?_) <;> conv => whnf)
    | (refine Wr.i64 (by omega) ?_; conv => whnf)
    | (refine Ck.mk (by omega) ?_; conv => whnf)
    | (refine Ck.mk (by simp only [List.length_drop, List.length_take, List.length_append, List.length_cons, List.length_nil]; omega) ?_; conv => whnf)
    | (refine Has.loadS (by first | assumption | exact St.has (by assumption) (by repeat first | exact .head _ | apply List.Mem.tail) | exact St.arg (by assumption) (by assumption)) rfl (by first | (simp; done) | omega | (simp only [List.length_set, List.length_append, List.length_cons, List.length_nil, List.length_replicate, tab_length]; omega) | (simp; omega)) ?_; conv => whnf))
  · exact ⟨_, i + 1, (Less.cons rfl (Less.cons rfl (Less.cons rfl (Less.cons rfl (Less.cons rfl (Less.nil _)))))), ⟨by omega, by rw [glueTo, if_pos (by omega)]; rfl, rfl⟩, by omega⟩
  · exact ⟨_, i + 1, (Less.cons rfl (Less.cons rfl (Less.cons rfl (Less.cons rfl (Less.cons rfl (Less.nil _)))))), ⟨by omega, by rw [glueTo, if_neg (by omega), List.append_nil]; rfl, rfl⟩, by omega⟩
  · rw [show i = l.length by omega]
    exact ⟨rfl, rfl⟩

theorem iJoinFuss_ok (m : Int) (l : List (List UInt8)) (b C : Nat) (h0 : H) (hm : -9223372036854775808 ≤ m ∧ m ≤ 9223372036854775807) (bd : ∀ s ∈ l, s.length ≤ 9223372036854775807) (hb : Has h0 b (strs l)) (hl : l.length ≤ 100000000) : AC env 51 [.int .i64 m, .slice b 0 l.length C] h0 fun v h' => v = .tup [.str (joinF m l).1, .bool (joinF m l).2] ∧ h' = h0 := by
  have no : ¬ joinOk m l → joinF m l = ([], false) := fun h => if_neg h
  by_cases hr : (1 ≤ m ∧ m ≤ 4) ∧ (l.length : Int) = m
  · refine AC.enter Try.func51 Try.call51 rfl Try.ntmps51 (of_decide_eq_true (by rfl)) ?_
    repeat' (first
      | refine AW.seq ?_
      | (refine AW.region ?_; conv => whnf)
      | refine AW.block ?_
      | (refine AW.skip ?_; conv => whnf)
      | refine AW.cond (by rfl) ?_
      | (refine (within_ok _ _ _ _).mono ?_; rintro v h' ⟨rfl, e'⟩; subst h'; conv => whnf)
      | refine Br.not ?_
      | (refine Br.dt (by omega) ?_; conv => whnf))
    refine AW.loop1 (fun (i : Nat) => [(0, .int .i64 m), (1, .slice b 0 l.length C), (18, .slice b 0 l.length C), (19, .int .i64 l.length), (20, .int .i64 i)]) (fun i h' => i ≤ l.length ∧ (∀ j, j < i → isFuss m (l.getD j []) = true) ∧ h' = h0) (fun i => l.length - i) 0
      (Less.cons rfl (Less.cons rfl (Less.cons rfl (Less.cons rfl (Less.cons rfl (Less.nil _)))))) ⟨by omega, fun j hj => by omega, rfl⟩ ?_
    rintro i h1 ⟨hi, hall, rfl⟩
    have bi : (l.getD (i : Int).toNat []).length ≤ 9223372036854775807 := getD_bd bd i
    repeat' (first
      | refine AW.seq ?_
      | (refine AW.region ?_; conv => whnf)
      | refine AW.block ?_
      | (refine AW.skip ?_; conv => whnf)
      | (refine AW.ret ?_; conv => whnf)
      | (refine AW.exit ?_; conv => whnf)
      | refine AW.cond (by rfl) ?_
      | (refine (iIsFuss_ok _ _ (by first | omega | (simp only [List.length_drop, List.length_take, List.length_append, List.length_cons, List.length_nil]; omega)) (by first | omega | (simp only [List.length_drop, List.length_take, List.length_append, List.length_cons, List.length_nil]; omega)) _).mono ?_; rintro v h' ⟨rfl, e'⟩; subst h'; conv => whnf)
      | refine Br.not ?_
      | (refine Br.dec (fun hc => ?_) (fun hc => ?_) <;> conv => whnf)
      | (refine Br.mk (fun hc => ?_) (fun hc => ?_) <;> conv => whnf)
      | (refine Wr.i64 (by omega) ?_; conv => whnf)
      | (refine Ck.mk (by omega) ?_; conv => whnf)
      | (refine Has.loadS (by first | assumption | exact St.has (by assumption) (by repeat first | exact .head _ | apply List.Mem.tail) | exact St.arg (by assumption) (by assumption)) rfl (by first | (simp; done) | omega | (simp only [List.length_set, List.length_append, List.length_cons, List.length_nil, List.length_replicate, tab_length]; omega) | (simp; omega)) ?_; conv => whnf))
    · exact ⟨i + 1, (Less.cons rfl (Less.cons rfl (Less.cons rfl (Less.cons rfl (Less.cons rfl (Less.nil _)))))), ⟨by omega, fun j hj => by
        rcases Nat.lt_succ_iff_lt_or_eq.1 hj with h | rfl
        · exact hall j h
        · assumption, rfl⟩, by omega⟩
    · rw [no fun h => by have := h.2.2.1 i (by omega); rw [show isFuss m (l.getD i []) = false by assumption] at this; cases this]
      exact ⟨rfl, rfl⟩
    · have all : ∀ i, i < l.length → isFuss m (l.getD i []) = true := fun j hj => hall j (by omega)
      have hw : ∀ i, (l.getD i []).length ≤ 24 := fun j => by
        by_cases hj : j < l.length
        · exact (isFuss_len (all j hj)).2
        · rw [List.getD, List.getElem?_eq_none (by omega)]
          exact Nat.zero_le _
      have bg := glueTo_len hw l.length
      refine (glued_ok l b C _ hb (by omega) hw).mono ?_
      rintro v h' ⟨rfl, e'⟩
      subst h'
      conv => whnf
      repeat' (first
        | refine AW.seq ?_
        | (refine AW.region ?_; conv => whnf)
        | (refine AW.skip ?_; conv => whnf)
        | (refine AW.ret ?_; conv => whnf)
        | refine AW.cond (by rfl) ?_
        | (refine (iIsFuss_ok _ _ (by first | omega | (simp only [List.length_drop, List.length_take, List.length_append, List.length_cons, List.length_nil]; omega)) (by first | omega | (simp only [List.length_drop, List.length_take, List.length_append, List.length_cons, List.length_nil]; omega)) _).mono ?_; rintro v h' ⟨rfl, e'⟩; subst h'; conv => whnf)
        | refine Br.not ?_
        | (refine Br.mk (fun hc => ?_) (fun hc => ?_) <;> conv => whnf)
        | (refine Ck.mk (by simp only [List.length_drop, List.length_take, List.length_append, List.length_cons, List.length_nil]; omega) ?_; conv => whnf))
      · rw [show joinF m l = _ from if_pos ⟨hr.1, hr.2, all, by assumption⟩]
        exact ⟨rfl, rfl⟩
      · rw [no fun h => by have := h.2.2.2; rw [show isFuss m (117 :: glueTo l l.length) = false by assumption] at this; cases this]
        exact ⟨rfl, rfl⟩
  · rw [no fun h => hr ⟨h.1, h.2.1⟩]
    refine AC.enter Try.func51 Try.call51 rfl Try.ntmps51 (of_decide_eq_true (by rfl)) ?_
    repeat' (first
      | refine AW.seq ?_
      | (refine AW.region ?_; conv => whnf)
      | (refine AW.ret ?_; conv => whnf)
      | refine AW.cond (by rfl) ?_
      | (refine (within_ok _ _ _ _).mono ?_; rintro v h' ⟨rfl, e'⟩; subst h'; conv => whnf)
      | (refine Br.tt ?_; conv => whnf)
      | refine Br.not ?_
      | (refine Br.dt (by omega) ?_; conv => whnf)
      | (refine Br.df (by omega) ?_; conv => whnf)
      | (refine Br.dec (fun hc => ?_) (fun hc => ?_) <;> conv => whnf))
    all_goals first
      | exact ⟨rfl, rfl⟩
      | (exfalso; omega)

theorem sJoinFuss_ok (m : Int) (l : List (List UInt8)) (b C : Nat) (h0 : H) (hm : -9223372036854775808 ≤ m ∧ m ≤ 9223372036854775807) (bd : ∀ s ∈ l, s.length ≤ 9223372036854775807) (hb : Has h0 b (strs l)) (hl : l.length ≤ 100000000) : AC env 53 [.int .i64 m, .slice b 0 l.length C] h0 fun v h' => v = .tup [.str (joinF m l).1, .bool (joinF m l).2] ∧ h' = h0 := by
  have no : ¬ joinOk m l → joinF m l = ([], false) := fun h => if_neg h
  by_cases hr : (1 ≤ m ∧ m ≤ 4) ∧ (l.length : Int) = m
  · refine AC.enter Try.func53 Try.call53 rfl Try.ntmps53 (of_decide_eq_true (by rfl)) ?_
    repeat' (first
      | refine AW.seq ?_
      | (refine AW.region ?_; conv => whnf)
      | refine AW.block ?_
      | (refine AW.skip ?_; conv => whnf)
      | refine AW.cond (by rfl) ?_
      | (refine (l1In_ok _ _ _ _).mono ?_; rintro v h' ⟨rfl, e'⟩; subst h'; conv => whnf)
      | refine Br.not ?_
      | (refine Br.dt (by omega) ?_; conv => whnf))
    refine AW.loop2 (fun (s : List UInt8) (i : Nat) => [(0, .int .i64 m), (1, .slice b 0 l.length C), (6, .str s), (7, .int .i64 i)])
      (fun s i h' => i ≤ l.length ∧ (∀ j, j < i → isFuss m (l.getD j []) = true) ∧ s = [117] ++ (glueTo l i ++ if 0 < i ∧ i < l.length then [100] else []) ∧ s.length ≤ 25 * i + 2 ∧ h' = h0) (fun _ i => l.length - i) [117] 0
      (Less.cons rfl (Less.cons rfl (Less.cons rfl (Less.cons rfl (Less.nil _))))) ⟨by omega, fun j hj => by omega, rfl, by simp, rfl⟩ ?_
    rintro s i h1 ⟨hi, hall, hs, hsl, rfl⟩
    have bi : (l.getD (i : Int).toNat []).length ≤ 9223372036854775807 := getD_bd bd i
    by_cases hi2 : i < l.length
    · cases hf : isFuss m (l.getD (i : Int).toNat []) with
      | true =>
        have bi2 := (isFuss_len hf).2
        have hs2 : s ++ l.getD (i : Int).toNat [] = [117] ++ glueTo l (i + 1) := by
          rw [hs, glueTo]
          by_cases h0 : 0 < i
          · rw [if_pos ⟨h0, hi2⟩, if_pos h0]
            simp [List.append_assoc]
          · rw [if_neg (fun h => h0 h.1), if_neg h0]
            simp [List.append_assoc]
        have all : ∀ j, j < i + 1 → isFuss m (l.getD j []) = true := fun j hj => by
          rcases Nat.lt_succ_iff_lt_or_eq.1 hj with h | rfl
          · exact hall j h
          · exact hf
        repeat' (first
          | refine AW.seq ?_
          | (refine AW.region ?_; conv => whnf)
          | refine AW.block ?_
          | (refine AW.skip ?_; conv => whnf)
          | refine AW.cond (by rfl) ?_
          | (refine (sIsFuss_ok _ _ (by first | omega | (simp only [List.length_drop, List.length_take, List.length_append, List.length_cons, List.length_nil]; omega)) (by first | omega | (simp only [List.length_drop, List.length_take, List.length_append, List.length_cons, List.length_nil]; omega)) _).mono ?_; rintro v h' ⟨rfl, e'⟩; subst h'; conv => whnf)
          | refine Br.not ?_
          | (refine Br.t (by assumption) ?_; conv => whnf)
          | (refine Br.dt (by omega) ?_; conv => whnf)
          | (refine Br.dec (fun hc => ?_) (fun hc => ?_) <;> conv => whnf)
          | (refine Wr.i64 (by omega) ?_; conv => whnf)
          | (refine Ck.mk (by omega) ?_; conv => whnf)
          | (refine Ck.mk (by simp only [List.length_drop, List.length_take, List.length_append, List.length_cons, List.length_nil]; omega) ?_; conv => whnf)
          | (refine Has.loadS (by first | assumption | exact St.has (by assumption) (by repeat first | exact .head _ | apply List.Mem.tail) | exact St.arg (by assumption) (by assumption)) rfl (by first | (simp; done) | omega | (simp only [List.length_set, List.length_append, List.length_cons, List.length_nil, List.length_replicate, tab_length]; omega) | (simp; omega)) ?_; conv => whnf))
        · refine ⟨_, i + 1, (Less.cons rfl (Less.cons rfl (Less.cons rfl (Less.cons rfl (Less.nil _))))), ⟨by omega, all, ?_, ?_, rfl⟩, by omega⟩
          · rw [hs2, if_pos ⟨by omega, by omega⟩, List.append_assoc]
          · simp only [List.length_append, List.length_cons, List.length_nil]
            omega
        · refine ⟨_, i + 1, (Less.cons rfl (Less.cons rfl (Less.cons rfl (Less.cons rfl (Less.nil _))))), ⟨by omega, all, ?_, ?_, rfl⟩, by omega⟩
          · rw [hs2, if_neg (by omega), List.append_nil]
          · simp only [List.length_append]
            omega
      | false =>
        rw [no fun h => by have := h.2.2.1 i hi2; rw [show isFuss m (l.getD i []) = false from hf] at this; cases this]
        repeat' (first
          | refine AW.seq ?_
          | (refine AW.region ?_; conv => whnf)
          | refine AW.block ?_
          | (refine AW.skip ?_; conv => whnf)
          | (refine AW.ret ?_; conv => whnf)
          | refine AW.cond (by rfl) ?_
          | (refine (sIsFuss_ok _ _ (by first | omega | (simp only [List.length_drop, List.length_take, List.length_append, List.length_cons, List.length_nil]; omega)) (by first | omega | (simp only [List.length_drop, List.length_take, List.length_append, List.length_cons, List.length_nil]; omega)) _).mono ?_; rintro v h' ⟨rfl, e'⟩; subst h'; conv => whnf)
          | refine Br.not ?_
          | (refine Br.f (by assumption) ?_; conv => whnf)
          | (refine Br.dt (by omega) ?_; conv => whnf)
          | (refine Ck.mk (by omega) ?_; conv => whnf)
          | (refine Has.loadS (by first | assumption | exact St.has (by assumption) (by repeat first | exact .head _ | apply List.Mem.tail) | exact St.arg (by assumption) (by assumption)) rfl (by first | (simp; done) | omega | (simp only [List.length_set, List.length_append, List.length_cons, List.length_nil, List.length_replicate, tab_length]; omega) | (simp; omega)) ?_; conv => whnf))
        exact ⟨rfl, rfl⟩
    · have e : i = l.length := by omega
      subst e
      rw [if_neg (by omega), List.append_nil] at hs
      subst hs
      cases hf : isFuss m ([117] ++ glueTo l l.length) with
      | true =>
        rw [show joinF m l = (117 :: glueTo l l.length, true) from if_pos ⟨hr.1, hr.2, hall, hf⟩]
        repeat' (first
          | refine AW.seq ?_
          | (refine AW.region ?_; conv => whnf)
          | (refine AW.skip ?_; conv => whnf)
          | (refine AW.ret ?_; conv => whnf)
          | (refine AW.exit ?_; conv => whnf)
          | refine AW.cond (by rfl) ?_
          | (refine (sIsFuss_ok _ _ (by first | omega | (simp only [List.length_drop, List.length_take, List.length_append, List.length_cons, List.length_nil]; omega)) (by first | omega | (simp only [List.length_drop, List.length_take, List.length_append, List.length_cons, List.length_nil]; omega)) _).mono ?_; rintro v h' ⟨rfl, e'⟩; subst h'; conv => whnf)
          | refine Br.not ?_
          | (refine Br.t (by assumption) ?_; conv => whnf)
          | (refine Br.df (by omega) ?_; conv => whnf))
        exact ⟨rfl, rfl⟩
      | false =>
        rw [no fun h => by have := h.2.2.2; rw [show isFuss m (117 :: glueTo l l.length) = false from hf] at this; cases this]
        repeat' (first
          | refine AW.seq ?_
          | (refine AW.region ?_; conv => whnf)
          | (refine AW.ret ?_; conv => whnf)
          | (refine AW.exit ?_; conv => whnf)
          | refine AW.cond (by rfl) ?_
          | (refine (sIsFuss_ok _ _ (by first | omega | (simp only [List.length_drop, List.length_take, List.length_append, List.length_cons, List.length_nil]; omega)) (by first | omega | (simp only [List.length_drop, List.length_take, List.length_append, List.length_cons, List.length_nil]; omega)) _).mono ?_; rintro v h' ⟨rfl, e'⟩; subst h'; conv => whnf)
          | refine Br.not ?_
          | (refine Br.f (by assumption) ?_; conv => whnf)
          | (refine Br.df (by omega) ?_; conv => whnf))
        exact ⟨rfl, rfl⟩
  · rw [no fun h => hr ⟨h.1, h.2.1⟩]
    refine AC.enter Try.func53 Try.call53 rfl Try.ntmps53 (of_decide_eq_true (by rfl)) ?_
    repeat' (first
      | refine AW.seq ?_
      | (refine AW.region ?_; conv => whnf)
      | (refine AW.ret ?_; conv => whnf)
      | refine AW.cond (by rfl) ?_
      | (refine (l1In_ok _ _ _ _).mono ?_; rintro v h' ⟨rfl, e'⟩; subst h'; conv => whnf)
      | (refine Br.tt ?_; conv => whnf)
      | refine Br.not ?_
      | (refine Br.dt (by omega) ?_; conv => whnf)
      | (refine Br.df (by omega) ?_; conv => whnf)
      | (refine Br.dec (fun hc => ?_) (fun hc => ?_) <;> conv => whnf))
    all_goals first
      | exact ⟨rfl, rfl⟩
      | (exfalso; omega)


/-- the first place of a word in a list, or -1 -/
def rankIn (l : List (List UInt8)) (w : List UInt8) : Int := if l.findIdx (· == w) < l.length then (l.findIdx (· == w) : Int) else -1
theorem rankIn_hit {l : List (List UInt8)} {w : List UInt8} {i : Nat} (hi : i < l.length) (h : l.getD i [] = w) (no : ∀ j, j < i → l.getD j [] ≠ w) : rankIn l w = i := by
  have e : l.findIdx (· == w) = i := by
    refine (List.findIdx_eq hi).2 ⟨?_, fun j hj => ?_⟩
    · have : l[i] = w := by simpa [List.getD, hi] using h
      simp [this]
    · have := no j hj
      have hj2 : j < l.length := by omega
      have h3 : ¬ l[j] = w := by simpa [List.getD, hj2] using this
      simp [h3]
  unfold rankIn
  rw [e, if_pos hi]
theorem rankIn_none {l : List (List UInt8)} {w : List UInt8} (no : ∀ j, j < l.length → l.getD j [] ≠ w) : rankIn l w = -1 := by
  unfold rankIn
  rw [if_neg]
  intro h
  have h2 := List.findIdx_getElem (w := h)
  have := no _ h
  rw [List.getD, List.getElem?_eq_getElem h] at this
  exact this (by simpa using h2)
def rankF (m : Int) (w : List UInt8) : Int := if isFuss m w = true then rankIn (fussP m (cntB w 117)).1 w else -1

theorem iFussRank_ok (m : Int) (w : List UInt8) (h0 : H) (hm : -9223372036854775808 ≤ m ∧ m ≤ 9223372036854775807) (hw : w.length ≤ 9223372036854775807) : AC env 47 [.int .i64 m, .str w] h0 fun v h' => v = .int .i64 (rankF m w) ∧ Keeps h0 h' := by
  have hs := St.refl h0
  cases hf : isFuss m w with
  | true =>
    rw [show rankF m w = rankIn (fussP m (cntB w 117)).1 w from if_pos hf]
    have hl := fussP_len m (cntB w 117)
    have h4 : (cntB w 117 : Int) > 4 → fussP m (cntB w 117) = ([], false) := fun h => if_neg (by omega)
    refine AC.enter Try.func47 Try.call47 rfl Try.ntmps47 (of_decide_eq_true (by rfl)) ?_
    repeat' (first
      | refine AW.seq ?_
      | (refine AW.region ?_; conv => whnf)
      | refine AW.block ?_
      | (refine AW.skip ?_; conv => whnf)
      | (refine AW.ret ?_; conv => whnf)
      | refine AW.cond (by rfl) ?_
      | (refine (iIsFuss_ok _ _ (by first | omega | (simp only [List.length_drop, List.length_take, List.length_append, List.length_cons, List.length_nil]; omega)) (by first | omega | (simp only [List.length_drop, List.length_take, List.length_append, List.length_cons, List.length_nil]; omega)) _).mono ?_; rintro v h' ⟨rfl, e'⟩; subst h'; conv => whnf)
      | (refine (count_ok _ _ (by first | omega | (simp only [List.length_drop, List.length_take, List.length_append, List.length_cons, List.length_nil]; omega)) _).mono ?_; rintro v h' ⟨rfl, e'⟩; subst h'; conv => whnf)
      | (refine (iFussPaths_ok _ _ _).mono ?_; rintro v h' ⟨b, rfl, hn⟩; have hs' := St.newCall (by assumption) hn; clear hn; conv => whnf)
      | refine Br.not ?_
      | (refine Br.t (by assumption) ?_; conv => whnf)
      | (refine Br.dec (fun hc => ?_) (fun hc => ?_) <;> conv => whnf))
    · rw [h4 hc]
      exact ⟨rfl, Keeps.refl _⟩
    · generalize hL : (fussP m (cntB w 117)).1 = L at *
      refine AW.loop1 (fun (i : Nat) => [(1, .str w), (25, .slice b 0 L.length L.length), (26, .int .i64 L.length), (27, .int .i64 i)]) (fun i h' => i ≤ L.length ∧ (∀ j, j < i → L.getD j [] ≠ w) ∧ St h0 h' [(b, row (strs L))]) (fun i => L.length - i) 0
        (Less.cons rfl (Less.cons rfl (Less.cons rfl (Less.cons rfl (Less.nil _))))) ⟨by omega, fun j hj => by omega, hs'⟩ ?_
      rintro i h1 ⟨hi, hall, hs1⟩
      repeat' (first
        | refine AW.seq ?_
        | (refine AW.region ?_; conv => whnf)
        | refine AW.block ?_
        | (refine AW.skip ?_; conv => whnf)
        | (refine AW.ret ?_; conv => whnf)
        | (refine AW.exit ?_; conv => whnf)
        | refine AW.cond (by rfl) ?_
        | (refine Br.dec (fun hc => ?_) (fun hc => ?_) <;> conv => whnf)
        | (refine Br.mk (fun hc => ?_) (fun hc => ?_) <;> conv => whnf)
        | (refine Wr.i64 (by omega) ?_; conv => whnf)
        | (refine Ck.mk (by omega) ?_; conv => whnf)
        | (refine Has.loadS (by first | assumption | exact St.has (by assumption) (by repeat first | exact .head _ | apply List.Mem.tail) | exact St.arg (by assumption) (by assumption)) rfl (by first | (simp; done) | omega | (simp only [List.length_set, List.length_append, List.length_cons, List.length_nil, List.length_replicate, tab_length]; omega) | (simp; omega)) ?_; conv => whnf))
      · have hc : L.getD i [] = w := eq_of_beq hc
        exact ⟨by rw [rankIn_hit (by omega) hc hall], hs1.keeps⟩
      · have hc : ¬ L.getD i [] = w := fun e => by rw [show (L.getD (i : Int).toNat [] == w) = true from beq_iff_eq.2 e] at hc; cases hc
        exact ⟨i + 1, (Less.cons rfl (Less.cons rfl (Less.cons rfl (Less.cons rfl (Less.nil _))))), ⟨by omega, fun j hj => by
          rcases Nat.lt_succ_iff_lt_or_eq.1 hj with h | rfl
          · exact hall j h
          · exact hc, hs1⟩, by omega⟩
      · exact ⟨by rw [rankIn_none fun j hj => hall j (by omega)], hs1.keeps⟩
  | false =>
    rw [show rankF m w = -1 from if_neg (by rw [hf]; decide)]
    refine AC.enter Try.func47 Try.call47 rfl Try.ntmps47 (of_decide_eq_true (by rfl)) ?_
    repeat' (first
      | refine AW.seq ?_
      | (refine AW.region ?_; conv => whnf)
      | (refine AW.ret ?_; conv => whnf)
      | refine AW.cond (by rfl) ?_
      | (refine (iIsFuss_ok _ _ (by first | omega | (simp only [List.length_drop, List.length_take, List.length_append, List.length_cons, List.length_nil]; omega)) (by first | omega | (simp only [List.length_drop, List.length_take, List.length_append, List.length_cons, List.length_nil]; omega)) _).mono ?_; rintro v h' ⟨rfl, e'⟩; subst h'; conv => whnf)
      | (refine Br.tt ?_; conv => whnf)
      | refine Br.not ?_
      | (refine Br.f (by assumption) ?_; conv => whnf))
    exact ⟨rfl, Keeps.refl _⟩

theorem sFussRank_ok (m : Int) (w : List UInt8) (h0 : H) (hm : -9223372036854775808 ≤ m ∧ m ≤ 9223372036854775807) (hw : w.length ≤ 9223372036854775807) : AC env 57 [.int .i64 m, .str w] h0 fun v h' => v = .int .i64 (rankF m w) ∧ Keeps h0 h' := by
  have hs := St.refl h0
  cases hf : isFuss m w with
  | true =>
    rw [show rankF m w = rankIn (fussP m (cntB w 117)).1 w from if_pos hf]
    have hl := fussP_len m (cntB w 117)
    have h24 := (isFuss_len hf).2
    have h4 : (fussP m (cntB w 117)).2 = false → (fussP m (cntB w 117)).1 = [] := by
      unfold fussP
      split
      · intro h; cases h
      · intro _; rfl
    refine AC.enter Try.func57 Try.call57 rfl Try.ntmps57 (of_decide_eq_true (by rfl)) ?_
    repeat' (first
      | refine AW.seq ?_
      | (refine AW.region ?_; conv => whnf)
      | refine AW.block ?_
      | (refine AW.skip ?_; conv => whnf)
      | refine AW.cond (by rfl) ?_
      | (refine (sIsFuss_ok _ _ (by first | omega | (simp only [List.length_drop, List.length_take, List.length_append, List.length_cons, List.length_nil]; omega)) (by first | omega | (simp only [List.length_drop, List.length_take, List.length_append, List.length_cons, List.length_nil]; omega)) _).mono ?_; rintro v h' ⟨rfl, e'⟩; subst h'; conv => whnf)
      | refine Br.not ?_
      | (refine Br.t (by assumption) ?_; conv => whnf))
    refine AW.loop2 (fun (n i : Nat) => [(0, .int .i64 m), (1, .str w), (5, .int .i64 n), (6, .int .i64 i)]) (fun n i h' => i ≤ w.length ∧ n = cntB (w.take i) 117 ∧ St h0 h' []) (fun _ i => w.length - i) 0 0
      (Less.cons rfl (Less.cons rfl (Less.cons rfl (Less.cons rfl (Less.nil _))))) ⟨by omega, rfl, hs⟩ ?_
    rintro n i h1 ⟨hi, hn, hs1⟩
    have b1 := cntB_le (w.take i) 117
    have b2 : (w.take i).length ≤ w.length := by simp; omega
    repeat' (first
      | refine AW.seq ?_
      | (refine AW.region ?_; conv => whnf)
      | refine AW.block ?_
      | (refine AW.skip ?_; conv => whnf)
      | (refine AW.exit ?_; conv => whnf)
      | refine AW.cond (by rfl) ?_
      | (refine (sFussPaths_ok _ _ _).mono ?_; rintro v h' ⟨b, rfl, hn⟩; have hs' := St.newCall (by assumption) hn; clear hn; conv => whnf)
      | (refine Br.dec (fun hc => ?_) (fun hc => ?_) <;> conv => whnf)
      | (refine Wr.i64 (by omega) ?_; conv => whnf)
      | (refine Ck.mk (by omega) ?_; conv => whnf))
    · exact ⟨n + 1, i + 1, (Less.cons rfl (Less.cons rfl (Less.cons rfl (Less.cons rfl (Less.nil _))))), ⟨by omega, by rw [take_snoc w i (by omega), cntB_snoc, if_pos (by assumption), hn], hs1⟩, by omega⟩
    · exact ⟨n, i + 1, (Less.cons rfl (Less.cons rfl (Less.cons rfl (Less.cons rfl (Less.nil _))))), ⟨by omega, by rw [take_snoc w i (by omega), cntB_snoc, if_neg (by assumption), hn]; rfl, hs1⟩, by omega⟩
    · have e : i = w.length := by omega
      subst e
      rw [List.take_length] at hn
      subst hn
      obtain ⟨L, hL⟩ : ∃ L, (fussP m (cntB w 117)).1 = L := ⟨_, rfl⟩
      obtain ⟨t, ht⟩ : ∃ t, (fussP m (cntB w 117)).2 = t := ⟨_, rfl⟩
      simp only [hL, ht] at hl h4 hs' ⊢
      refine AW.loop1 (fun (i : Nat) => [(1, .str w), (7, .slice b 0 L.length L.length), (8, .bool t), (9, .int .i64 i)]) (fun i h' => i ≤ L.length ∧ (∀ j, j < i → L.getD j [] ≠ w) ∧ St h0 h' [(b, row (strs L))]) (fun i => L.length - i) 0
        (Less.cons rfl (Less.cons rfl (Less.cons rfl (Less.cons rfl (Less.nil _))))) ⟨by omega, fun j hj => by omega, hs'⟩ ?_
      rintro i h2 ⟨hi, hall, hs2⟩
      repeat' (first
        | refine AW.seq ?_
        | (refine AW.region ?_; conv => whnf)
        | refine AW.block ?_
        | (refine AW.skip ?_; conv => whnf)
        | (refine AW.ret ?_; conv => whnf)
        | (refine AW.exit ?_; conv => whnf)
        | refine AW.cond (by rfl) ?_
        | (refine Br.ff ?_; conv => whnf)
        | (refine Br.dt (by omega) ?_; conv => whnf)
        | (refine Br.df (by omega) ?_; conv => whnf)
        | (refine Br.dec (fun hc => ?_) (fun hc => ?_) <;> conv => whnf)
        | (refine Br.mk (fun hc => ?_) (fun hc => ?_) <;> conv => whnf)
        | (refine Wr.i64 (by omega) ?_; conv => whnf)
        | (refine Ck.mk (by omega) ?_; conv => whnf)
        | (refine Has.loadS (by first | assumption | exact St.has (by assumption) (by repeat first | exact .head _ | apply List.Mem.tail) | exact St.arg (by assumption) (by assumption)) rfl (by first | (simp; done) | omega | (simp only [List.length_set, List.length_append, List.length_cons, List.length_nil, List.length_replicate, tab_length]; omega) | (simp; omega)) ?_; conv => whnf))
      · have hc : L.getD i [] = w := eq_of_beq hc
        exact ⟨by rw [rankIn_hit (by omega) hc hall], hs2.keeps⟩
      · have hc : ¬ L.getD i [] = w := fun e => by rw [show (L.getD (i : Int).toNat [] == w) = true from beq_iff_eq.2 e] at hc; cases hc
        exact ⟨i + 1, (Less.cons rfl (Less.cons rfl (Less.cons rfl (Less.cons rfl (Less.nil _))))), ⟨by omega, fun j hj => by
          rcases Nat.lt_succ_iff_lt_or_eq.1 hj with h | rfl
          · exact hall j h
          · exact hc, hs2⟩, by omega⟩
      · have e := h4 (by assumption)
        subst e
        exact ⟨rfl, hs2.keeps⟩
      · exact ⟨by rw [rankIn_none fun j hj => hall j (by omega)], hs2.keeps⟩
  | false =>
    rw [show rankF m w = -1 from if_neg (by rw [hf]; decide)]
    refine AC.enter Try.func57 Try.call57 rfl Try.ntmps57 (of_decide_eq_true (by rfl)) ?_
    repeat' (first
      | refine AW.seq ?_
      | (refine AW.region ?_; conv => whnf)
      | (refine AW.ret ?_; conv => whnf)
      | refine AW.cond (by rfl) ?_
      | (refine (sIsFuss_ok _ _ (by first | omega | (simp only [List.length_drop, List.length_take, List.length_append, List.length_cons, List.length_nil]; omega)) (by first | omega | (simp only [List.length_drop, List.length_take, List.length_append, List.length_cons, List.length_nil]; omega)) _).mono ?_; rintro v h' ⟨rfl, e'⟩; subst h'; conv => whnf)
      | refine Br.not ?_
      | (refine Br.f (by assumption) ?_; conv => whnf))
    exact ⟨rfl, Keeps.refl _⟩


/-- the height of a word of Fuss behind so many letters -/
def hF (m : Int) (w : List UInt8) (i : Nat) : Int := (walkH (m - 1) (-1) false (w.take i) 0).getD 0
theorem hF_step {m : Int} {w : List UInt8} (h : isFuss m w = true) {i : Nat} (hi : i < w.length) : 0 ≤ hF m w i ∧ hF m w i ≤ 72 ∧ 0 ≤ hF m w (i + 1) ∧ ((w.getD i 0 = 117 ∧ hF m w (i + 1) = hF m w i + m - 1) ∨ (w.getD i 0 = 100 ∧ hF m w (i + 1) = hF m w i - 1)) := by
  have hb := isFuss_len h
  have hw : walkH (m - 1) (-1) false w 0 = some 0 := by
    unfold isFuss at h
    simp only [Bool.and_eq_true, beq_iff_eq] at h
    exact h.2
  cases hx : walkH (m - 1) (-1) false (w.take i) 0 with
  | none => rw [walkH_take_none hx] at hw; cases hw
  | some g =>
    have e : hF m w i = g := by rw [hF, hx]; rfl
    have bd := walkH_bd (by omega) (by omega) _ _ _ (by omega) hx
    have bl : (w.take i).length ≤ 24 := by simp; omega
    have b2 : (m - 1) * ((w.take i).length : Int) ≤ 3 * 24 := Int.mul_le_mul (by omega) (by omega) (by omega) (by omega)
    rw [e]
    by_cases h1 : w.getD i 0 = 117
    · have hst : stepOf (m - 1) (-1) false (w.getD i 0) = some (m - 1) := stepOf_u ((byte_117 _).2 h1)
      have nx := walkH_next hi hx hst (by omega)
      have e2 : hF m w (i + 1) = g + (m - 1) := by rw [hF, nx]; rfl
      exact ⟨by omega, by omega, by omega, .inl ⟨h1, by omega⟩⟩
    · by_cases h2 : w.getD i 0 = 100
      · have hst : stepOf (m - 1) (-1) false (w.getD i 0) = some (-1) := stepOf_d ((byte_100 _).2 h2)
        by_cases hlow : g + (-1) < 0
        · rw [walkH_low hi hx hst hlow] at hw; cases hw
        · have nx := walkH_next hi hx hst hlow
          have e2 : hF m w (i + 1) = g + (-1) := by rw [hF, nx]; rfl
          exact ⟨by omega, by omega, by omega, .inr ⟨h2, by omega⟩⟩
      · rw [walkH_bad hi hx (stepOf_no (fun e => h1 ((byte_117 _).1 e)) (fun e => h2 ((byte_100 _).1 e)) (.inr rfl))] at hw
        cases hw
theorem hF_zero (m : Int) (w : List UInt8) : hF m w 0 = 0 := rfl
theorem hF_end {m : Int} {w : List UInt8} (h : isFuss m w = true) : hF m w w.length = 0 := by
  have hw : walkH (m - 1) (-1) false w 0 = some 0 := by
    unfold isFuss at h
    simp only [Bool.and_eq_true, beq_iff_eq] at h
    exact h.2
  rw [hF, List.take_length, hw]
  rfl

/-- the parts that are cut off before a place, where the next one begins, and its height -/
def splTo (m : Int) (w : List UInt8) : Nat → List (List UInt8) × Nat × Int
  | 0 => ([], 1, m - 1)
  | i + 1 => let r := splTo m w i
    if 0 < i ∧ 0 < r.2.2 ∧ w.getD i 0 ≠ 117 ∧ hF m w (i + 1) < r.2.2 then (r.1 ++ [(w.take i).drop r.2.1], i + 1, r.2.2 - 1) else r
theorem splTo_cut {m : Int} {w : List UInt8} {i f : Nat} {o : List (List UInt8)} {lv : Int} (e : splTo m w i = (o, f, lv)) (h : 0 < i ∧ 0 < lv ∧ w.getD i 0 ≠ 117 ∧ hF m w (i + 1) < lv) : splTo m w (i + 1) = (o ++ [(w.take i).drop f], i + 1, lv - 1) := by
  simp only [splTo, e]
  rw [if_pos h]
theorem splTo_on {m : Int} {w : List UInt8} {i f : Nat} {o : List (List UInt8)} {lv : Int} (e : splTo m w i = (o, f, lv)) (h : ¬ (0 < i ∧ 0 < lv ∧ w.getD i 0 ≠ 117 ∧ hF m w (i + 1) < lv)) : splTo m w (i + 1) = (o, f, lv) := by
  simp only [splTo, e]
  rw [if_neg h]
theorem splTo_done {m : Int} {w : List UInt8} {i f : Nat} {o : List (List UInt8)} {lv : Int} (e : splTo m w i = (o, f, lv)) (h : lv ≤ 0) : ∀ j, i ≤ j → splTo m w j = (o, f, lv) := by
  intro j
  induction j with
  | zero => intro hj; have : i = 0 := by omega
            subst this; exact e
  | succ j ih =>
    intro hj
    by_cases hij : i = j + 1
    · subst hij; exact e
    · exact splTo_on (ih (by omega)) (by omega)
theorem splTo_len (m : Int) (w : List UInt8) : ∀ i, (splTo m w i).1.length ≤ i := by
  intro i
  induction i with
  | zero => simp [splTo]
  | succ i ih =>
    simp only [splTo]
    split
    · rw [List.length_append]; simp; omega
    · omega
def finS (m : Int) (w : List UInt8) : List (List UInt8) := (splTo m w w.length).1 ++ [w.drop (splTo m w w.length).2.1]
def splitF (m : Int) (w : List UInt8) : List (List UInt8) × Bool := if isFuss m w = true ∧ w ≠ [] then (finS m w, true) else ([], false)
theorem finS_eq {m : Int} {w : List UInt8} {f : Nat} {o : List (List UInt8)} {lv : Int} (e : splTo m w w.length = (o, f, lv)) : finS m w = o ++ [w.drop f] := by rw [finS, e]
theorem splitF_len (m : Int) (w : List UInt8) : (splitF m w).1.length ≤ 25 := by
  unfold splitF
  split
  · rename_i h
    have := (isFuss_len h.1).2
    have := splTo_len m w w.length
    simp only [finS, List.length_append, List.length_cons, List.length_nil]
    omega
  · simp
def RetS (p : List (List UInt8) × Bool) (h0 : H) (v : AV) (h' : H) : Prop := ∃ b, v = .tup [.slice b 0 p.1.length p.1.length, .bool p.2] ∧ New h0 h' b (strs p.1)
theorem RetS.mk' {p : List (List UInt8) × Bool} {h0 h' : H} {b n : Nat} {l : List (List UInt8)} {t : Bool} (e : p = (l, t)) (hn : n = l.length) (m : New h0 h' b (strs l)) : RetS p h0 (.tup [.slice b 0 n n, .bool t]) h' := by
  subst e hn
  exact ⟨b, rfl, m⟩

theorem iSplitFuss_ok (m : Int) (w : List UInt8) (h0 : H) (hm : -9223372036854775808 ≤ m ∧ m ≤ 9223372036854775807) (hw : w.length ≤ 9223372036854775807) : AC env 49 [.int .i64 m, .str w] h0 (RetS (splitF m w) h0) := by
  have hs := St.refl h0
  cases hf : isFuss m w with
  | true =>
    have hb := isFuss_len hf
    by_cases hne : w = []
    · subst hne
      refine AC.enter Try.func49 Try.call49 rfl Try.ntmps49 (of_decide_eq_true (by rfl)) ?_
      repeat' (first
        | refine AW.seq ?_
        | (refine AW.region ?_; conv => whnf)
        | (refine AW.ret ?_; conv => whnf)
        | refine AW.cond (by rfl) ?_
        | (refine (iIsFuss_ok _ _ (by first | omega | (simp only [List.length_drop, List.length_take, List.length_append, List.length_cons, List.length_nil]; omega)) (by first | omega | (simp only [List.length_drop, List.length_take, List.length_append, List.length_cons, List.length_nil]; omega)) _).mono ?_; rintro v h' ⟨rfl, e'⟩; subst h'; conv => whnf)
        | (refine Br.tt ?_; conv => whnf)
        | refine Br.not ?_
        | (refine Br.t (by assumption) ?_; conv => whnf)
        | (refine NewG.st (by assumption) (fun bt h' hs' => ?_); conv => whnf))
      exact RetS.mk' (if_neg fun h => h.2 rfl) rfl hs'.toNew
    · have hpos : 0 < w.length := List.length_pos_iff.2 hne
      have s0 := hF_step hf hpos
      simp only [Nat.zero_add] at s0
      have z0 := hF_zero m w
      have one : splTo m w 1 = ([], 1, m - 1) := splTo_on (i := 0) rfl (by omega)
      refine AC.enter Try.func49 Try.call49 rfl Try.ntmps49 (of_decide_eq_true (by rfl)) ?_
      repeat' (first
        | refine AW.seq ?_
        | (refine AW.region ?_; conv => whnf)
        | refine AW.block ?_
        | (refine AW.skip ?_; conv => whnf)
        | (refine AW.ret ?_; conv => whnf)
        | refine AW.cond (by rfl) ?_
        | (refine (iIsFuss_ok _ _ (by first | omega | (simp only [List.length_drop, List.length_take, List.length_append, List.length_cons, List.length_nil]; omega)) (by first | omega | (simp only [List.length_drop, List.length_take, List.length_append, List.length_cons, List.length_nil]; omega)) _).mono ?_; rintro v h' ⟨rfl, e'⟩; subst h'; conv => whnf)
        | refine Br.not ?_
        | (refine Br.t (by assumption) ?_; conv => whnf)
        | (refine Br.mk (fun hc => ?_) (fun hc => ?_) <;> conv => whnf)
        | (refine Wr.i64 (by omega) ?_; conv => whnf)
        | (refine NewG.st (by assumption) (fun bt h' hs' => ?_); conv => whnf))
      · exact absurd (eq_of_beq hc) hne
      refine AW.loop6 (fun (o : List (List UInt8)) (b : Nat) (g : Int) (f : Nat) (lv : Int) (i : Nat) => [(0, .int .i64 m), (1, .str w), (6, .slice b 0 o.length o.length), (7, .int .i64 g), (8, .int .i64 f), (9, .int .i64 lv), (10, .int .i64 i)])
        (fun o b g f lv i h' => (1 ≤ i ∧ i ≤ w.length) ∧ splTo m w i = (o, f, lv) ∧ g = hF m w i ∧ (0 ≤ lv ∧ lv ≤ 3) ∧ f ≤ i ∧ St h0 h' [(b, row (strs o))]) (fun _ _ _ _ _ i => w.length - i) [] bt (m - 1) 1 (m - 1) 1
        (Less.cons rfl (Less.cons rfl (Less.cons rfl (Less.cons rfl (Less.cons rfl (Less.cons rfl (Less.cons rfl (Less.nil _)))))))) ⟨by omega, one, by omega, by omega, by omega, hs'⟩ ?_
      rintro o b g f lv i h1 ⟨hi, hr, rfl, hlv, hfi, hs1⟩
      have lo := splTo_len m w i
      rw [hr] at lo
      dsimp only at lo
      by_cases hgo : i < w.length ∧ 0 < lv
      · have st := hF_step hf hgo.1
        repeat' (first
          | refine AW.seq ?_
          | (refine AW.region ?_; conv => whnf)
          | refine AW.block ?_
          | (refine AW.skip ?_; conv => whnf)
          | (refine AW.exit ?_; conv => whnf)
          | refine AW.cond (by rfl) ?_
          | (refine Br.dt (by omega) ?_; conv => whnf)
          | (refine Br.dec (fun hc => ?_) (fun hc => ?_) <;> conv => whnf)
          | (refine Wr.i64 (by omega) ?_; conv => whnf)
          | (refine Ck.mk (by omega) ?_; conv => whnf)
          | (refine NewG.st (by assumption) (fun bt h' hs' => ?_); conv => whnf)
          | (refine LoadsG.has (by first | assumption | exact St.has (by assumption) (by repeat first | exact .head _ | apply List.Mem.tail) | exact St.arg (by assumption) (by assumption)) (by simp) ?_; conv => whnf)
          | (refine AppG.stS (by assumption) (by intro b'; repeat first | exact .here | apply Spot.there) (by first | (simp; done) | omega | (simp only [List.length_set, List.length_append, List.length_cons, List.length_nil, List.length_replicate, tab_length]; omega) | (simp; omega)) (by first | (simp; done) | omega | (simp only [List.length_set, List.length_append, List.length_cons, List.length_nil, List.length_replicate, tab_length]; omega) | (simp; omega)) (by decide) (fun b' h' hs' => ?_); conv => whnf))
        all_goals (simp only [Int.toNat_natCast, byte_117] at *)
        · exact ⟨o, b, hF m w i + m - 1, f, lv, i + 1, (Less.cons rfl (Less.cons rfl (Less.cons rfl (Less.cons rfl (Less.cons rfl (Less.cons rfl (Less.cons rfl (Less.nil _)))))))), ⟨by omega, splTo_on hr (fun h => h.2.2.1 hc), by rcases st.2.2.2 with e | e; exact e.2.symm; exact absurd (hc.symm.trans e.1) (by decide), by omega, by omega, hs1⟩, by omega⟩
        · rename_i c1 c2
          have e1 : hF m w (i + 1) = hF m w i - 1 := by rcases st.2.2.2 with e | e; exact absurd e.1 (by assumption); exact e.2
          have eL : o.length + 1 = (o ++ [List.drop f (List.take i w)]).length := by simp
          rw [eL]
          exact ⟨_, b', hF m w i - 1, i + 1, lv - 1, i + 1, (Less.cons rfl (Less.cons rfl (Less.cons rfl (Less.cons rfl (Less.cons rfl (Less.cons rfl (Less.cons rfl (Less.nil _)))))))), ⟨by omega, splTo_cut hr ⟨by omega, by omega, by assumption, by omega⟩, e1.symm, by omega, by omega, hs'.tail⟩, by omega⟩
        · have e1 : hF m w (i + 1) = hF m w i - 1 := by rcases st.2.2.2 with e | e; exact absurd e.1 (by assumption); exact e.2
          exact ⟨o, b, hF m w i - 1, f, lv, i + 1, (Less.cons rfl (Less.cons rfl (Less.cons rfl (Less.cons rfl (Less.cons rfl (Less.cons rfl (Less.cons rfl (Less.nil _)))))))), ⟨by omega, splTo_on hr (fun h => by omega), e1.symm, by omega, by omega, hs1⟩, by omega⟩
      · have hr2 : splTo m w w.length = (o, f, lv) := by
          by_cases hi2 : i = w.length
          · rw [← hi2]; exact hr
          · exact splTo_done hr (by omega) _ hi.2
        repeat' (first
          | refine AW.seq ?_
          | (refine AW.region ?_; conv => whnf)
          | (refine AW.ret ?_; conv => whnf)
          | (refine AW.exit ?_; conv => whnf)
          | refine AW.cond (by rfl) ?_
          | (refine Br.ff ?_; conv => whnf)
          | (refine Br.dt (by omega) ?_; conv => whnf)
          | (refine Br.df (by omega) ?_; conv => whnf)
          | (refine Br.dec (fun hc => ?_) (fun hc => ?_) <;> conv => whnf)
          | (refine Ck.mk (by omega) ?_; conv => whnf)
          | (refine NewG.st (by assumption) (fun bt h' hs' => ?_); conv => whnf)
          | (refine LoadsG.has (by first | assumption | exact St.has (by assumption) (by repeat first | exact .head _ | apply List.Mem.tail) | exact St.arg (by assumption) (by assumption)) (by simp) ?_; conv => whnf)
          | (refine AppG.stS (by assumption) (by intro b'; repeat first | exact .here | apply Spot.there) (by first | (simp; done) | omega | (simp only [List.length_set, List.length_append, List.length_cons, List.length_nil, List.length_replicate, tab_length]; omega) | (simp; omega)) (by first | (simp; done) | omega | (simp only [List.length_set, List.length_append, List.length_cons, List.length_nil, List.length_replicate, tab_length]; omega) | (simp; omega)) (by decide) (fun b' h' hs' => ?_); conv => whnf))
        all_goals exact RetS.mk' (if_pos ⟨hf, hne⟩) (by rw [finS_eq hr2]; simp) (by rw [finS_eq hr2]; exact hs'.tail.toNew)
  | false =>
    refine AC.enter Try.func49 Try.call49 rfl Try.ntmps49 (of_decide_eq_true (by rfl)) ?_
    repeat' (first
      | refine AW.seq ?_
      | (refine AW.region ?_; conv => whnf)
      | (refine AW.ret ?_; conv => whnf)
      | refine AW.cond (by rfl) ?_
      | (refine (iIsFuss_ok _ _ (by first | omega | (simp only [List.length_drop, List.length_take, List.length_append, List.length_cons, List.length_nil]; omega)) (by first | omega | (simp only [List.length_drop, List.length_take, List.length_append, List.length_cons, List.length_nil]; omega)) _).mono ?_; rintro v h' ⟨rfl, e'⟩; subst h'; conv => whnf)
      | (refine Br.tt ?_; conv => whnf)
      | refine Br.not ?_
      | (refine Br.f (by assumption) ?_; conv => whnf)
      | (refine NewG.st (by assumption) (fun bt h' hs' => ?_); conv => whnf))
    exact RetS.mk' (if_neg fun h => by rw [hf] at h; cases h.1) rfl hs'.toNew

theorem sSplitFuss_ok (m : Int) (w : List UInt8) (h0 : H) (hm : -9223372036854775808 ≤ m ∧ m ≤ 9223372036854775807) (hw : w.length ≤ 9223372036854775807) : AC env 50 [.int .i64 m, .str w] h0 (RetS (splitF m w) h0) := by
  have hs := St.refl h0
  cases hf : isFuss m w with
  | true =>
    have hb := isFuss_len hf
    by_cases hne : w = []
    · subst hne
      refine AC.enter Try.func50 Try.call50 rfl Try.ntmps50 (of_decide_eq_true (by rfl)) ?_
      repeat' (first
        | refine AW.seq ?_
        | (refine AW.region ?_; conv => whnf)
        | (refine AW.ret ?_; conv => whnf)
        | refine AW.cond (by rfl) ?_
        | (refine (sIsFuss_ok _ _ (by first | omega | (simp only [List.length_drop, List.length_take, List.length_append, List.length_cons, List.length_nil]; omega)) (by first | omega | (simp only [List.length_drop, List.length_take, List.length_append, List.length_cons, List.length_nil]; omega)) _).mono ?_; rintro v h' ⟨rfl, e'⟩; subst h'; conv => whnf)
        | (refine Br.tt ?_; conv => whnf)
        | refine Br.not ?_
        | (refine Br.t (by assumption) ?_; conv => whnf)
        | (refine NewG.st (by assumption) (fun bt h' hs' => ?_); conv => whnf))
      exact RetS.mk' (if_neg fun h => h.2 rfl) rfl hs'.toNew
    · have hpos : 0 < w.length := List.length_pos_iff.2 hne
      have s0 := hF_step hf hpos
      simp only [Nat.zero_add] at s0
      have z0 := hF_zero m w
      have zE := hF_end hf
      have one : splTo m w 1 = ([], 1, m - 1) := splTo_on (i := 0) rfl (by omega)
      refine AC.enter Try.func50 Try.call50 rfl Try.ntmps50 (of_decide_eq_true (by rfl)) ?_
      repeat' (first
        | refine AW.seq ?_
        | (refine AW.region ?_; conv => whnf)
        | refine AW.block ?_
        | (refine AW.skip ?_; conv => whnf)
        | (refine AW.ret ?_; conv => whnf)
        | refine AW.cond (by rfl) ?_
        | (refine (sIsFuss_ok _ _ (by first | omega | (simp only [List.length_drop, List.length_take, List.length_append, List.length_cons, List.length_nil]; omega)) (by first | omega | (simp only [List.length_drop, List.length_take, List.length_append, List.length_cons, List.length_nil]; omega)) _).mono ?_; rintro v h' ⟨rfl, e'⟩; subst h'; conv => whnf)
        | refine Br.not ?_
        | (refine Br.t (by assumption) ?_; conv => whnf)
        | (refine Br.mk (fun hc => ?_) (fun hc => ?_) <;> conv => whnf)
        | (refine NewG.st (by assumption) (fun bt h' hs' => ?_); conv => whnf))
      · exact absurd (eq_of_beq hc) hne
      refine AW.loop4 (fun (o : List (List UInt8)) (b : Nat) (f : Nat) (k : Nat) => [(0, .int .i64 m), (1, .str w), (6, .slice b 0 o.length o.length), (7, .int .i64 f), (8, .int .i64 k)])
        (fun o b f k h' => (1 ≤ f ∧ f ≤ w.length) ∧ (k : Int) ≤ m - 1 ∧ splTo m w f = (o, f, m - 1 - k) ∧ hF m w f = m - 1 - k ∧ St h0 h' [(b, row (strs o))]) (fun _ _ _ k => (m - 1 - k).toNat) [] bt 1 0
        (Less.cons rfl (Less.cons rfl (Less.cons rfl (Less.cons rfl (Less.cons rfl (Less.nil _)))))) ⟨by omega, by omega, by rw [one]; simp, by omega, hs'⟩ ?_
      rintro o b f k h1 ⟨hi, hk, hr, hh, hs1⟩
      have lo := splTo_len m w f
      rw [hr] at lo
      dsimp only at lo
      repeat' (first
        | refine AW.seq ?_
        | (refine AW.region ?_; conv => whnf)
        | refine AW.block ?_
        | (refine AW.skip ?_; conv => whnf)
        | (refine AW.ret ?_; conv => whnf)
        | (refine AW.exit ?_; conv => whnf)
        | refine AW.cond (by rfl) ?_
        | (refine Br.dec (fun hc => ?_) (fun hc => ?_) <;> conv => whnf)
        | (refine Wr.i64 (by omega) ?_; conv => whnf)
        | (refine Ck.mk (by omega) ?_; conv => whnf)
        | (refine NewG.st (by assumption) (fun bt h' hs' => ?_); conv => whnf)
        | (refine LoadsG.has (by first | assumption | exact St.has (by assumption) (by repeat first | exact .head _ | apply List.Mem.tail) | exact St.arg (by assumption) (by assumption)) (by simp) ?_; conv => whnf)
        | (refine AppG.stS (by assumption) (by intro b'; repeat first | exact .here | apply Spot.there) (by first | (simp; done) | omega | (simp only [List.length_set, List.length_append, List.length_cons, List.length_nil, List.length_replicate, tab_length]; omega) | (simp; omega)) (by first | (simp; done) | omega | (simp only [List.length_set, List.length_append, List.length_cons, List.length_nil, List.length_replicate, tab_length]; omega) | (simp; omega)) (by decide) (fun b' h' hs' => ?_); conv => whnf))
      · refine AW.loop3 (fun (p : List UInt8) (g : Int) (i : Nat) => [(0, .int .i64 m), (1, .str w), (6, .slice b 0 o.length o.length), (7, .int .i64 i), (8, .int .i64 k), (9, .int .i64 g), (10, .str p)])
          (fun p g i h' => (f ≤ i ∧ i ≤ w.length) ∧ 0 ≤ g ∧ hF m w i = m - 1 - k + g ∧ p = (w.take i).drop f ∧ splTo m w i = (o, f, m - 1 - k) ∧ St h0 h' [(b, row (strs o))]) (fun _ _ i => w.length - i) [] 0 f
          (Less.cons rfl (Less.cons rfl (Less.cons rfl (Less.cons rfl (Less.cons rfl (Less.cons rfl (Less.cons rfl (Less.nil _)))))))) ⟨by omega, by omega, by omega, by simp, hr, hs1⟩ ?_
        rintro p g i h2 ⟨hi2, hg, hh2, hp, hr2, hs2⟩
        have hil : i < w.length := by
          apply Classical.byContradiction
          intro hge
          have : i = w.length := by omega
          subst this
          omega
        have st := hF_step hf hil
        have pl : p.length ≤ i := by rw [hp]; simp; omega
        have cu := cut_one w i hil
        have nx : (w.take (i + 1)).drop f = p ++ [w.getD i 0] := by
          rw [hp, take_snoc w i hil, List.drop_append_of_le_length (by simp; omega)]
        repeat' (first
          | refine AW.seq ?_
          | (refine AW.region ?_; conv => whnf)
          | refine AW.block ?_
          | (refine AW.skip ?_; conv => whnf)
          | (refine AW.exit ?_; conv => whnf)
          | refine AW.cond (by rfl) ?_
          | (refine Br.tt ?_; conv => whnf)
          | (refine Br.dt (by omega) ?_; conv => whnf)
          | (refine Br.df (by omega) ?_; conv => whnf)
          | (refine Br.dec (fun hc => ?_) (fun hc => ?_) <;> conv => whnf)
          | (refine Wr.i64 (by omega) ?_; conv => whnf)
          | (refine Ck.mk (by omega) ?_; conv => whnf)
          | (refine Ck.mk (by simp only [List.length_drop, List.length_take, List.length_append, List.length_cons, List.length_nil]; omega) ?_; conv => whnf)
          | (refine NewG.st (by assumption) (fun bt h' hs' => ?_); conv => whnf)
          | (refine LoadsG.has (by first | assumption | exact St.has (by assumption) (by repeat first | exact .head _ | apply List.Mem.tail) | exact St.arg (by assumption) (by assumption)) (by simp) ?_; conv => whnf)
          | (refine AppG.stS (by assumption) (by intro b'; repeat first | exact .here | apply Spot.there) (by first | (simp; done) | omega | (simp only [List.length_set, List.length_append, List.length_cons, List.length_nil, List.length_replicate, tab_length]; omega) | (simp; omega)) (by first | (simp; done) | omega | (simp only [List.length_set, List.length_append, List.length_cons, List.length_nil, List.length_replicate, tab_length]; omega) | (simp; omega)) (by decide) (fun b' h' hs' => ?_); conv => whnf))
        · have e1 : w.getD i 0 = 117 := (byte_117 _).1 hc
          have e2 : hF m w (i + 1) = hF m w i + m - 1 := by rcases st.2.2.2 with e | e; exact e.2; exact absurd (e1.symm.trans e.1) (by decide)
          rw [cu]
          exact ⟨_, g + m - 1, i + 1, (Less.cons rfl (Less.cons rfl (Less.cons rfl (Less.cons rfl (Less.cons rfl (Less.cons rfl (Less.cons rfl (Less.nil _)))))))), ⟨by omega, by omega, by omega, nx.symm, splTo_on hr2 (fun h => h.2.2.1 e1), hs2⟩, by omega⟩
        · have e1 : ¬ w.getD i 0 = 117 := fun e => hc ((byte_117 _).2 e)
          have e2 : hF m w (i + 1) = hF m w i - 1 := by rcases st.2.2.2 with e | e; exact absurd e.1 e1; exact e.2
          rw [cu]
          exact ⟨_, g - 1, i + 1, (Less.cons rfl (Less.cons rfl (Less.cons rfl (Less.cons rfl (Less.cons rfl (Less.cons rfl (Less.cons rfl (Less.nil _)))))))), ⟨by omega, by omega, by omega, nx.symm, splTo_on hr2 (fun h => by omega), hs2⟩, by omega⟩
        · have e1 : w.getD i 0 = 117 := (byte_117 _).1 hc
          have e2 : hF m w (i + 1) = hF m w i + m - 1 := by rcases st.2.2.2 with e | e; exact e.2; exact absurd (e1.symm.trans e.1) (by decide)
          rw [cu]
          exact ⟨_, g + m - 1, i + 1, (Less.cons rfl (Less.cons rfl (Less.cons rfl (Less.cons rfl (Less.cons rfl (Less.cons rfl (Less.cons rfl (Less.nil _)))))))), ⟨by omega, by omega, by omega, nx.symm, splTo_on hr2 (fun h => h.2.2.1 e1), hs2⟩, by omega⟩
        · have e1 : ¬ w.getD i 0 = 117 := fun e => by
            have := (byte_117 _).2 e
            exact absurd this (by assumption)
          have e2 : hF m w (i + 1) = hF m w i - 1 := by rcases st.2.2.2 with e | e; exact absurd e.1 e1; exact e.2
          have ct := splTo_cut hr2 ⟨by omega, by omega, e1, by omega⟩
          rw [← hp, show m - 1 - (k : Int) - 1 = m - 1 - ((k + 1 : Nat) : Int) by omega] at ct
          have eL : o.length + 1 = (o ++ [p]).length := by simp
          rw [eL]
          exact ⟨_, b', i + 1, k + 1, (Less.cons rfl (Less.cons rfl (Less.cons rfl (Less.cons rfl (Less.cons rfl (Less.nil _)))))), ⟨by omega, by omega, ct, by omega, hs'.tail⟩, by omega⟩
      · have e : (k : Int) = m - 1 := by omega
        rw [show m - 1 - (k : Int) = 0 by omega] at hr
        have hr2 := splTo_done hr (Int.le_refl _) _ hi.2
        exact RetS.mk' (if_pos ⟨hf, hne⟩) (by rw [finS_eq hr2]; simp) (by rw [finS_eq hr2]; exact hs'.tail.toNew)
  | false =>
    refine AC.enter Try.func50 Try.call50 rfl Try.ntmps50 (of_decide_eq_true (by rfl)) ?_
    repeat' (first
      | refine AW.seq ?_
      | (refine AW.region ?_; conv => whnf)
      | (refine AW.ret ?_; conv => whnf)
      | refine AW.cond (by rfl) ?_
      | (refine (sIsFuss_ok _ _ (by first | omega | (simp only [List.length_drop, List.length_take, List.length_append, List.length_cons, List.length_nil]; omega)) (by first | omega | (simp only [List.length_drop, List.length_take, List.length_append, List.length_cons, List.length_nil]; omega)) _).mono ?_; rintro v h' ⟨rfl, e'⟩; subst h'; conv => whnf)
      | (refine Br.tt ?_; conv => whnf)
      | refine Br.not ?_
      | (refine Br.f (by assumption) ?_; conv => whnf)
      | (refine NewG.st (by assumption) (fun bt h' hs' => ?_); conv => whnf))
    exact RetS.mk' (if_neg fun h => by rw [hf] at h; cases h.1) rfl hs'.toNew


end Go.Proofs.Ytdfdlnjijccpeaa
