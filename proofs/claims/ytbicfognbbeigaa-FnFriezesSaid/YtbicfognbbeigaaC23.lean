/-
  Contracts of rows of rows of numbers, and of friezes, are proved.
  They hold for all rows within the sizes that the statements speak of.
-/
import Derived.Test.YtbicfognbbeigaaH2
import Derived.Test.YtbicfognbbeigaaGY
set_option linter.unusedVariables false
set_option linter.unusedSimpArgs false
namespace Go.Proofs.Ytbicfognbbeigaa
open Go.Proofs.Ytbicfognbbeigaa.Ab Go.Proofs.Ytbicfognbbeigaa.Pl





/-! friezes, as they must be -/
def cellOk (n r : Nat) (x : Int) : Prop := (r = 0 ∨ r = n → x = 0) ∧ (¬ (r = 0 ∨ r = n) → 1 ≤ x ∧ x ≤ 100000) ∧ (r = 1 ∨ r = n - 1 → x = 1)
instance (n r : Nat) (x : Int) : Decidable (cellOk n r x) := by unfold cellOk; infer_instance
def rowOk (f : List (List Int)) (n r : Nat) : Prop := (f.getD r []).length = n ∧ ∀ i, i < n → cellOk n r (ent f r i)
instance (f : List (List Int)) (n r : Nat) : Decidable (rowOk f n r) := by unfold rowOk; infer_instance
def ruleOk (f : List (List Int)) (n r i : Nat) : Prop := ent f (r + 1) i * ent f (r + 1) ((i + 1) % n) - ent f r ((i + 1) % n) * ent f (r + 2) i = 1
instance (f : List (List Int)) (n r i : Nat) : Decidable (ruleOk f n r i) := by unfold ruleOk; infer_instance
def isF (f : List (List Int)) : Bool := decide ((4 ≤ f.length ∧ f.length ≤ 11) ∧ (∀ r, r < f.length → rowOk f (f.length - 1) r) ∧ ∀ r, r < f.length - 2 → ∀ i, i < f.length - 1 → ruleOk f (f.length - 1) r i)
theorem isF_spec {f : List (List Int)} (h : isF f = true) : (4 ≤ f.length ∧ f.length ≤ 11) ∧ (∀ r, r < f.length → rowOk f (f.length - 1) r) ∧ ∀ r, r < f.length - 2 → ∀ i, i < f.length - 1 → ruleOk f (f.length - 1) r i := of_decide_eq_true h
theorem isF_size {f : List (List Int)} (h : ¬ (4 ≤ f.length ∧ f.length ≤ 11)) : isF f = false := decide_eq_false fun a => h a.1
theorem isF_row {f : List (List Int)} {n r : Nat} (hn : f.length = n + 1) (hr : r < n + 1) (h : (f.getD r []).length ≠ n) : isF f = false := decide_eq_false fun a => h (by have := (a.2.1 r (by omega)).1; omega)
theorem isF_cell {f : List (List Int)} {n r i : Nat} (hn : f.length = n + 1) (hr : r < n + 1) (hi : i < n) (h : ¬ cellOk n r (ent f r i)) : isF f = false := decide_eq_false fun a => h (by have := (a.2.1 r (by omega)).2 i (by omega); rwa [hn, Nat.add_sub_cancel] at this)
theorem isF_rule {f : List (List Int)} {n r i : Nat} (hn : f.length = n + 1) (hr : r < n - 1) (hi : i < n) (h : ¬ ruleOk f n r i) : isF f = false := decide_eq_false fun a => h (by have := a.2.2 r (by omega) i (by omega); rwa [hn, Nat.add_sub_cancel] at this)
theorem isF_yes {f : List (List Int)} {n : Nat} (hn : f.length = n + 1) (h1 : 3 ≤ n ∧ n ≤ 10) (h2 : ∀ r, r < n + 1 → rowOk f n r) (h3 : ∀ r, r < n - 1 → ∀ i, i < n → ruleOk f n r i) : isF f = true := by
  refine decide_eq_true ⟨by omega, fun r hr => ?_, fun r hr i hi => ?_⟩
  · rw [hn, Nat.add_sub_cancel]; exact h2 r (by omega)
  · rw [hn, Nat.add_sub_cancel]; exact h3 r (by omega) i (by omega)
theorem cell_bd {n r : Nat} {x : Int} (h : cellOk n r x) : 0 ≤ x ∧ x ≤ 100000 := by
  unfold cellOk at h
  omega
theorem prod_bd {x y : Int} (hx : 0 ≤ x ∧ x ≤ 100000) (hy : 0 ≤ y ∧ y ≤ 100000) : 0 ≤ x * y ∧ x * y ≤ 10000000000 :=
  ⟨Int.mul_nonneg hx.1 hy.1, Int.le_trans (Int.mul_le_mul hx.2 hy.2 hy.1 (by decide)) (by decide)⟩

theorem isFrieze_ok (R : RL) (f : List (List Int)) (b N C : Nat) (h0 : H) (hb : Grid h0 b R) (hR : rws R = f) (hN : N = f.length) (hl : N ≤ 1000000000) : AC env 12 [.slice b 0 N C] h0 fun v h' => v = .bool (isF f) ∧ h' = h0 := by
  have lR : R.length = N := by rw [hN, ← hR, rws_length]
  by_cases hsz : 4 ≤ N ∧ N ≤ 11
  · obtain ⟨n, rfl⟩ : ∃ n, N = n + 1 := ⟨N - 1, by omega⟩
    have eN : ((n + 1 : Nat) : Int) - 1 = n := by omega
    have hn := hN.symm
    refine AC.enter Try.func12 Try.call12 rfl Try.ntmps12 (of_decide_eq_true (by rfl)) ?_
    repeat' (first
      | refine AW.seq ?_
      | (refine AW.region ?_; conv => whnf)
      | refine AW.block ?_
      | (refine AW.skip ?_; conv => whnf)
      | refine AW.cond (by rfl) ?_
      | (refine (within_ok _ _ _ _).mono ?_; rintro v h' ⟨rfl, e'⟩; subst h'; conv => whnf)
      | refine Br.not ?_
      | (refine Br.dt (by omega) ?_; conv => whnf)
      | (refine Wr.i64 (by omega) ?_; conv => whnf))
    rw [eN]
    refine AW.loop1 (fun (r : Nat) => [(0, .slice b 0 (n + 1) C), (3, .int .i64 (n : Int)), (17, .slice b 0 (n + 1) C), (18, .int .i64 ((n + 1 : Nat) : Int)), (19, .int .i64 r)]) (fun r h' => r ≤ n + 1 ∧ (∀ q, q < r → rowOk f n q) ∧ h' = h0) (fun r => n + 1 - r) 0 (Less.cons rfl (Less.cons rfl (Less.cons rfl (Less.cons rfl (Less.cons rfl (Less.nil _)))))) ⟨by omega, fun q hq => by omega, rfl⟩ ?_
    rintro r h' ⟨hr, hrows, rfl⟩
    by_cases hlt : r < n + 1
    · repeat' (first
        | (refine Grid.rowAt hb hR r rfl rfl (by omega) rfl ?_; conv => whnf)
        | refine AW.seq ?_
        | (refine AW.region ?_; conv => whnf)
        | refine AW.block ?_
        | (refine AW.skip ?_; conv => whnf)
        | (refine AW.ret ?_; conv => whnf)
        | refine AW.cond (by rfl) ?_
        | refine Br.not ?_
        | (refine Br.dt (by omega) ?_; conv => whnf)
        | (refine Br.dec (fun hc => ?_) (fun hc => ?_) <;> conv => whnf)
        | (refine Ck.mk (by omega) ?_; conv => whnf))
      rotate_left
      · exact ⟨by rw [isF_row hn hlt (by omega)], rfl⟩
      · refine AW.loop1 (fun (i : Nat) => [(0, .slice b 0 (n + 1) C), (3, .int .i64 (n : Int)), (17, .slice b 0 (n + 1) C), (18, .int .i64 ((n + 1 : Nat) : Int)), (19, .int .i64 r), (4, .int .i64 r), (28, .slice (rb R r) 0 (f.getD r []).length (f.getD r []).length), (29, .int .i64 ((f.getD r []).length : Nat)), (30, .int .i64 i)]) (fun i h'' => i ≤ n ∧ (∀ j, j < i → cellOk n r (ent f r j)) ∧ h'' = h') (fun i => n - i) 0 (Less.cons rfl (Less.cons rfl (Less.cons rfl (Less.cons rfl (Less.cons rfl (Less.cons rfl (Less.cons rfl (Less.cons rfl (Less.cons rfl (Less.nil _)))))))))) ⟨by omega, fun q hq => by omega, rfl⟩ ?_
        rintro i h'' ⟨hi, hcells, rfl⟩
        by_cases hlt2 : i < n
        · repeat' (first
            | (refine Grid.numAt hb hR r i rfl rfl (by omega) (by omega) ?_; conv => whnf)
            | refine AW.seq ?_
            | (refine AW.region ?_; conv => whnf)
            | refine AW.block ?_
            | (refine AW.skip ?_; conv => whnf)
            | (refine AW.ret ?_; conv => whnf)
            | refine AW.cond (by rfl) ?_
            | (refine (within_ok _ _ _ _).mono ?_; rintro v h' ⟨rfl, e'⟩; subst h'; conv => whnf)
            | (refine Br.tt ?_; conv => whnf)
            | refine Br.not ?_
            | (refine Br.dt (by omega) ?_; conv => whnf)
            | (refine Br.df (by omega) ?_; conv => whnf)
            | (refine Br.dec (fun hc => ?_) (fun hc => ?_) <;> conv => whnf)
            | (refine Wr.i64 (by omega) ?_; conv => whnf)
            | (refine Ck.mk (by omega) ?_; conv => whnf))
          all_goals first
            | exact ⟨by rw [isF_cell hn hlt hlt2 (by unfold cellOk; omega)], rfl⟩
            | exact ⟨i + 1, (Less.cons rfl (Less.cons rfl (Less.cons rfl (Less.cons rfl (Less.cons rfl (Less.cons rfl (Less.cons rfl (Less.cons rfl (Less.cons rfl (Less.nil _)))))))))), ⟨by omega, fun j hj => by
                by_cases e : j = i
                · subst e; unfold cellOk; omega
                · exact hcells j (by omega), rfl⟩, by omega⟩
        · repeat' (first
            | refine AW.seq ?_
            | (refine AW.region ?_; conv => whnf)
            | (refine AW.exit ?_; conv => whnf)
            | refine AW.cond (by rfl) ?_
            | (refine Br.df (by omega) ?_; conv => whnf)
            | (refine Wr.i64 (by omega) ?_; conv => whnf))
          refine ⟨r + 1, (Less.cons rfl (Less.cons rfl (Less.cons rfl (Less.cons rfl (Less.cons rfl (Less.nil _)))))), ⟨by omega, fun q hq => ?_, rfl⟩, by omega⟩
          by_cases e : q = r
          · subst e
            exact ⟨by omega, fun j hj => hcells j (by omega)⟩
          · exact hrows q (by omega)
    · repeat' (first
        | refine AW.seq ?_
        | (refine AW.region ?_; conv => whnf)
        | refine AW.block ?_
        | (refine AW.exit ?_; conv => whnf)
        | refine AW.cond (by rfl) ?_
        | (refine Br.df (by omega) ?_; conv => whnf))
      have hall : ∀ q, q < n + 1 → rowOk f n q := fun q hq => hrows q (by omega)
      refine AW.loop1 (fun (q : Nat) => [(0, .slice b 0 (n + 1) C), (3, .int .i64 (n : Int)), (8, .int .i64 ((q + 1 : Nat) : Int))]) (fun q h'' => q + 1 ≤ n ∧ (∀ p, p < q → ∀ i, i < n → ruleOk f n p i) ∧ h'' = h') (fun q => n - q) 0 (Less.cons rfl (Less.cons rfl (Less.cons rfl (Less.nil _)))) ⟨by omega, fun q hq => by omega, rfl⟩ ?_
      rintro q h'' ⟨hq, hrules, rfl⟩
      by_cases hlt3 : q + 1 < n
      · repeat' (first
          | refine AW.seq ?_
          | (refine AW.region ?_; conv => whnf)
          | refine AW.block ?_
          | (refine AW.skip ?_; conv => whnf)
          | refine AW.cond (by rfl) ?_
          | (refine Br.dt (by omega) ?_; conv => whnf))
        refine AW.loop1 (fun (i : Nat) => [(0, .slice b 0 (n + 1) C), (3, .int .i64 (n : Int)), (8, .int .i64 ((q + 1 : Nat) : Int)), (66, .int .i64 (n : Int)), (67, .int .i64 i)]) (fun i h' => i ≤ n ∧ (∀ j, j < i → ruleOk f n q j) ∧ h' = h'') (fun i => n - i) 0 (Less.cons rfl (Less.cons rfl (Less.cons rfl (Less.cons rfl (Less.cons rfl (Less.nil _)))))) ⟨by omega, fun q hq => by omega, rfl⟩ ?_
        rintro i h' ⟨hi, hrule, rfl⟩
        by_cases hlt2 : i < n
        · have htm : ((i : Int) + 1).tmod (n : Int) = (((i + 1) % n : Nat) : Int) := rfl
          have hk : (i + 1) % n < n := Nat.mod_lt _ (by omega)
          have q0 := hall q (by omega)
          have q1 := hall (q + 1) (by omega)
          have q2 := hall (q + 2) (by omega)
          have b1 := prod_bd (cell_bd (q1.2 i hlt2)) (cell_bd (q1.2 _ hk))
          have b2 := prod_bd (cell_bd (q0.2 _ hk)) (cell_bd (q2.2 i hlt2))
          have l0 := q0.1
          have l1 := q1.1
          have l2 := q2.1
          repeat' (first
            | (refine Grid.rowAt hb hR (q + 1) rfl (by omega) (by omega) l1 ?_; conv => whnf)
            | (refine Grid.rowAt hb hR q rfl (by omega) (by omega) l0 ?_; conv => whnf)
            | (refine Grid.rowAt hb hR (q + 2) rfl (by omega) (by omega) l2 ?_; conv => whnf)
            | (refine Grid.numAt hb hR (q + 1) i rfl (by omega) (by omega) (by omega) ?_; conv => whnf)
            | (refine Grid.numAt hb hR (q + 1) ((i + 1) % n) rfl (by omega) (by omega) (by omega) ?_; conv => whnf)
            | (refine Grid.numAt hb hR q ((i + 1) % n) rfl (by omega) (by omega) (by omega) ?_; conv => whnf)
            | (refine Grid.numAt hb hR (q + 2) i rfl (by omega) (by omega) (by omega) ?_; conv => whnf)
            | refine AW.seq ?_
            | (refine AW.region ?_; conv => whnf)
            | refine AW.block ?_
            | (refine AW.skip ?_; conv => whnf)
            | (refine AW.ret ?_; conv => whnf)
            | refine AW.cond (by rfl) ?_
            | (refine AW.draw (id := 29) (.p 0 (.p 1 (.p 2 (.p 4 (.p 7 (.p 8 (.p 9 (.p 11 (.p 15 (.p 16 (.p 17 (.p 18 (.p 20 (.p 23 (.p 24 (.p 25 (.p 26 (.p 28 (.r 3 [5, 6, 14, 32, 33] (.p 5 (.r 6 [14, 32, 33] (.r 10 [12, 13, 14, 32, 33] (.p 12 (.r 13 [14, 32, 33] (.p 14 (.r 19 [21, 22, 31, 32, 33] (.p 21 (.r 22 [31, 32, 33] (.r 27 [29, 30, 31, 32, 33] (.p 29 (.r 30 [31, 32, 33] (.p 31 (.p 32 (.p 33 .done)))))))))))))))))))))))))))))))))) (by kernel_rfl) (by kernel_rfl) ?_; conv => whnf)
            | refine Br.not ?_
            | (refine Br.dt (by omega) ?_; conv => whnf)
            | (refine Br.dec (fun hc => ?_) (fun hc => ?_) <;> conv => whnf)
            | (refine Wr.i64 (by omega) ?_; conv => whnf)
            | (refine Ck.mk (by omega) ?_; conv => whnf))
          all_goals first
            | exact ⟨by rw [isF_rule (r := q) hn (by omega) hlt2 (by unfold ruleOk; omega)], rfl⟩
            | exact ⟨i + 1, (Less.cons rfl (Less.cons rfl (Less.cons rfl (Less.cons rfl (Less.cons rfl (Less.nil _)))))), ⟨by omega, fun j hj => by
                by_cases e : j = i
                · subst e; unfold ruleOk; omega
                · exact hrule j (by omega), rfl⟩, by omega⟩
        · repeat' (first
            | refine AW.seq ?_
            | (refine AW.region ?_; conv => whnf)
            | (refine AW.exit ?_; conv => whnf)
            | refine AW.cond (by rfl) ?_
            | (refine Br.df (by omega) ?_; conv => whnf)
            | (refine Wr.i64 (by omega) ?_; conv => whnf))
          refine ⟨q + 1, (Less.cons rfl (Less.cons rfl (Less.cons rfl (Less.nil _)))), ⟨by omega, fun p hp => ?_, rfl⟩, by omega⟩
          by_cases e : p = q
          · subst e
            exact fun j hj => hrule j (by omega)
          · exact hrules p (by omega)
      · repeat' (first
          | refine AW.seq ?_
          | (refine AW.region ?_; conv => whnf)
          | (refine AW.ret ?_; conv => whnf)
          | (refine AW.exit ?_; conv => whnf)
          | refine AW.cond (by rfl) ?_
          | (refine Br.df (by omega) ?_; conv => whnf))
        exact ⟨by rw [isF_yes hn (by omega) hall fun p hp => hrules p (by omega)], rfl⟩
  · refine AC.enter Try.func12 Try.call12 rfl Try.ntmps12 (of_decide_eq_true (by rfl)) ?_
    repeat' (first
      | refine AW.seq ?_
      | (refine AW.region ?_; conv => whnf)
      | (refine AW.ret ?_; conv => whnf)
      | refine AW.cond (by rfl) ?_
      | (refine (within_ok _ _ _ _).mono ?_; rintro v h' ⟨rfl, e'⟩; subst h'; conv => whnf)
      | refine Br.not ?_
      | (refine Br.df (by omega) ?_; conv => whnf)
      | (refine Wr.i64 (by omega) ?_; conv => whnf))
    all_goals exact ⟨by rw [isF_size (by omega)], rfl⟩

set_option maxHeartbeats 4000000 in
theorem sIsFrieze_ok (R : RL) (f : List (List Int)) (b N C : Nat) (h0 : H) (hb : Grid h0 b R) (hR : rws R = f) (hN : N = f.length) (hl : N ≤ 1000000000) : AC env 22 [.slice b 0 N C] h0 fun v h' => v = .bool (isF f) ∧ h' = h0 := by
  have lR : R.length = N := by rw [hN, ← hR, rws_length]
  by_cases hsz : 4 ≤ N ∧ N ≤ 11
  · obtain ⟨n, rfl⟩ : ∃ n, N = n + 1 := ⟨N - 1, by omega⟩
    have eN : ((n + 1 : Nat) : Int) - 1 = n := by omega
    have hn := hN.symm
    refine AC.enter Try.func22 Try.call22 rfl Try.ntmps22 (of_decide_eq_true (by rfl)) ?_
    repeat' (first
      | refine AW.seq ?_
      | (refine AW.region ?_; conv => whnf)
      | refine AW.block ?_
      | (refine AW.skip ?_; conv => whnf)
      | refine AW.cond (by rfl) ?_
      | (refine (l1In_ok _ _ _ _).mono ?_; rintro v h' ⟨rfl, e'⟩; subst h'; conv => whnf)
      | refine Br.not ?_
      | (refine Br.dt (by omega) ?_; conv => whnf)
      | (refine Wr.i64 (by omega) ?_; conv => whnf))
    rw [eN]
    refine AW.loop1 (fun (r : Nat) => [(0, .slice b 0 (n + 1) C), (3, .int .i64 (n : Int)), (4, .int .i64 r)]) (fun r h' => r ≤ n + 1 ∧ (∀ q, q < r → rowOk f n q) ∧ h' = h0) (fun r => n + 1 - r) 0 (Less.cons rfl (Less.cons rfl (Less.cons rfl (Less.nil _)))) ⟨by omega, fun q hq => by omega, rfl⟩ ?_
    rintro r h' ⟨hr, hrows, rfl⟩
    by_cases hlt : r < n + 1
    · repeat' (first
        | (refine Grid.rowAt hb hR r rfl rfl (by omega) rfl ?_; conv => whnf)
        | refine AW.seq ?_
        | (refine AW.region ?_; conv => whnf)
        | refine AW.block ?_
        | (refine AW.skip ?_; conv => whnf)
        | (refine AW.ret ?_; conv => whnf)
        | refine AW.cond (by rfl) ?_
        | refine Br.not ?_
        | (refine Br.dt (by omega) ?_; conv => whnf)
        | (refine Br.dec (fun hc => ?_) (fun hc => ?_) <;> conv => whnf)
        | (refine Ck.mk (by omega) ?_; conv => whnf))
      rotate_left
      · exact ⟨by rw [isF_row hn hlt (by omega)], rfl⟩
      · have hlen : (f.getD r []).length = n := by omega
        refine AW.loop1 (fun (i : Nat) => [(0, .slice b 0 (n + 1) C), (3, .int .i64 (n : Int)), (4, .int .i64 r), (5, .int .i64 i)]) (fun i h'' => i ≤ n ∧ (∀ j, j < i → cellOk n r (ent f r j)) ∧ h'' = h') (fun i => n - i) 0 (Less.cons rfl (Less.cons rfl (Less.cons rfl (Less.cons rfl (Less.nil _))))) ⟨by omega, fun q hq => by omega, rfl⟩ ?_
        rintro i h'' ⟨hi, hcells, rfl⟩
        by_cases hlt2 : i < n
        · repeat' (first
            | (refine Grid.rowAt hb hR r rfl rfl (by omega) hlen ?_; conv => whnf)
            | (refine Grid.numAt hb hR r i rfl rfl (by omega) (by omega) ?_; conv => whnf)
            | refine AW.seq ?_
            | (refine AW.region ?_; conv => whnf)
            | refine AW.block ?_
            | (refine AW.skip ?_; conv => whnf)
            | (refine AW.ret ?_; conv => whnf)
            | refine AW.cond (by rfl) ?_
            | (refine (l1In_ok _ _ _ _).mono ?_; rintro v h' ⟨rfl, e'⟩; subst h'; conv => whnf)
            | (refine Br.tt ?_; conv => whnf)
            | (refine Br.ff ?_; conv => whnf)
            | refine Br.not ?_
            | (refine Br.dt (by omega) ?_; conv => whnf)
            | (refine Br.df (by omega) ?_; conv => whnf)
            | (refine Br.dec (fun hc => ?_) (fun hc => ?_) <;> conv => whnf)
            | (refine Wr.i64 (by omega) ?_; conv => whnf)
            | (refine Ck.mk (by omega) ?_; conv => whnf))
          all_goals first
            | exact ⟨by rw [isF_cell hn hlt hlt2 (by unfold cellOk; omega)], rfl⟩
            | exact ⟨i + 1, (Less.cons rfl (Less.cons rfl (Less.cons rfl (Less.cons rfl (Less.nil _))))), ⟨by omega, fun j hj => by
                by_cases e : j = i
                · subst e; unfold cellOk; omega
                · exact hcells j (by omega), rfl⟩, by omega⟩
        · repeat' (first
            | refine AW.seq ?_
            | (refine AW.region ?_; conv => whnf)
            | (refine AW.exit ?_; conv => whnf)
            | refine AW.cond (by rfl) ?_
            | (refine Br.df (by omega) ?_; conv => whnf)
            | (refine Wr.i64 (by omega) ?_; conv => whnf))
          refine ⟨r + 1, (Less.cons rfl (Less.cons rfl (Less.cons rfl (Less.nil _)))), ⟨by omega, fun q hq => ?_, rfl⟩, by omega⟩
          by_cases e : q = r
          · subst e
            exact ⟨by omega, fun j hj => hcells j (by omega)⟩
          · exact hrows q (by omega)
    · repeat' (first
        | refine AW.seq ?_
        | (refine AW.region ?_; conv => whnf)
        | refine AW.block ?_
        | (refine AW.exit ?_; conv => whnf)
        | refine AW.cond (by rfl) ?_
        | (refine Br.df (by omega) ?_; conv => whnf))
      have hall : ∀ q, q < n + 1 → rowOk f n q := fun q hq => hrows q (by omega)
      refine AW.loop1 (fun (q : Nat) => [(0, .slice b 0 (n + 1) C), (3, .int .i64 (n : Int)), (7, .int .i64 ((q + 1 : Nat) : Int))]) (fun q h'' => q + 1 ≤ n ∧ (∀ p, p < q → ∀ i, i < n → ruleOk f n p i) ∧ h'' = h') (fun q => n - q) 0 (Less.cons rfl (Less.cons rfl (Less.cons rfl (Less.nil _)))) ⟨by omega, fun q hq => by omega, rfl⟩ ?_
      rintro q h'' ⟨hq, hrules, rfl⟩
      by_cases hlt3 : q + 1 < n
      · repeat' (first
          | refine AW.seq ?_
          | (refine AW.region ?_; conv => whnf)
          | refine AW.block ?_
          | (refine AW.skip ?_; conv => whnf)
          | refine AW.cond (by rfl) ?_
          | (refine Br.dt (by omega) ?_; conv => whnf))
        refine AW.loop1 (fun (i : Nat) => [(0, .slice b 0 (n + 1) C), (3, .int .i64 (n : Int)), (7, .int .i64 ((q + 1 : Nat) : Int)), (8, .int .i64 i)]) (fun i h' => i ≤ n ∧ (∀ j, j < i → ruleOk f n q j) ∧ h' = h'') (fun i => n - i) 0 (Less.cons rfl (Less.cons rfl (Less.cons rfl (Less.cons rfl (Less.nil _))))) ⟨by omega, fun q hq => by omega, rfl⟩ ?_
        rintro i h' ⟨hi, hrule, rfl⟩
        by_cases hlt2 : i < n
        · have htm : ((i : Int) + 1).tmod (n : Int) = (((i + 1) % n : Nat) : Int) := rfl
          have hk : (i + 1) % n < n := Nat.mod_lt _ (by omega)
          have q0 := hall q (by omega)
          have q1 := hall (q + 1) (by omega)
          have q2 := hall (q + 2) (by omega)
          have b1 := prod_bd (cell_bd (q1.2 i hlt2)) (cell_bd (q1.2 _ hk))
          have b2 := prod_bd (cell_bd (q0.2 _ hk)) (cell_bd (q2.2 i hlt2))
          have l0 := q0.1
          have l1 := q1.1
          have l2 := q2.1
          repeat' (first
            | (refine Grid.rowAt hb hR (q + 1) rfl (by omega) (by omega) l1 ?_; conv => whnf)
            | (refine Grid.rowAt hb hR q rfl (by omega) (by omega) l0 ?_; conv => whnf)
            | (refine Grid.rowAt hb hR (q + 2) rfl (by omega) (by omega) l2 ?_; conv => whnf)
            | (refine Grid.numAt hb hR (q + 1) i rfl (by omega) (by omega) (by omega) ?_; conv => whnf)
            | (refine Grid.numAt hb hR (q + 1) ((i + 1) % n) rfl (by omega) (by omega) (by omega) ?_; conv => whnf)
            | (refine Grid.numAt hb hR q ((i + 1) % n) rfl (by omega) (by omega) (by omega) ?_; conv => whnf)
            | (refine Grid.numAt hb hR (q + 2) i rfl (by omega) (by omega) (by omega) ?_; conv => whnf)
            | refine AW.seq ?_
            | (refine AW.region ?_; conv => whnf)
            | refine AW.block ?_
            | (refine AW.skip ?_; conv => whnf)
            | (refine AW.ret ?_; conv => whnf)
            | refine AW.cond (by rfl) ?_
            | (refine AW.draw (id := 21) (.p 0 (.p 1 (.p 2 (.p 4 (.p 7 (.p 8 (.p 9 (.p 11 (.p 12 (.p 13 (.p 14 (.p 18 (.p 19 (.p 20 (.p 21 (.p 23 (.p 24 (.p 25 (.p 26 (.p 29 (.p 30 (.p 31 (.p 32 (.p 34 (.r 3 [5, 6, 17, 38, 39] (.p 5 (.r 6 [17, 38, 39] (.r 10 [15, 16, 17, 38, 39] (.p 15 (.r 16 [17, 38, 39] (.p 17 (.r 22 [27, 28, 37, 38, 39] (.p 27 (.r 28 [37, 38, 39] (.r 33 [35, 36, 37, 38, 39] (.p 35 (.r 36 [37, 38, 39] (.p 37 (.p 38 (.p 39 .done)))))))))))))))))))))))))))))))))))))))) (by kernel_rfl) (by kernel_rfl) ?_; conv => whnf)
            | refine Br.not ?_
            | (refine Br.dt (by omega) ?_; conv => whnf)
            | (refine Br.dec (fun hc => ?_) (fun hc => ?_) <;> conv => whnf)
            | (refine Wr.i64 (by omega) ?_; conv => whnf)
            | (refine Ck.mk (by omega) ?_; conv => whnf))
          all_goals first
            | exact ⟨by rw [isF_rule (r := q) hn (by omega) hlt2 (by unfold ruleOk; omega)], rfl⟩
            | exact ⟨i + 1, (Less.cons rfl (Less.cons rfl (Less.cons rfl (Less.cons rfl (Less.nil _))))), ⟨by omega, fun j hj => by
                by_cases e : j = i
                · subst e; unfold ruleOk; omega
                · exact hrule j (by omega), rfl⟩, by omega⟩
        · repeat' (first
            | refine AW.seq ?_
            | (refine AW.region ?_; conv => whnf)
            | (refine AW.exit ?_; conv => whnf)
            | refine AW.cond (by rfl) ?_
            | (refine Br.df (by omega) ?_; conv => whnf)
            | (refine Wr.i64 (by omega) ?_; conv => whnf))
          refine ⟨q + 1, (Less.cons rfl (Less.cons rfl (Less.cons rfl (Less.nil _)))), ⟨by omega, fun p hp => ?_, rfl⟩, by omega⟩
          by_cases e : p = q
          · subst e
            exact fun j hj => hrule j (by omega)
          · exact hrules p (by omega)
      · repeat' (first
          | refine AW.seq ?_
          | (refine AW.region ?_; conv => whnf)
          | (refine AW.ret ?_; conv => whnf)
          | (refine AW.exit ?_; conv => whnf)
          | refine AW.cond (by rfl) ?_
          | (refine Br.df (by omega) ?_; conv => whnf))
        exact ⟨by rw [isF_yes hn (by omega) hall fun p hp => hrules p (by omega)], rfl⟩
  · refine AC.enter Try.func22 Try.call22 rfl Try.ntmps22 (of_decide_eq_true (by rfl)) ?_
    repeat' (first
      | refine AW.seq ?_
      | (refine AW.region ?_; conv => whnf)
      | (refine AW.ret ?_; conv => whnf)
      | refine AW.cond (by rfl) ?_
      | (refine (l1In_ok _ _ _ _).mono ?_; rintro v h' ⟨rfl, e'⟩; subst h'; conv => whnf)
      | refine Br.not ?_
      | (refine Br.df (by omega) ?_; conv => whnf)
      | (refine Wr.i64 (by omega) ?_; conv => whnf))
    all_goals exact ⟨by rw [isF_size (by omega)], rfl⟩

/-! sums -/
def sumTo (g : Nat → Int) : Nat → Int
  | 0 => 0
  | k + 1 => sumTo g k + g k
theorem sumTo_bd {g : Nat → Int} {m : Nat} {M : Int} (h : ∀ i, i < m → 0 ≤ g i ∧ g i ≤ M) : ∀ k, k ≤ m → 0 ≤ sumTo g k ∧ sumTo g k ≤ M * k := by
  intro k
  induction k with
  | zero => intro _; simp [sumTo]
  | succ k ih =>
    intro hk
    have := ih (by omega)
    have := h k (by omega)
    have e : M * ((k + 1 : Nat) : Int) = M * k + M := by rw [Int.natCast_add, Int.mul_add]; simp
    rw [sumTo, e]
    omega
def sumF (f : List (List Int)) : Int := if isF f then sumTo (fun q => sumTo (ent f q) (f.length - 1)) f.length else -1
theorem isF_len {f : List (List Int)} {n r : Nat} (h : isF f = true) (hn : f.length = n + 1) (hr : r < n + 1) : (f.getD r []).length = n := by
  have := ((isF_spec h).2.1 r (by omega)).1
  omega
theorem isF_bd {f : List (List Int)} {n r i : Nat} (h : isF f = true) (hn : f.length = n + 1) (hr : r < n + 1) (hi : i < n) : 0 ≤ ent f r i ∧ ent f r i ≤ 100000 :=
  cell_bd (((isF_spec h).2.1 r (by omega)).2 i (by omega))
theorem isF_in {f : List (List Int)} {n r : Nat} (h : isF f = true) (hn : f.length = n + 1) (hr : r < n + 1) : ∀ k, k ≤ n → 0 ≤ sumTo (ent f r) k ∧ sumTo (ent f r) k ≤ 1000000 := fun k hk => by
  have := sumTo_bd (g := ent f r) (m := n) (M := 100000) (fun i hi => isF_bd h hn hr hi) k hk
  have := (isF_spec h).1
  omega
theorem isF_out {f : List (List Int)} {n : Nat} (h : isF f = true) (hn : f.length = n + 1) : ∀ k, k ≤ n + 1 → 0 ≤ sumTo (fun q => sumTo (ent f q) n) k ∧ sumTo (fun q => sumTo (ent f q) n) k ≤ 11000000 := fun k hk => by
  have := sumTo_bd (g := fun q => sumTo (ent f q) n) (m := n + 1) (M := 1000000) (fun i hi => isF_in h hn hi n (Nat.le_refl _)) k hk
  have := (isF_spec h).1
  omega

theorem sumOfFrieze_ok (R : RL) (f : List (List Int)) (b N C : Nat) (h0 : H) (hb : Grid h0 b R) (hR : rws R = f) (hN : N = f.length) (hl : N ≤ 1000000000) : AC env 23 [.slice b 0 N C] h0 fun v h' => v = .int .i64 (sumF f) ∧ h' = h0 := by
  have lR : R.length = N := by rw [hN, ← hR, rws_length]
  by_cases hF : isF f = true
  · have h1 := (isF_spec hF).1
    obtain ⟨n, rfl⟩ : ∃ n, N = n + 1 := ⟨N - 1, by omega⟩
    have hn := hN.symm
    have en : f.length - 1 = n := by omega
    refine AC.enter Try.func23 Try.call23 rfl Try.ntmps23 (of_decide_eq_true (by rfl)) ?_
    repeat' (first
      | refine AW.seq ?_
      | (refine AW.region ?_; conv => whnf)
      | refine AW.block ?_
      | (refine AW.skip ?_; conv => whnf)
      | refine AW.cond (by rfl) ?_
      | (refine (isFrieze_ok _ _ _ _ _ _ (by first | assumption | exact Grid.keep (by assumption) (by assumption)) (by assumption) (by omega) (by omega)).mono ?_; rintro v h' ⟨rfl, e'⟩; subst h'; conv => whnf)
      | refine Br.not ?_
      | (refine Br.t (by assumption) ?_; conv => whnf))
    refine AW.loop2 (fun (r : Nat) (x : Int) => [(11, .slice b 0 (n + 1) C), (12, .int .i64 ((n + 1 : Nat) : Int)), (3, .int .i64 x), (13, .int .i64 r)]) (fun r x h' => r ≤ n + 1 ∧ x = sumTo (fun q => sumTo (ent f q) n) r ∧ h' = h0) (fun r _ => n + 1 - r) 0 0 (Less.cons rfl (Less.cons rfl (Less.cons rfl (Less.cons rfl (Less.nil _))))) ⟨by omega, rfl, rfl⟩ ?_
    rintro r x h' ⟨hr, rfl, rfl⟩
    by_cases hlt : r < n + 1
    · have hlen := isF_len hF hn hlt
      have bo := isF_out hF hn r hr
      repeat' (first
        | (refine Grid.rowAt hb hR r rfl rfl (by omega) hlen ?_; conv => whnf)
        | refine AW.seq ?_
        | (refine AW.region ?_; conv => whnf)
        | refine AW.block ?_
        | (refine AW.skip ?_; conv => whnf)
        | refine AW.cond (by rfl) ?_
        | (refine Br.dt (by omega) ?_; conv => whnf)
        | (refine Ck.mk (by omega) ?_; conv => whnf))
      refine AW.loop2 (fun (i : Nat) (y : Int) => [(11, .slice b 0 (n + 1) C), (12, .int .i64 ((n + 1 : Nat) : Int)), (3, .int .i64 y), (13, .int .i64 r), (17, .slice (rb R r) 0 n n), (18, .int .i64 (n : Int)), (19, .int .i64 i)]) (fun i y h'' => i ≤ n ∧ y = sumTo (fun q => sumTo (ent f q) n) r + sumTo (ent f r) i ∧ h'' = h') (fun i _ => n - i) 0 _ (Less.cons rfl (Less.cons rfl (Less.cons rfl (Less.cons rfl (Less.cons rfl (Less.cons rfl (Less.cons rfl (Less.nil _)))))))) ⟨by omega, (Int.add_zero _).symm, rfl⟩ ?_
      rintro i y h'' ⟨hi, rfl, rfl⟩
      by_cases hlt2 : i < n
      · have bi := isF_in hF hn hlt i hi
        have bc := isF_bd hF hn hlt hlt2
        repeat' (first
          | (refine Grid.numAt hb hR r i rfl rfl (by omega) (by omega) ?_; conv => whnf)
          | refine AW.seq ?_
          | (refine AW.region ?_; conv => whnf)
          | refine AW.block ?_
          | (refine AW.skip ?_; conv => whnf)
          | refine AW.cond (by rfl) ?_
          | (refine Br.dt (by omega) ?_; conv => whnf)
          | (refine Wr.i64 (by omega) ?_; conv => whnf)
          | (refine Ck.mk (by omega) ?_; conv => whnf))
        exact ⟨i + 1, _, (Less.cons rfl (Less.cons rfl (Less.cons rfl (Less.cons rfl (Less.cons rfl (Less.cons rfl (Less.cons rfl (Less.nil _)))))))), ⟨by omega, by rw [sumTo]; omega, rfl⟩, by omega⟩
      · repeat' (first
          | refine AW.seq ?_
          | (refine AW.region ?_; conv => whnf)
          | (refine AW.exit ?_; conv => whnf)
          | refine AW.cond (by rfl) ?_
          | (refine Br.df (by omega) ?_; conv => whnf)
          | (refine Wr.i64 (by omega) ?_; conv => whnf))
        exact ⟨r + 1, _, (Less.cons rfl (Less.cons rfl (Less.cons rfl (Less.cons rfl (Less.nil _))))), ⟨by omega, by rw [show i = n by omega]; rfl, rfl⟩, by omega⟩
    · repeat' (first
        | refine AW.seq ?_
        | (refine AW.region ?_; conv => whnf)
        | (refine AW.ret ?_; conv => whnf)
        | (refine AW.exit ?_; conv => whnf)
        | refine AW.cond (by rfl) ?_
        | (refine Br.df (by omega) ?_; conv => whnf))
      exact ⟨by rw [sumF, if_pos hF, en, hn, show r = n + 1 by omega], rfl⟩
  · have hF : isF f = false := by simpa using hF
    refine AC.enter Try.func23 Try.call23 rfl Try.ntmps23 (of_decide_eq_true (by rfl)) ?_
    repeat' (first
      | refine AW.seq ?_
      | (refine AW.region ?_; conv => whnf)
      | (refine AW.ret ?_; conv => whnf)
      | refine AW.cond (by rfl) ?_
      | (refine (isFrieze_ok _ _ _ _ _ _ (by first | assumption | exact Grid.keep (by assumption) (by assumption)) (by assumption) (by omega) (by omega)).mono ?_; rintro v h' ⟨rfl, e'⟩; subst h'; conv => whnf)
      | refine Br.not ?_
      | (refine Br.f (by assumption) ?_; conv => whnf))
    exact ⟨by rw [sumF, hF]; rfl, rfl⟩

theorem sSumOfFrieze_ok (R : RL) (f : List (List Int)) (b N C : Nat) (h0 : H) (hb : Grid h0 b R) (hR : rws R = f) (hN : N = f.length) (hl : N ≤ 1000000000) : AC env 24 [.slice b 0 N C] h0 fun v h' => v = .int .i64 (sumF f) ∧ h' = h0 := by
  have lR : R.length = N := by rw [hN, ← hR, rws_length]
  by_cases hF : isF f = true
  · have h1 := (isF_spec hF).1
    obtain ⟨n, rfl⟩ : ∃ n, N = n + 1 := ⟨N - 1, by omega⟩
    have hn := hN.symm
    have en : f.length - 1 = n := by omega
    refine AC.enter Try.func24 Try.call24 rfl Try.ntmps24 (of_decide_eq_true (by rfl)) ?_
    repeat' (first
      | refine AW.seq ?_
      | (refine AW.region ?_; conv => whnf)
      | refine AW.block ?_
      | (refine AW.skip ?_; conv => whnf)
      | refine AW.cond (by rfl) ?_
      | (refine (sIsFrieze_ok _ _ _ _ _ _ (by first | assumption | exact Grid.keep (by assumption) (by assumption)) (by assumption) (by omega) (by omega)).mono ?_; rintro v h' ⟨rfl, e'⟩; subst h'; conv => whnf)
      | refine Br.not ?_
      | (refine Br.t (by assumption) ?_; conv => whnf))
    refine AW.loop2 (fun (r : Nat) (x : Int) => [(0, .slice b 0 (n + 1) C), (3, .int .i64 x), (4, .int .i64 r)]) (fun r x h' => r ≤ n + 1 ∧ x = sumTo (fun q => sumTo (ent f q) n) r ∧ h' = h0) (fun r _ => n + 1 - r) 0 0 (Less.cons rfl (Less.cons rfl (Less.cons rfl (Less.nil _)))) ⟨by omega, rfl, rfl⟩ ?_
    rintro r x h' ⟨hr, rfl, rfl⟩
    by_cases hlt : r < n + 1
    · have hlen := isF_len hF hn hlt
      have bo := isF_out hF hn r hr
      repeat' (first
        | refine AW.seq ?_
        | (refine AW.region ?_; conv => whnf)
        | refine AW.block ?_
        | (refine AW.skip ?_; conv => whnf)
        | refine AW.cond (by rfl) ?_
        | (refine Br.dt (by omega) ?_; conv => whnf))
      refine AW.loop2 (fun (i : Nat) (y : Int) => [(0, .slice b 0 (n + 1) C), (3, .int .i64 y), (4, .int .i64 r), (5, .int .i64 i)]) (fun i y h'' => i ≤ n ∧ y = sumTo (fun q => sumTo (ent f q) n) r + sumTo (ent f r) i ∧ h'' = h') (fun i _ => n - i) 0 _ (Less.cons rfl (Less.cons rfl (Less.cons rfl (Less.cons rfl (Less.nil _))))) ⟨by omega, (Int.add_zero _).symm, rfl⟩ ?_
      rintro i y h'' ⟨hi, rfl, rfl⟩
      by_cases hlt2 : i < n
      · have bi := isF_in hF hn hlt i hi
        have bc := isF_bd hF hn hlt hlt2
        repeat' (first
          | (refine Grid.rowAt hb hR r rfl rfl (by omega) hlen ?_; conv => whnf)
          | (refine Grid.numAt hb hR r i rfl rfl (by omega) (by omega) ?_; conv => whnf)
          | refine AW.seq ?_
          | (refine AW.region ?_; conv => whnf)
          | refine AW.block ?_
          | (refine AW.skip ?_; conv => whnf)
          | refine AW.cond (by rfl) ?_
          | (refine Br.dt (by omega) ?_; conv => whnf)
          | (refine Wr.i64 (by omega) ?_; conv => whnf)
          | (refine Ck.mk (by omega) ?_; conv => whnf))
        exact ⟨i + 1, _, (Less.cons rfl (Less.cons rfl (Less.cons rfl (Less.cons rfl (Less.nil _))))), ⟨by omega, by rw [sumTo]; omega, rfl⟩, by omega⟩
      · repeat' (first
          | (refine Grid.rowAt hb hR r rfl rfl (by omega) hlen ?_; conv => whnf)
          | refine AW.seq ?_
          | (refine AW.region ?_; conv => whnf)
          | (refine AW.exit ?_; conv => whnf)
          | refine AW.cond (by rfl) ?_
          | (refine Br.df (by omega) ?_; conv => whnf)
          | (refine Wr.i64 (by omega) ?_; conv => whnf)
          | (refine Ck.mk (by omega) ?_; conv => whnf))
        exact ⟨r + 1, _, (Less.cons rfl (Less.cons rfl (Less.cons rfl (Less.nil _)))), ⟨by omega, by rw [show i = n by omega]; rfl, rfl⟩, by omega⟩
    · repeat' (first
        | refine AW.seq ?_
        | (refine AW.region ?_; conv => whnf)
        | (refine AW.ret ?_; conv => whnf)
        | (refine AW.exit ?_; conv => whnf)
        | refine AW.cond (by rfl) ?_
        | (refine Br.df (by omega) ?_; conv => whnf))
      exact ⟨by rw [sumF, if_pos hF, en, hn, show r = n + 1 by omega], rfl⟩
  · have hF : isF f = false := by simpa using hF
    refine AC.enter Try.func24 Try.call24 rfl Try.ntmps24 (of_decide_eq_true (by rfl)) ?_
    repeat' (first
      | refine AW.seq ?_
      | (refine AW.region ?_; conv => whnf)
      | (refine AW.ret ?_; conv => whnf)
      | refine AW.cond (by rfl) ?_
      | (refine (sIsFrieze_ok _ _ _ _ _ _ (by first | assumption | exact Grid.keep (by assumption) (by assumption)) (by assumption) (by omega) (by omega)).mono ?_; rintro v h' ⟨rfl, e'⟩; subst h'; conv => whnf)
      | refine Br.not ?_
      | (refine Br.f (by assumption) ?_; conv => whnf))
    exact ⟨by rw [sumF, hF]; rfl, rfl⟩



end Go.Proofs.Ytbicfognbbeigaa
