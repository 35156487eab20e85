/-
  Contracts of the matchings of all paths are proved.
  They hold for up to six letters of each kind.
-/
import Derived.Test.YtbicfognbbeigaaGreatH3
import Derived.Test.YtbicfognbbeigaaGreatH2
import Derived.Test.YtbicfognbbeigaaGreatH0
import Derived.Test.YtbicfognbbeigaaGreatGY
set_option linter.unusedVariables false
set_option linter.unusedSimpArgs false
namespace Go.Proofs.YtbicfognbbeigaaGreat
open Go.Proofs.YtbicfognbbeigaaGreat.Ab Go.Proofs.YtbicfognbbeigaaGreat.Pl

def ptL (w : List UInt8) : List Int := (List.range w.length).map fun i => (((pt w i).getD 0 : Nat) : Int)
def okW (n : Nat) (w : List UInt8) : Bool := w.length == 2 * n && isDyck w && (List.range w.length).all (fun i => (pt w i).isSome) && (match stI w w.length with
  | some p => p.2 == ptL w
  | none => false) && isNC (ptL w)
theorem paths_fine : ∀ n, n < 7 → (dyAll (2 * n + 1) [] n n).all (okW n) = true := by decide +kernel
theorem ptL_len (w : List UInt8) : (ptL w).length = w.length := by simp [ptL]
theorem okW_spec {n : Nat} {w : List UInt8} (h : okW n w = true) : w.length = 2 * n ∧ isDyck w = true ∧ (∀ i, i < w.length → ∃ p : Nat, pt w i = some p ∧ (ptL w).getD i 0 = p) ∧ (∃ o, stI w w.length = some (o, ptL w)) ∧ isNC (ptL w) = true := by
  unfold okW at h
  simp only [Bool.and_eq_true, beq_iff_eq, List.all_eq_true, List.mem_range] at h
  obtain ⟨⟨⟨⟨h1, h2⟩, h3⟩, h4⟩, h5⟩ := h
  refine ⟨h1, h2, fun i hi => ?_, ?_, h5⟩
  · obtain ⟨p, hp⟩ := Option.isSome_iff_exists.1 (h3 i hi)
    refine ⟨p, hp, ?_⟩
    simp [ptL, List.getD, hi, hp]
  · cases e : stI w w.length with
    | none => rw [e] at h4; cases h4
    | some p =>
      rw [e] at h4
      obtain ⟨o, l⟩ := p
      simp only [beq_iff_eq] at h4
      exact ⟨o, by rw [← h4]⟩
/-- all paths of a size -/
def dyP (n : Nat) : List (List UInt8) := dyAll (2 * n + 1) [] n n
theorem dyP_len {n : Nat} (h : n ≤ 6) : (dyP n).length ≤ 8192 := by
  have := dyAll_len (2 * n + 1) [] n n
  have := Nat.pow_le_pow_right (n := 2) (by decide) (show 2 * n + 1 ≤ 13 by omega)
  unfold dyP
  omega
theorem dyP_at {n k : Nat} (h : n ≤ 6) (hk : k < (dyP n).length) : okW n ((dyP n).getD k []) = true := by
  have e : (dyP n).getD k [] = (dyP n)[k] := by simp [List.getD, hk]
  rw [e]
  exact List.all_eq_true.1 (paths_fine n (by omega)) _ (List.getElem_mem hk)


end Go.Proofs.YtbicfognbbeigaaGreat

/-
  Contracts of sums and of rows that are compared are proved.
  They hold for all rows of at most 1000 numbers.
-/
set_option linter.unusedVariables false
set_option linter.unusedSimpArgs false
namespace Go.Proofs.YtbicfognbbeigaaGreat
open Go.Proofs.YtbicfognbbeigaaGreat.Ab Go.Proofs.YtbicfognbbeigaaGreat.Pl

theorem sameInts_ok (l : List Int) (b c N C D : Nat) (h0 : H) (hb : Has h0 b (ints l)) (hc' : Has h0 c (ints l)) (hN : N = l.length) (hl : N ≤ 1000000000) : AC env 55 [.slice b 0 N C, .slice c 0 N D] h0 fun v h' => v = .bool true ∧ h' = h0 := by
  refine AC.enter Tryz.func55 Tryz.call55 rfl Tryz.ntmps55 (of_decide_eq_true (by rfl)) ?_
  repeat' (first
    | refine AW.seq ?_
    | (refine AW.region ?_; conv => whnf)
    | refine AW.block ?_
    | (refine AW.skip ?_; conv => whnf)
    | refine AW.cond (by rfl) ?_
    | refine Br.not ?_
    | (refine Br.t (beq_self_eq_true _) ?_; conv => whnf))
  refine AW.loop1 (fun (k : Nat) => [(0, .slice b 0 N C), (1, .slice c 0 N D), (5, .int .i64 k)]) (fun k h' => k ≤ N ∧ h' = h0) (fun k => N - k) 0 (Less.cons rfl (Less.cons rfl (Less.cons rfl (Less.nil _)))) ⟨by omega, rfl⟩ ?_
  rintro k h' ⟨hk, rfl⟩
  by_cases hlt : k < N
  · repeat' (first
      | (refine Has.loadZ hb rfl (by omega) ?_; conv => whnf)
      | (refine Has.loadZ hc' rfl (by omega) ?_; conv => whnf)
      | refine AW.seq ?_
      | (refine AW.region ?_; conv => whnf)
      | refine AW.block ?_
      | (refine AW.skip ?_; conv => whnf)
      | refine AW.cond (by rfl) ?_
      | (refine AW.draw (id := 6) (.p 0 (.p 1 (.p 2 (.p 4 (.p 5 (.p 6 (.r 3 [8] (.r 7 [8] (.p 8 .done))))))))) (by kernel_rfl) (by kernel_rfl) ?_; conv => whnf)
      | refine Br.not ?_
      | (refine Br.t (beq_self_eq_true _) ?_; conv => whnf)
      | (refine Br.dt (by omega) ?_; conv => whnf)
      | (refine Wr.i64 (by omega) ?_; conv => whnf)
      | (refine Ck.mk (by omega) ?_; conv => whnf))
    all_goals exact ⟨k + 1, (Less.cons rfl (Less.cons rfl (Less.cons rfl (Less.nil _)))), ⟨by omega, rfl⟩, by omega⟩
  · repeat' (first
      | refine AW.seq ?_
      | (refine AW.region ?_; conv => whnf)
      | (refine AW.ret ?_; conv => whnf)
      | (refine AW.exit ?_; conv => whnf)
      | refine AW.cond (by rfl) ?_
      | (refine Br.df (by omega) ?_; conv => whnf))
    exact ⟨rfl, rfl⟩


end Go.Proofs.YtbicfognbbeigaaGreat

/-
  What the functions that draw paths give is one of the paths of that size.
  It holds for all sizes of at most 6.
-/
set_option linter.unusedVariables false
set_option linter.unusedSimpArgs false
namespace Go.Proofs.YtbicfognbbeigaaGreat
open Go.Proofs.YtbicfognbbeigaaGreat.Ab Go.Proofs.YtbicfognbbeigaaGreat.Pl

theorem dyAll_up {f : Nat} {w : List UInt8} {u d : Int} (hd : d ≠ 0) (hu : 0 < u) {y : List UInt8} (h : y ∈ dyAll f (w ++ [117]) (u - 1) d) : y ∈ dyAll (f + 1) w u d := by
  unfold dyAll
  rw [if_neg hd, if_pos hu]
  exact List.mem_append_left _ h
theorem dyAll_down {f : Nat} {w : List UInt8} {u d : Int} (hd : d ≠ 0) (hu : u < d) {y : List UInt8} (h : y ∈ dyAll f (w ++ [100]) u (d - 1)) : y ∈ dyAll (f + 1) w u d := by
  unfold dyAll
  rw [if_neg hd, if_pos hu]
  exact List.mem_append_right _ h
theorem dyAll_end {f : Nat} {w : List UInt8} {u : Int} : w ∈ dyAll (f + 1) w u 0 := by
  unfold dyAll
  rw [if_pos rfl]
  exact List.mem_singleton.2 rfl

theorem l2DrawP_ok (n : Nat) (H0 h : H) (c : Nat) (L : List (Nat × Blk)) (s : CurSt H0 h c L) (hn : n ≤ 100) : AC env 101 [.ptr c 0, .int .i64 (n : Int)] h fun w h' => ∃ x : List UInt8, w = .str x ∧ x ∈ dyP n ∧ CurSt H0 h' c L := by
  refine AC.enter Tryz.func101 Tryz.call101 rfl Tryz.ntmps101 (of_decide_eq_true (by rfl)) ?_
  repeat' (first
    | refine AW.seq ?_
    | (refine AW.region ?_; conv => whnf)
    | refine AW.block ?_)
  refine AW.loop3 (fun (u d : Int) (w : List UInt8) => [(0, .ptr c 0), (1, .int .i64 (n : Int)), (5, .str w), (6, .int .i64 u), (7, .int .i64 d)]) (fun u d w h' => (0 ≤ d ∧ d ≤ u ∧ u ≤ n) ∧ (∀ f : Nat, (f : Int) = 2 * n - u - d → ∀ y, y ∈ dyAll (f + 1) w (n - u) (n - d) → y ∈ dyP n) ∧ w.length = u + d ∧ CurSt H0 h' c L) (fun u d _ => (2 * n - u - d).toNat) 0 0 []
    (Less.cons rfl (Less.cons rfl (Less.cons rfl (Less.cons rfl (Less.cons rfl (Less.nil _)))))) ⟨by omega, fun f hf y hy => (by
      obtain rfl : f = 2 * n := by omega
      rw [Int.sub_zero] at hy
      exact hy), by simp, s⟩ ?_
  rintro u d w h1 ⟨hd, hm, hw, hc1⟩
  clear s
  by_cases hlt : d < n
  · have upS : u < n → ∀ f : Nat, (f : Int) = 2 * n - (u + 1) - d → ∀ y, y ∈ dyAll (f + 1) (w ++ [117]) (n - (u + 1)) (n - d) → y ∈ dyP n := fun hu f hf y hy => hm (f + 1) (by omega) y (dyAll_up (by omega) (by omega) (by
      rw [show (n : Int) - u - 1 = n - (u + 1) from by omega]
      exact hy))
    have dnS : d < u → ∀ f : Nat, (f : Int) = 2 * n - u - (d + 1) → ∀ y, y ∈ dyAll (f + 1) (w ++ [100]) (n - u) (n - (d + 1)) → y ∈ dyP n := fun hu f hf y hy => hm (f + 1) (by omega) y (dyAll_down (by omega) (by omega) (by
      rw [show (n : Int) - d - 1 = n - (d + 1) from by omega]
      exact hy))
    repeat' (first
      | refine AW.seq ?_
      | (refine AW.region ?_; conv => whnf)
      | refine AW.block ?_
      | (refine AW.skip ?_; conv => whnf)
      | refine AW.cond (by rfl) ?_
      | (refine (l1Once_ok _ _ _ _ _ (by assumption)).mono ?_; rintro w h' ⟨xO, rfl, hcur⟩; conv => whnf)
      | (refine Br.tt ?_; conv => whnf)
      | (refine Br.ff ?_; conv => whnf)
      | (refine Br.dt (by omega) ?_; conv => whnf)
      | (refine Br.df (by omega) ?_; conv => whnf)
      | (refine Br.dec (fun hc => ?_) (fun hc => ?_) <;> conv => whnf)
      | (refine Br.mk (fun hc => ?_) (fun hc => ?_) <;> conv => whnf)
      | (refine Wr.i64 (by omega) ?_; conv => whnf)
      | (refine Ck.mk (by simp only [List.length_drop, List.length_take, List.length_append, List.length_cons, List.length_nil]; omega) ?_; conv => whnf))
    all_goals first
      | exact ⟨u + 1, d, _, (Less.cons rfl (Less.cons rfl (Less.cons rfl (Less.cons rfl (Less.cons rfl (Less.nil _)))))), ⟨by omega, upS (by omega), by simp only [List.length_append, List.length_cons, List.length_nil]; omega, by assumption⟩, by omega⟩
      | exact ⟨u, d + 1, _, (Less.cons rfl (Less.cons rfl (Less.cons rfl (Less.cons rfl (Less.cons rfl (Less.nil _)))))), ⟨by omega, dnS (by omega), by simp only [List.length_append, List.length_cons, List.length_nil]; omega, by assumption⟩, by omega⟩
  · obtain rfl : d = n := by omega
    obtain rfl : u = n := by omega
    repeat' (first
      | refine AW.seq ?_
      | (refine AW.region ?_; conv => whnf)
      | (refine AW.ret ?_; conv => whnf)
      | (refine AW.exit ?_; conv => whnf)
      | refine AW.cond (by rfl) ?_
      | (refine Br.df (by omega) ?_; conv => whnf))
    refine ⟨w, rfl, hm 0 (by omega) w ?_, hc1⟩
    rw [Int.sub_self]
    exact dyAll_end
theorem l2DrawI_ok (m : Int) (H0 h : H) (c : Nat) (L : List (Nat × Blk)) (s : CurSt H0 h c L) (hm : 0 ≤ m ∧ m ≤ 100) : AC env 101 [.ptr c 0, .int .i64 m] h fun w h' => ∃ x : List UInt8, w = .str x ∧ x ∈ dyP m.toNat ∧ CurSt H0 h' c L := by
  have h1 := l2DrawP_ok m.toNat H0 h c L s (by omega)
  rw [Int.toNat_of_nonneg hm.1] at h1
  exact h1

theorem l2PathP_ok (H0 h : H) (c : Nat) (L : List (Nat × Blk)) (s : CurSt H0 h c L) : AC env 87 [.ptr c 0] h fun w h' => ∃ (n : Nat) (x : List UInt8), w = .str x ∧ n ≤ 6 ∧ x ∈ dyP n ∧ CurSt H0 h' c L := by
  refine AC.enter Tryz.func87 Tryz.call87 rfl Tryz.ntmps87 (of_decide_eq_true (by rfl)) ?_
  repeat' (first
    | (refine (l2DrawI_ok _ _ _ _ _ (by assumption) (by omega)).mono ?_; rintro w h' ⟨x, rfl, hx, hcur⟩; conv => whnf)
    | refine AW.seq ?_
    | (refine AW.region ?_; conv => whnf)
    | (refine AW.ret ?_; conv => whnf)
    | (refine (l1Below_ok _ _ _ _ _ (by assumption)).mono ?_; rintro w h' ⟨xB, rfl, hxB, hxB2, hcur⟩; conv => whnf))
  exact ⟨_, x, rfl, by omega, hx, hcur⟩

end Go.Proofs.YtbicfognbbeigaaGreat

/-
  Contracts of rows of rows of numbers, and of friezes, are proved.
  They hold for all rows within the sizes that the statements speak of.
-/
set_option linter.unusedVariables false
set_option linter.unusedSimpArgs false
namespace Go.Proofs.YtbicfognbbeigaaGreat
open Go.Proofs.YtbicfognbbeigaaGreat.Ab Go.Proofs.YtbicfognbbeigaaGreat.Pl





/-! friezes, as they must be -/
def cellOk (n r : Nat) (x : Int) : Prop := (r = 0 ∨ r = n → x = 0) ∧ (¬ (r = 0 ∨ r = n) → 1 ≤ x ∧ x ≤ 100000) ∧ (r = 1 ∨ r = n - 1 → x = 1)
instance (n r : Nat) (x : Int) : Decidable (cellOk n r x) := by unfold cellOk; infer_instance
def rowOk (f : List (List Int)) (n r : Nat) : Prop := (f.getD r []).length = n ∧ ∀ i, i < n → cellOk n r (ent f r i)
instance (f : List (List Int)) (n r : Nat) : Decidable (rowOk f n r) := by unfold rowOk; infer_instance
def ruleOk (f : List (List Int)) (n r i : Nat) : Prop := ent f (r + 1) i * ent f (r + 1) ((i + 1) % n) - ent f r ((i + 1) % n) * ent f (r + 2) i = 1
instance (f : List (List Int)) (n r i : Nat) : Decidable (ruleOk f n r i) := by unfold ruleOk; infer_instance
def isF (f : List (List Int)) : Bool := decide ((4 ≤ f.length ∧ f.length ≤ 11) ∧ (∀ r, r < f.length → rowOk f (f.length - 1) r) ∧ ∀ r, r < f.length - 2 → ∀ i, i < f.length - 1 → ruleOk f (f.length - 1) r i)
theorem isF_spec {f : List (List Int)} (h : isF f = true) : (4 ≤ f.length ∧ f.length ≤ 11) ∧ (∀ r, r < f.length → rowOk f (f.length - 1) r) ∧ ∀ r, r < f.length - 2 → ∀ i, i < f.length - 1 → ruleOk f (f.length - 1) r i := of_decide_eq_true h
theorem isF_size {f : List (List Int)} (h : ¬ (4 ≤ f.length ∧ f.length ≤ 11)) : isF f = false := decide_eq_false fun a => h a.1
theorem isF_row {f : List (List Int)} {n r : Nat} (hn : f.length = n + 1) (hr : r < n + 1) (h : (f.getD r []).length ≠ n) : isF f = false := decide_eq_false fun a => h (by have := (a.2.1 r (by omega)).1; omega)
theorem isF_cell {f : List (List Int)} {n r i : Nat} (hn : f.length = n + 1) (hr : r < n + 1) (hi : i < n) (h : ¬ cellOk n r (ent f r i)) : isF f = false := decide_eq_false fun a => h (by have := (a.2.1 r (by omega)).2 i (by omega); rwa [hn, Nat.add_sub_cancel] at this)
theorem isF_rule {f : List (List Int)} {n r i : Nat} (hn : f.length = n + 1) (hr : r < n - 1) (hi : i < n) (h : ¬ ruleOk f n r i) : isF f = false := decide_eq_false fun a => h (by have := a.2.2 r (by omega) i (by omega); rwa [hn, Nat.add_sub_cancel] at this)
theorem isF_yes {f : List (List Int)} {n : Nat} (hn : f.length = n + 1) (h1 : 3 ≤ n ∧ n ≤ 10) (h2 : ∀ r, r < n + 1 → rowOk f n r) (h3 : ∀ r, r < n - 1 → ∀ i, i < n → ruleOk f n r i) : isF f = true := by
  refine decide_eq_true ⟨by omega, fun r hr => ?_, fun r hr i hi => ?_⟩
  · rw [hn, Nat.add_sub_cancel]; exact h2 r (by omega)
  · rw [hn, Nat.add_sub_cancel]; exact h3 r (by omega) i (by omega)
theorem cell_bd {n r : Nat} {x : Int} (h : cellOk n r x) : 0 ≤ x ∧ x ≤ 100000 := by
  unfold cellOk at h
  omega
theorem prod_bd {x y : Int} (hx : 0 ≤ x ∧ x ≤ 100000) (hy : 0 ≤ y ∧ y ≤ 100000) : 0 ≤ x * y ∧ x * y ≤ 10000000000 :=
  ⟨Int.mul_nonneg hx.1 hy.1, Int.le_trans (Int.mul_le_mul hx.2 hy.2 hy.1 (by decide)) (by decide)⟩



/-! sums -/
def sumTo (g : Nat → Int) : Nat → Int
  | 0 => 0
  | k + 1 => sumTo g k + g k
theorem sumTo_bd {g : Nat → Int} {m : Nat} {M : Int} (h : ∀ i, i < m → 0 ≤ g i ∧ g i ≤ M) : ∀ k, k ≤ m → 0 ≤ sumTo g k ∧ sumTo g k ≤ M * k := by
  intro k
  induction k with
  | zero => intro _; simp [sumTo]
  | succ k ih =>
    intro hk
    have := ih (by omega)
    have := h k (by omega)
    have e : M * ((k + 1 : Nat) : Int) = M * k + M := by rw [Int.natCast_add, Int.mul_add]; simp
    rw [sumTo, e]
    omega
def sumF (f : List (List Int)) : Int := if isF f then sumTo (fun q => sumTo (ent f q) (f.length - 1)) f.length else -1
theorem isF_len {f : List (List Int)} {n r : Nat} (h : isF f = true) (hn : f.length = n + 1) (hr : r < n + 1) : (f.getD r []).length = n := by
  have := ((isF_spec h).2.1 r (by omega)).1
  omega
theorem isF_bd {f : List (List Int)} {n r i : Nat} (h : isF f = true) (hn : f.length = n + 1) (hr : r < n + 1) (hi : i < n) : 0 ≤ ent f r i ∧ ent f r i ≤ 100000 :=
  cell_bd (((isF_spec h).2.1 r (by omega)).2 i (by omega))
theorem isF_in {f : List (List Int)} {n r : Nat} (h : isF f = true) (hn : f.length = n + 1) (hr : r < n + 1) : ∀ k, k ≤ n → 0 ≤ sumTo (ent f r) k ∧ sumTo (ent f r) k ≤ 1000000 := fun k hk => by
  have := sumTo_bd (g := ent f r) (m := n) (M := 100000) (fun i hi => isF_bd h hn hr hi) k hk
  have := (isF_spec h).1
  omega
theorem isF_out {f : List (List Int)} {n : Nat} (h : isF f = true) (hn : f.length = n + 1) : ∀ k, k ≤ n + 1 → 0 ≤ sumTo (fun q => sumTo (ent f q) n) k ∧ sumTo (fun q => sumTo (ent f q) n) k ≤ 11000000 := fun k hk => by
  have := sumTo_bd (g := fun q => sumTo (ent f q) n) (m := n + 1) (M := 1000000) (fun i hi => isF_in h hn hi n (Nat.le_refl _)) k hk
  have := (isF_spec h).1
  omega





end Go.Proofs.YtbicfognbbeigaaGreat

/-
  Contracts of rows of rows that are marked are proved.
  They hold for all rows of rows.
-/
set_option linter.unusedVariables false
set_option linter.unusedSimpArgs false
namespace Go.Proofs.YtbicfognbbeigaaGreat
open Go.Proofs.YtbicfognbbeigaaGreat.Ab Go.Proofs.YtbicfognbbeigaaGreat.Pl

/-- rows of rows among one's blocks, and the same with other rows -/
inductive RSpot : List (Nat × Blk) → Nat → RL → RL → List (Nat × Blk) → Prop where
  | here {b : Nat} {R R' : RL} {L : List (Nat × Blk)} : RSpot ((b, row (slcs R)) :: (blks R ++ L)) b R R' ((b, row (slcs R')) :: (blks R' ++ L))
  | there {x : Nat × Blk} {b : Nat} {R R' : RL} {L L' : List (Nat × Blk)} (s : RSpot L b R R' L') : RSpot (x :: L) b R R' (x :: L')
  | app {X : List (Nat × Blk)} {b : Nat} {R R' : RL} {L L' : List (Nat × Blk)} (s : RSpot L b R R' L') : RSpot (X ++ L) b R R' (X ++ L')
theorem RSpot.split {L L' : List (Nat × Blk)} {b : Nat} {R R' : RL} (s : RSpot L b R R' L') : ∃ A B, L = A ++ (b, row (slcs R)) :: (blks R ++ B) ∧ L' = A ++ (b, row (slcs R')) :: (blks R' ++ B) := by
  induction s with
  | here => exact ⟨[], _, rfl, rfl⟩
  | there s ih =>
    obtain ⟨A, B, e1, e2⟩ := ih
    exact ⟨_ :: A, B, by rw [e1]; rfl, by rw [e2]; rfl⟩
  | app s ih =>
    obtain ⟨A, B, e1, e2⟩ := ih
    exact ⟨_ ++ A, B, by rw [e1, List.append_assoc], by rw [e2, List.append_assoc]⟩
theorem St.gridAt {h0 h : H} {L : List (Nat × Blk)} {b : Nat} {R : RL} (s : St h0 h L) (sp : RSpot L b R R L) : Grid h b R := by
  obtain ⟨A, B, rfl, _⟩ := sp.split
  exact s.rowsIn (List.mem_append_right _ (.head _)) fun p hp => List.mem_append_right _ (.tail _ (List.mem_append_left _ hp))

def totL (f : List (List Int)) : Nat := (f.map List.length).sum
theorem totL_cons (l : List Int) (f : List (List Int)) : totL (l :: f) = l.length + totL f := by simp [totL]
theorem totL_append (f g : List (List Int)) : totL (f ++ g) = totL f + totL g := by simp [totL]
theorem totL_mem {f : List (List Int)} {l : List Int} (h : l ∈ f) : l.length ≤ totL f := by
  induction f with
  | nil => cases h
  | cons x f ih =>
    rw [totL_cons]
    cases h with
    | head => omega
    | tail _ h => have := ih h; omega
theorem totL_le {f : List (List Int)} {m : Nat} (h : ∀ l ∈ f, l.length ≤ m) : totL f ≤ f.length * m := by
  induction f with
  | nil => simp [totL]
  | cons x f ih =>
    rw [totL_cons, List.length_cons, Nat.add_mul]
    have := ih fun l hl => h l (.tail _ hl)
    have := h x (.head _)
    omega
def markR (k : Int) : RL → RL
  | [] => []
  | r :: R => (r.1, iota k r.2.length) :: markR (k + r.2.length) R
theorem iota_length (k : Int) (n : Nat) : (iota k n).length = n := tab_length _ _
theorem markR_slcs : ∀ (R : RL) (k : Int), slcs (markR k R) = slcs R
  | [], k => rfl
  | r :: R, k => by
    have := markR_slcs R (k + r.2.length)
    simp only [slcs, markR, List.map_cons, iota_length] at this ⊢
    rw [this]
theorem markR_len : ∀ (R : RL) (k : Int), (markR k R).length = R.length
  | [], k => rfl
  | r :: R, k => by rw [markR, List.length_cons, markR_len R, List.length_cons]
theorem markR_append : ∀ (A B : RL) (k : Int), markR k (A ++ B) = markR k A ++ markR (k + totL (rws A)) B
  | [], B, k => by simp [markR, totL, rws]
  | r :: A, B, k => by
    rw [List.cons_append, markR, markR, markR_append A B]
    have : totL (rws (r :: A)) = r.2.length + totL (rws A) := totL_cons _ _
    rw [this, List.cons_append]
    congr 3
    omega
theorem spot_mid {α : Type} (X Y : List α) (p q : α) : Spot (X ++ p :: Y) p q (X ++ q :: Y) := by
  induction X with
  | nil => exact .here
  | cons x X ih => exact .there ih
theorem rl_mid (A B : RL) (x : Nat × List Int) : (A ++ x :: B).getD A.length (0, []) = x := by simp [List.getD]

theorem Spot.app {α : Type} {L L' X : List α} {p q : α} (s : Spot L p q L') : Spot (X ++ L) p q (X ++ L') := by
  induction X with
  | nil => exact s
  | cons x X ih => exact .there ih






end Go.Proofs.YtbicfognbbeigaaGreat

/-
  Plain laws of triangulations, as numbers, are proved by a search that finds all of them.
  They hold for up to ten corners.
-/
set_option linter.unusedVariables false
set_option linter.unusedSimpArgs false
namespace Go.Proofs.YtbicfognbbeigaaGreat.Pl

/-! tests over lists, in a form that is quick to check -/
noncomputable def allR (p : Nat → Bool) (l : List Nat) : Bool := @List.rec Nat (fun _ => Bool) true (fun x _ ih => bif p x then ih else false) l
noncomputable def filR (p : Nat → Bool) (l : List Nat) : List Nat := @List.rec Nat (fun _ => List Nat) [] (fun x _ ih => bif p x then x :: ih else ih) l
theorem allR_all {p : Nat → Bool} : ∀ {l : List Nat}, allR p l = true → ∀ x ∈ l, p x = true
  | [], _, x, hx => by cases hx
  | y :: l, h, x, hx => by
    have h : (bif p y then allR p l else false) = true := h
    cases e : p y with
    | false => rw [e] at h; cases h
    | true =>
      rw [e] at h
      cases hx with
      | head => exact e
      | tail _ hx => exact allR_all h x hx
theorem filR_eq (p : Nat → Bool) : ∀ l : List Nat, filR p l = l.filter p
  | [] => rfl
  | x :: l => by
    have e : filR p (x :: l) = bif p x then x :: filR p l else filR p l := rfl
    rw [e, filR_eq p l, List.filter_cons]
    cases p x <;> rfl

/-! a diagonal from a to b is the number 16 a + b -/
def crH (a b c d : Nat) : Bool := bif Nat.ble (Nat.succ a) c then (bif Nat.ble (Nat.succ c) b then Nat.ble (Nat.succ b) d else false) else (bif Nat.ble (Nat.succ c) a then (bif Nat.ble (Nat.succ a) d then Nat.ble (Nat.succ d) b else false) else false)
def crC (x y : Nat) : Bool := crH (Nat.div x 16) (Nat.mod x 16) (Nat.div y 16) (Nat.mod y 16)
def dgC (n c : Nat) : Bool := bif Nat.ble (Nat.add (Nat.div c 16) 2) (Nat.mod c 16) then (bif Nat.ble (Nat.succ (Nat.mod c 16)) n then (bif Nat.beq (Nat.div c 16) 0 then !(Nat.beq (Nat.succ (Nat.mod c 16)) n) else true) else false) else false
theorem ble_of {a b : Nat} : Nat.ble a b = decide (a ≤ b) := by
  cases h : Nat.ble a b with
  | true => rw [decide_eq_true (Nat.le_of_ble_eq_true h)]
  | false => rw [decide_eq_false fun g => by rw [Nat.ble_eq_true_of_le g] at h; cases h]
theorem beq_of {a b : Nat} : Nat.beq a b = decide (a = b) := by
  cases h : Nat.beq a b with
  | true => rw [decide_eq_true (Nat.eq_of_beq_eq_true h)]
  | false => rw [decide_eq_false fun g => by subst g; rw [Nat.beq_refl] at h; cases h]
theorem cond_decide {α : Type} {p : Prop} [Decidable p] (x y : α) : (bif decide p then x else y) = if p then x else y := by
  by_cases h : p <;> simp [h]
theorem crH_iff (a b c d : Nat) : crH a b c d = true ↔ (a < c ∧ c < b ∧ b < d) ∨ (c < a ∧ a < d ∧ d < b) := by
  unfold crH
  simp only [ble_of, cond_decide]
  split
  · split
    · simp; omega
    · simp; omega
  · split
    · split
      · simp; omega
      · simp; omega
    · simp; omega
theorem crC_iff (x y : Nat) : crC x y = true ↔ (x / 16 < y / 16 ∧ y / 16 < x % 16 ∧ x % 16 < y % 16) ∨ (y / 16 < x / 16 ∧ x / 16 < y % 16 ∧ y % 16 < x % 16) := crH_iff _ _ _ _
theorem crC_symm (x y : Nat) : crC x y = crC y x := by
  rw [Bool.eq_iff_iff, crC_iff, crC_iff]
  omega
theorem dgC_iff (n c : Nat) : dgC n c = true ↔ c / 16 + 2 ≤ c % 16 ∧ c % 16 < n ∧ ¬ (c / 16 = 0 ∧ c % 16 + 1 = n) := by
  have e1 : Nat.div c 16 = c / 16 := rfl
  have e2 : Nat.mod c 16 = c % 16 := rfl
  have e3 : Nat.add (c / 16) 2 = c / 16 + 2 := rfl
  unfold dgC
  rw [e1, e2, e3]
  simp only [ble_of, beq_of, cond_decide]
  split
  · split
    · split
      · simp; omega
      · simp; omega
    · simp; omega
  · simp; omega
def candC (n : Nat) : List Nat := (List.range 160).filter (dgC n)

noncomputable def stepC (f : List Nat → List Nat → Bool) (acc : List Nat) (l : List Nat) : Bool :=
  @List.rec Nat (fun _ => Bool) true (fun c t ih => bif f (c :: acc) (filR (fun x => !crC c x) t) then ih else false) l
/-- all choices of so many diagonals that do not cross pass a test (they come in reverse) -/
noncomputable def allC (P : List Nat → Bool) (k : Nat) : List Nat → List Nat → Bool :=
  @Nat.rec (fun _ => List Nat → List Nat → Bool) (fun acc _ => P acc) (fun k ih acc cs => bif Nat.ble (Nat.succ k) cs.length then stepC ih acc cs else true) k

theorem stepC_cons (f : List Nat → List Nat → Bool) (acc : List Nat) (c : Nat) (t : List Nat) : stepC f acc (c :: t) = bif f (c :: acc) (t.filter fun x => !crC c x) then stepC f acc t else false := by
  rw [← filR_eq]
  rfl
theorem stepC_spec {f : List Nat → List Nat → Bool} {acc : List Nat} : ∀ {cs : List Nat}, stepC f acc cs = true → ∀ c t, (c :: t).Sublist cs → (∀ x ∈ t, crC c x = false) → ∃ cs', f (c :: acc) cs' = true ∧ t.Sublist cs'
  | [], _, c, t, h, _ => by cases h
  | d :: cs, h, c, t, hs, hx => by
    rw [stepC_cons] at h
    cases e : f (d :: acc) (cs.filter fun x => !crC d x) with
    | false => rw [e] at h; cases h
    | true =>
      rw [e, cond_true] at h
      cases hs with
      | cons _ hs => exact stepC_spec h c t hs hx
      | cons_cons _ hs =>
        refine ⟨_, e, ?_⟩
        have := hs.filter fun x => !crC d x
        rwa [List.filter_eq_self.2 (fun x hx' => by rw [hx x hx']; rfl)] at this

theorem allC_spec {P : List Nat → Bool} : ∀ {k : Nat} {acc cs : List Nat}, allC P k acc cs = true → ∀ l : List Nat, l.length = k → l.Sublist cs → l.Pairwise (fun x y => crC x y = false) → P (l.reverse ++ acc) = true
  | 0, acc, cs, h, l, hl, _, _ => by
    rw [List.eq_nil_of_length_eq_zero hl]
    exact h
  | k + 1, acc, cs, h, [], hl, _, _ => by simp at hl
  | k + 1, acc, cs, h, c :: t, hl, hs, hp => by
    have h : (bif Nat.ble (k + 1) cs.length then stepC (allC P k) acc cs else true) = true := h
    have e : Nat.ble (k + 1) cs.length = true := Nat.ble_eq_true_of_le (by rw [← hl]; exact hs.length_le)
    rw [e, cond_true] at h
    obtain ⟨cs', h1, h2⟩ := stepC_spec h c t hs fun x hx => (List.pairwise_cons.1 hp).1 x hx
    have := allC_spec h1 t (by simpa using hl) h2 (List.pairwise_cons.1 hp).2
    simpa using this

theorem sub_of_sorted : ∀ {m l : List Nat}, m.Pairwise (· < ·) → l.Pairwise (· < ·) → (∀ x ∈ l, x ∈ m) → l.Sublist m
  | [], l, _, _, h => by
    cases l with
    | nil => exact List.Sublist.slnil
    | cons x l => exact absurd (h x (.head _)) (by simp)
  | a :: m, [], _, _, _ => List.nil_sublist _
  | a :: m, x :: l, hm, hl, h => by
    have hm' := List.pairwise_cons.1 hm
    have hl' := List.pairwise_cons.1 hl
    by_cases e : x = a
    · subst e
      refine List.Sublist.cons_cons _ (sub_of_sorted hm'.2 hl'.2 fun y hy => ?_)
      have h1 := h y (.tail _ hy)
      have h2 := hl'.1 y hy
      cases h1 with
      | head => omega
      | tail _ h1 => exact h1
    · refine List.Sublist.cons _ (sub_of_sorted hm'.2 hl fun y hy => ?_)
      have h1 := h y hy
      have hx : x ∈ m := by
        have := h x (.head _)
        cases this with
        | head => exact absurd rfl e
        | tail _ h1 => exact h1
      have h3 := hm'.1 x hx
      cases h1 with
      | head =>
        cases hy with
        | head => exact absurd rfl e
        | tail _ hy => have := hl'.1 _ hy; omega
      | tail _ h1 => exact h1

theorem candC_sorted (n : Nat) : (candC n).Pairwise (· < ·) := List.Pairwise.filter _ List.pairwise_lt_range

/-- a triangulation, as numbers -/
structure TriC (n : Nat) (l : List Nat) : Prop where
  len : l.length = n - 3
  dg : ∀ c ∈ l, dgC n c = true ∧ c < 160
  up : l.Pairwise (· < ·)
  nc : l.Pairwise fun x y => crC x y = false
theorem TriC.all {n : Nat} {l : List Nat} (h : TriC n l) {P : List Nat → Bool} (hP : allC P (n - 3) [] (candC n) = true) : P l.reverse = true := by
  have := allC_spec hP l h.len (sub_of_sorted (candC_sorted n) h.up fun x hx => List.mem_filter.2 ⟨List.mem_range.2 (h.dg x hx).2, (h.dg x hx).1⟩) h.nc
  rwa [List.append_nil] at this

/-! joined corners, corners joined with both ends, flips -/
noncomputable def mskC (l : List Nat) : Nat := @List.rec Nat (fun _ => Nat) 0 (fun x _ ih => Nat.lor ih (Nat.shiftLeft 1 x)) l
def tb (m c : Nat) : Bool := Nat.beq (Nat.land (Nat.shiftRight m c) 1) 1
theorem tb_eq (m c : Nat) : tb m c = m.testBit c := by
  have e : Nat.land (Nat.shiftRight m c) 1 = (m >>> c) &&& 1 := rfl
  unfold tb
  rw [e, beq_of, Nat.and_one_is_mod, Nat.testBit_eq_decide_div_mod_eq, Nat.shiftRight_eq_div_pow]
theorem tb_mask : ∀ (l : List Nat) (c : Nat), tb (mskC l) c = true ↔ c ∈ l
  | [], c => by rw [tb_eq]; simp [mskC]
  | x :: l, c => by
    have ih := tb_mask l c
    rw [tb_eq] at ih ⊢
    have e : mskC (x :: l) = mskC l ||| (1 <<< x) := rfl
    rw [e, Nat.testBit_or, Nat.one_shiftLeft, Nat.testBit_two_pow, Bool.or_eq_true, ih, decide_eq_true_eq, List.mem_cons, or_comm]
    exact ⟨fun h => h.imp Eq.symm id, fun h => h.imp Eq.symm id⟩
def jnC (n m a b : Nat) : Bool := bif Nat.beq b (Nat.succ a) then true else bif tb m (Nat.add (Nat.mul 16 a) b) then true else bif Nat.beq a 0 then Nat.beq (Nat.succ b) n else false
def jmC (n m a b : Nat) : Bool := bif Nat.ble a b then jnC n m a b else jnC n m b a
noncomputable def thC (n m a b : Nat) : List Nat := filR (fun c => bif Nat.beq c a then false else bif Nat.beq c b then false else bif jmC n m c a then jmC n m c b else false) (List.range n)
/-- the flip of each diagonal is one again, and its corners are two -/
noncomputable def flip1 (n : Nat) (r : List Nat) (x : Nat) (t : List Nat) : Bool :=
  @List.rec Nat (fun _ => Bool) false (fun p t _ => @List.rec Nat (fun _ => Bool) false (fun q t _ => @List.rec Nat (fun _ => Bool)
    (bif dgC n (Nat.add (Nat.mul 16 p) q) then allR (fun y => bif Nat.beq y x then true else bif Nat.beq y (Nat.add (Nat.mul 16 p) q) then false else !crC y (Nat.add (Nat.mul 16 p) q)) r else false) (fun _ _ _ => false) t) t) t
noncomputable def flipOk (n : Nat) (r : List Nat) : Bool := allR (fun x => flip1 n r x (thC n (mskC r) (Nat.div x 16) (Nat.mod x 16))) r

end Go.Proofs.YtbicfognbbeigaaGreat.Pl
