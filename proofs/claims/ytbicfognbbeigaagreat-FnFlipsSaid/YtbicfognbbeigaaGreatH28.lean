/-
  Plain laws of friezes of quiddities are proved by a search that goes back from three ones.
  They hold for up to ten numbers.
-/
import Derived.Test.YtbicfognbbeigaaGreatC37
import Derived.Test.YtbicfognbbeigaaGreatH4
import Derived.Test.YtbicfognbbeigaaGreatC41
import Derived.Test.YtbicfognbbeigaaGreatC84
import Derived.Test.YtbicfognbbeigaaGreatH27
import Derived.Test.YtbicfognbbeigaaGreatH26
set_option linter.unusedVariables false
set_option linter.unusedSimpArgs false
namespace Go.Proofs.YtbicfognbbeigaaGreat
open Go.Proofs.YtbicfognbbeigaaGreat.Ab Go.Proofs.YtbicfognbbeigaaGreat.Pl

/-! a one is put in again -/
def insQ (i : Nat) (q : List Int) : List Int :=
  let n := q.length + 1
  let r := q.take i ++ 1 :: q.drop i
  let s := r.set ((i + n - 1) % n) (r.getD ((i + n - 1) % n) 0 + 1)
  s.set ((i + 1) % n) (s.getD ((i + 1) % n) 0 + 1)
theorem erase_back {L : List Int} {i : Nat} (h : i < L.length) (h1 : L.getD i 0 = 1) : (L.eraseIdx i).take i ++ 1 :: (L.eraseIdx i).drop i = L := by
  have e : L = L.take i ++ 1 :: L.drop (i + 1) := by
    conv => lhs; rw [← List.take_append_drop i L, List.drop_eq_getElem_cons h]
    rw [getD_of h, h1]
  have hl : (L.take i).length = i := by simp; omega
  generalize L.take i = A at *
  generalize L.drop (i + 1) = B at *
  subst e hl
  rw [List.eraseIdx_append_of_length_le (Nat.le_refl _), Nat.sub_self]
  simp
theorem ins_cut {l : List Int} {i : Nat} (h : i < l.length) (h3 : 3 ≤ l.length) (h1 : l.getD i 0 = 1) : insQ i (cutQ l i) = l := by
  have ne := cut_ne h h3
  have na : (i + l.length - 1) % l.length ≠ i := by
    cases i with
    | zero => rw [Nat.mod_eq_of_lt (by omega)]; omega
    | succ i => rw [show i + 1 + l.length - 1 = i + l.length by omega, Nat.add_mod_right, Nat.mod_eq_of_lt (by omega)]; omega
  have nb : (i + 1) % l.length ≠ i := by
    have e2 : i + 1 = l.length ∨ i + 1 < l.length := by omega
    rcases e2 with e2 | e2
    · rw [e2, Nat.mod_self]; omega
    · rw [Nat.mod_eq_of_lt e2]; omega
  have en : (cutQ l i).length + 1 = l.length := by rw [cutQ_len l h]; omega
  have ba : (i + l.length - 1) % l.length < l.length := Nat.mod_lt _ (by omega)
  have bb : (i + 1) % l.length < l.length := Nat.mod_lt _ (by omega)
  unfold insQ
  simp only [en]
  unfold cutQ
  simp only
  generalize (i + l.length - 1) % l.length = a at *
  generalize (i + 1) % l.length = b at *
  rw [erase_back (by simp; exact h) (by simp only [List.getD, List.getElem?_set_ne na, List.getElem?_set_ne nb]; simpa [List.getD] using h1)]
  have hb : (l.set a (l.getD a 0 - 1)).getD b 0 = l.getD b 0 := by simp only [List.getD, List.getElem?_set_ne ne]
  rw [hb]
  have e1 : ((l.set a (l.getD a 0 - 1)).set b (l.getD b 0 - 1)).getD a 0 = l.getD a 0 - 1 := by
    simp only [List.getD, List.getElem?_set_ne (Ne.symm ne)]
    simp [ba]
  rw [e1]
  have e2 : (((l.set a (l.getD a 0 - 1)).set b (l.getD b 0 - 1)).set a (l.getD a 0 - 1 + 1)).getD b 0 = l.getD b 0 - 1 := by
    simp only [List.getD, List.getElem?_set_ne ne]
    simp [bb]
  rw [e2]
  apply List.ext_getElem (by simp)
  intro j hj1 hj2
  simp only [List.getElem_set]
  split
  · rename_i c
    subst c
    rw [getD_of hj2]
    omega
  · split
    · rename_i c
      subst c
      rw [getD_of hj2]
      omega
    · rfl

/-! a column of a frieze -/
def colC : List Nat → Nat → Nat → Bool
  | [], a, b => bif Nat.beq a 1 then Nat.beq b 0 else false
  | x :: t, a, b => bif Nat.ble 1 b then (bif Nat.ble b 100000 then (bif Nat.ble a (x * b) then @Nat.rec (fun _ => Bool) (colC t b 0) (fun k _ => colC t b (Nat.succ k)) (x * b - a) else false) else false) else false
theorem rec_at (f : Nat → Bool) (n : Nat) : @Nat.rec (fun _ => Bool) (f 0) (fun k _ => f (Nat.succ k)) n = f n := by cases n <;> rfl
theorem colC_spec : ∀ (l : List Nat) (a b : Nat), colC l a b = true → runQ (l.map Int.ofNat) ((a : Int), (b : Int)) = (1, 0) ∧ ∀ k, k < l.length → 1 ≤ (runQ ((l.map Int.ofNat).take k) ((a : Int), (b : Int))).2 ∧ (runQ ((l.map Int.ofNat).take k) ((a : Int), (b : Int))).2 ≤ 100000
  | [], a, b, h => by
    have h : (bif Nat.beq a 1 then Nat.beq b 0 else false) = true := h
    rw [beq_of, beq_of, cond_decide] at h
    split at h
    · rename_i c
      have d := of_decide_eq_true h
      subst c d
      exact ⟨rfl, fun k hk => by simp at hk⟩
    · cases h
  | x :: t, a, b, h => by
    have h : (bif Nat.ble 1 b then (bif Nat.ble b 100000 then (bif Nat.ble a (x * b) then @Nat.rec (fun _ => Bool) (colC t b 0) (fun k _ => colC t b (Nat.succ k)) (x * b - a) else false) else false) else false) = true := h
    rw [rec_at (colC t b), ble_of, ble_of, ble_of, cond_decide, cond_decide, cond_decide] at h
    split at h
    · rename_i c1
      split at h
      · rename_i c2
        split at h
        · rename_i c3
          have ih := colC_spec t b (x * b - a) h
          have e : stp ((a : Int), (b : Int)) (Int.ofNat x) = ((b : Int), ((x * b - a : Nat) : Int)) := by
            unfold stp
            simp only [Prod.mk.injEq, true_and]
            have : Int.ofNat x * (b : Int) = ((x * b : Nat) : Int) := by push_cast; rfl
            rw [this]
            omega
          rw [List.map_cons, runQ_cons, e]
          refine ⟨ih.1, fun k hk => ?_⟩
          cases k with
          | zero =>
            rw [List.take_zero, runQ_nil]
            simp only
            omega
          | succ k =>
            rw [List.take_succ_cons, runQ_cons, e]
            exact ih.2 k (by simpa using hk)
        · cases h
      · cases h
    · cases h
/-- all columns -/
def colsC (q : List Nat) : Bool := (List.range q.length).all fun i => colC ((q.drop i ++ q.take i).take (q.length - 1)) 0 1
/-- all that lead to a row of numbers by cuts of first ones -/
def backC : Nat → List Int → Bool
  | 0, q => colsC (q.map Int.toNat)
  | k + 1, q => (List.range (q.length + 1)).all fun i => bif Nat.beq (fst1 (insQ i q)) i then backC k (insQ i q) else true
set_option maxRecDepth 100000 in
theorem back_low : backC 0 [1, 1, 1] = true ∧ backC 1 [1, 1, 1] = true ∧ backC 2 [1, 1, 1] = true ∧ backC 3 [1, 1, 1] = true ∧ backC 4 [1, 1, 1] = true ∧ backC 5 [1, 1, 1] = true := by decide +kernel
set_option maxRecDepth 100000 in
theorem back_six : backC 6 [1, 1, 1] = true := by decide +kernel
set_option maxRecDepth 100000 in
theorem back_seven : backC 7 [1, 1, 1] = true := by decide +kernel
theorem back_all {k : Nat} (h : k ≤ 7) : backC k [1, 1, 1] = true := by
  have l := back_low
  match k, h with
  | 0, _ => exact l.1
  | 1, _ => exact l.2.1
  | 2, _ => exact l.2.2.1
  | 3, _ => exact l.2.2.2.1
  | 4, _ => exact l.2.2.2.2.1
  | 5, _ => exact l.2.2.2.2.2
  | 6, _ => exact back_six
  | 7, _ => exact back_seven
theorem backC_step {k : Nat} {l : List Int} (h3 : 3 ≤ l.length) (hi : fst1 l < l.length) (h : backC (k + 1) (cutQ l (fst1 l)) = true) : backC k l = true := by
  have h : ((List.range ((cutQ l (fst1 l)).length + 1)).all fun i => bif Nat.beq (fst1 (insQ i (cutQ l (fst1 l)))) i then backC k (insQ i (cutQ l (fst1 l))) else true) = true := h
  have := List.all_eq_true.1 h (fst1 l) (List.mem_range.2 (by rw [cutQ_len l hi]; omega))
  rw [ins_cut hi h3 (fst1_at l hi).1, Nat.beq_refl] at this
  exact this
theorem back_state {q : List Int} (h : isQ q = true) : ∀ d k, k + d = q.length - 3 → backC k (qSt q k).1 = true := by
  have sp := of_decide_eq_true h
  have sz := sp.1.1
  intro d
  induction d with
  | zero =>
    intro k hk
    rw [show k = q.length - 3 by omega, sp.2.2]
    exact back_all (by omega)
  | succ d ih =>
    intro k hk
    have al : aliveQ q k := fun j hj => sp.2.1 j (by omega)
    have ln := (qSt_len al (by omega)).1
    exact backC_step (by omega) (sp.2.1 k (by omega)) (ih (k + 1) (by omega))
theorem toNat_map {q : List Int} (h : ∀ i, i < q.length → 1 ≤ q.getD i 0 ∧ q.getD i 0 ≤ 100) : (q.map Int.toNat).map Int.ofNat = q := by
  rw [List.map_map]
  conv => rhs; rw [← List.map_id q]
  refine List.map_congr_left fun x hx => ?_
  obtain ⟨i, hi, rfl⟩ := List.getElem_of_mem hx
  have := h i hi
  rw [← getD_of hi] at this
  simp only [Function.comp, id]
  show ((q[i].toNat : Nat) : Int) = q[i]
  omega

/-! the frieze over a quiddity -/
def rotQ (q : List Int) (i : Nat) : List Int := q.drop i ++ q.take i
theorem rotQ_len (q : List Int) (i : Nat) : (rotQ q i).length = q.length := by unfold rotQ; simp; omega
def frE (q : List Int) (r i : Nat) : Int := (runQ ((rotQ q i).take r) (0, 1)).1
def frz (q : List Int) : List (List Int) := tabR (q.length + 1) fun r => tab q.length (frE q r)
where tabR (n : Nat) (f : Nat → List Int) : List (List Int) := (List.range n).map f
theorem frz_len (q : List Int) : (frz q).length = q.length + 1 := by unfold frz frz.tabR; simp
theorem frz_row (q : List Int) {r : Nat} (h : r < q.length + 1) : (frz q).getD r [] = tab q.length (frE q r) := by unfold frz frz.tabR; simp [List.getD, h]
theorem frz_ent (q : List Int) {r i : Nat} (h : r < q.length + 1) (hi : i < q.length) : ent (frz q) r i = frE q r i := by
  unfold ent
  rw [frz_row q h, tab_getD _ hi]
structure ColOk (q : List Int) (i : Nat) : Prop where
  last : runQ ((rotQ q i).take (q.length - 1)) (0, 1) = (1, 0)
  mid : ∀ k, k < q.length - 1 → 1 ≤ (runQ ((rotQ q i).take k) (0, 1)).2 ∧ (runQ ((rotQ q i).take k) (0, 1)).2 ≤ 100000
theorem isQ_cols {q : List Int} (h : isQ q = true) {i : Nat} (hi : i < q.length) : ColOk q i := by
  have sp := of_decide_eq_true h
  have b := back_state h (q.length - 3) 0 (by omega)
  have b : colsC (q.map Int.toNat) = true := b
  have c := List.all_eq_true.1 b i (List.mem_range.2 (by simpa using hi))
  have c := colC_spec _ _ _ c
  have e : (((q.map Int.toNat).drop i ++ (q.map Int.toNat).take i).take ((q.map Int.toNat).length - 1)).map Int.ofNat = (rotQ q i).take (q.length - 1) := by
    rw [List.map_take, List.map_append, List.map_drop, List.map_take, toNat_map sp.1.2, List.length_map]
    rfl
  rw [e] at c
  have hl : (((q.map Int.toNat).drop i ++ (q.map Int.toNat).take i).take ((q.map Int.toNat).length - 1)).length = q.length - 1 := by simp; omega
  rw [hl] at c
  refine ⟨c.1, fun k hk => ?_⟩
  have := c.2 k hk
  rwa [List.take_take, Nat.min_eq_left (by omega)] at this
theorem rot_snoc (q : List Int) (i : Nat) {r : Nat} (h : r < q.length) : (rotQ q i).take (r + 1) = (rotQ q i).take r ++ [(rotQ q i).getD r 0] := by
  have hr : r < (rotQ q i).length := by rw [rotQ_len]; exact h
  rw [List.take_succ_eq_append_getElem hr, getD_of hr]
theorem frE_step (q : List Int) (i : Nat) {r : Nat} (h : r < q.length) : frE q (r + 1) i = (runQ ((rotQ q i).take r) (0, 1)).2 := by
  unfold frE
  rw [rot_snoc q i h, runQ_append, runQ_cons, runQ_nil]
  rfl
theorem frE_zero (q : List Int) (i : Nat) : frE q 0 i = 0 := rfl
theorem frE_one (q : List Int) (i : Nat) (h : 0 < q.length) : frE q 1 i = 1 := frE_step q i h
theorem frE_two (q : List Int) {i : Nat} (h : 1 < q.length) (hi : i < q.length) : frE q 2 i = q.getD i 0 := by
  rw [frE_step q i h]
  have : (rotQ q i).take 1 = [q.getD i 0] := by
    unfold rotQ
    rw [List.drop_eq_getElem_cons hi, getD_of hi]
    rfl
  rw [this, runQ_cons, runQ_nil]
  unfold stp
  simp
theorem frE_cell {q : List Int} (h : isQ q = true) {r i : Nat} (hr : r < q.length + 1) (hi : i < q.length) : cellOk q.length r (frE q r i) := by
  have c := isQ_cols h hi
  have sz := (of_decide_eq_true h).1.1
  refine ⟨fun e => ?_, fun e => ?_, fun e => ?_⟩
  · rcases e with rfl | rfl
    · rfl
    · have := frE_step q i (r := q.length - 1) (by omega)
      rw [Nat.sub_add_cancel (by omega), c.last] at this
      exact this
  · obtain ⟨k, rfl⟩ : ∃ k, r = k + 1 := ⟨r - 1, by omega⟩
    rw [frE_step q i (by omega)]
    exact c.mid k (by omega)
  · rcases e with rfl | rfl
    · exact frE_one q i (by omega)
    · unfold frE
      rw [c.last]
def dt (s t : Int × Int) : Int := s.1 * t.2 - s.2 * t.1
theorem dt_stp (s t : Int × Int) (a : Int) : dt (stp s a) (stp t a) = dt s t := by
  unfold dt stp
  simp only
  rw [Int.mul_sub, Int.sub_mul, Int.mul_left_comm s.2 a t.2, Int.mul_assoc a s.2 t.2]
  omega
theorem dt_run : ∀ (l : List Int) (s t : Int × Int), dt (runQ l s) (runQ l t) = dt s t
  | [], s, t => rfl
  | a :: l, s, t => by rw [runQ_cons, runQ_cons, dt_run l, dt_stp]
theorem rot_next (q : List Int) {i : Nat} (hi : i < q.length) {r : Nat} (hr : r + 1 ≤ q.length) : (rotQ q i).take (r + 1) = q.getD i 0 :: (rotQ q ((i + 1) % q.length)).take r := by
  have e : rotQ q i = q.getD i 0 :: (q.drop (i + 1) ++ q.take i) := by
    unfold rotQ
    rw [List.drop_eq_getElem_cons hi, getD_of hi]
    rfl
  rw [e, List.take_succ_cons]
  congr 1
  by_cases c : i + 1 < q.length
  · rw [Nat.mod_eq_of_lt c]
    unfold rotQ
    rw [List.take_append, List.take_append, List.take_take, List.take_take]
    congr 2
    simp
    omega
  · have ei : i + 1 = q.length := by omega
    rw [ei, Nat.mod_self]
    unfold rotQ
    rw [List.drop_eq_nil_of_le (Nat.le_refl _), List.nil_append, List.drop_zero, List.take_zero, List.append_nil, List.take_take, Nat.min_eq_left (by omega)]
theorem frE_rule {q : List Int} {r i : Nat} (hr : r + 2 ≤ q.length) (hi : i < q.length) : frE q (r + 1) i * frE q (r + 1) ((i + 1) % q.length) - frE q r ((i + 1) % q.length) * frE q (r + 2) i = 1 := by
  have hk : (i + 1) % q.length < q.length := Nat.mod_lt _ (by omega)
  have d := dt_run ((rotQ q i).take (r + 1)) (0, 1) (-1, 0)
  have e1 : runQ ((rotQ q i).take (r + 1)) (0, 1) = (frE q (r + 1) i, frE q (r + 2) i) := Prod.ext rfl (frE_step q i (by omega)).symm
  have e2 : runQ ((rotQ q i).take (r + 1)) (-1, 0) = (frE q r ((i + 1) % q.length), frE q (r + 1) ((i + 1) % q.length)) := by
    rw [rot_next q hi (by omega), runQ_cons]
    have : stp (-1, 0) (q.getD i 0) = (0, 1) := by simp [stp]
    rw [this]
    exact Prod.ext rfl (frE_step q _ (by omega)).symm
  rw [e1, e2] at d
  unfold dt at d
  simp only at d
  rw [Int.mul_comm (frE q r _)]
  simpa using d
theorem frz_fine {q : List Int} (h : isQ q = true) : isF (frz q) = true := by
  have sz := (of_decide_eq_true h).1.1
  refine isF_yes (frz_len q) sz (fun r hr => ⟨by rw [frz_row q hr, tab_length], fun i hi => ?_⟩) fun r hr i hi => ?_
  · rw [frz_ent q hr hi]
    exact frE_cell h hr hi
  · unfold ruleOk
    have hk : (i + 1) % q.length < q.length := Nat.mod_lt _ (by omega)
    rw [frz_ent q (by omega) hi, frz_ent q (by omega) hk, frz_ent q (by omega) hk, frz_ent q (by omega) hi]
    exact frE_rule (by omega) hi

/-! the other way round -/
theorem fine_isQ {q : List Int} (s : smallQ q) (h : Fine q) : isQ q = true := by
  have sz := s.1
  have key : ∀ k, k + 3 ≤ q.length → aliveQ q k ∧ Fine (qSt q k).1 := by
    intro k
    induction k with
    | zero => intro _; exact ⟨fun j hj => by omega, h⟩
    | succ k ih =>
      intro hk
      obtain ⟨al, f⟩ := ih (by omega)
      have ln := (qSt_len al (by omega)).1
      obtain ⟨i, hi, h1⟩ := f.one (by omega)
      have at1 : fst1 (qSt q k).1 ≤ i := by
        apply Classical.byContradiction
        intro c
        have hl : fst1 (qSt q k).1 ≤ (qSt q k).1.length := fst1_le _
        have : ∀ (l : List Int) (i : Nat), i < fst1 l → l.getD i 0 ≠ 1 := by
          intro l
          induction l with
          | nil => intro i hi; simp [fst1] at hi
          | cons x l ihl =>
            intro i hi
            rw [fst1] at hi
            split at hi
            · omega
            · rename_i c
              cases i with
              | zero => simpa using c
              | succ i => simpa using ihl i (by omega)
        exact this _ i (by omega) h1
      have hit : fst1 (qSt q k).1 < (qSt q k).1.length := by omega
      refine ⟨fun j hj => ?_, f.cut (by omega) (by omega) (fst1_at _ hit).1⟩
      by_cases e : j = k
      · rw [e]; exact hit
      · exact al j (by omega)
  obtain ⟨al, f⟩ := key (q.length - 3) (by omega)
  have ln := (qSt_len al (by omega)).1
  refine decide_eq_true ⟨s, al, ?_⟩
  generalize (qSt q (q.length - 3)).1 = l at *
  match l, ln with
  | [a, b, c], _ =>
    obtain ⟨rfl, rfl, rfl⟩ := f.three
    rfl
  | [], hl => simp at hl; omega
  | [a], hl => simp at hl; omega
  | [a, b], hl => simp at hl; omega
  | a :: b :: c :: d :: t, hl => simp at hl; omega
theorem frieze_isQ {q : List Int} (s : smallQ q) {f : List (List Int)} (h : isF f = true) (e : f.getD 2 [] = q) : isQ q = true := fine_isQ s (e ▸ frieze_fine h)
theorem isF_nil : isF [] = false := isF_size (by simp)

end Go.Proofs.YtbicfognbbeigaaGreat

/-
  Contracts of friezes of quiddities are proved.
  They hold for all rows of numbers.
-/
set_option linter.unusedVariables false
set_option linter.unusedSimpArgs false
namespace Go.Proofs.YtbicfognbbeigaaGreat
open Go.Proofs.YtbicfognbbeigaaGreat.Ab Go.Proofs.YtbicfognbbeigaaGreat.Pl

def friezeR (q : List Int) : List (List Int) × Bool := if isQ q = true then (frz q, true) else ([], false)
theorem isQ_sm {q : List Int} (h : isQ q = true) : smallQ q := (of_decide_eq_true h).1
theorem NewG.stW {h0 h : H} {L : List (Nat × Blk)} {K : Nat → H → Prop} {n : Nat} {l : List Int} {z : AV} (s : St h0 h L) (hz : z = .int .i64 0) (e : List.replicate n 0 = l) (hk : ∀ b h', St h0 h' ((b, row (ints l)) :: L) → K b h') : NewG h (.cells true 1 (List.replicate n z)) K := by
  subst e
  exact .stZ s hz hk
def onesT (n k : Nat) : List Int := tab n fun j => if j < k then 1 else 0
theorem onesT_zero (n : Nat) : List.replicate n 0 = onesT n 0 := by
  rw [tab_replicate]
  exact tab_congr fun i hi => by rw [if_neg (by omega)]
theorem onesT_set {n k : Nat} : (onesT n k).set k 1 = onesT n (k + 1) := by
  unfold onesT
  rw [tab_set]
  exact tab_congr fun j hj => by
    split
    · rw [if_pos (by omega)]
    · split <;> split <;> first | rfl | omega
@[simp] theorem onesT_len (n k : Nat) : (onesT n k).length = n := tab_length _ _
/-- a row of a frieze, as far as it is made -/
def frP (q : List Int) (n r i : Nat) : List Int := tab n fun j => if j < i then frE q r j else 0
theorem frP_zero (q : List Int) (n r : Nat) : List.replicate n 0 = frP q n r 0 := by
  rw [tab_replicate]
  exact tab_congr fun i hi => by rw [if_neg (by omega)]
@[simp] theorem frP_len (q : List Int) (n r i : Nat) : (frP q n r i).length = n := tab_length _ _
theorem frP_set {q : List Int} {n r i : Nat} {y : Int} (e : y = frE q r i) : (frP q n r i).set i y = frP q n r (i + 1) := by
  subst e
  unfold frP
  rw [tab_set]
  exact tab_congr fun j hj => by
    split
    · rename_i h
      subst h
      rw [if_pos (by omega)]
    · split <;> split <;> first | rfl | omega
theorem frP_full (q : List Int) (n r : Nat) : frP q n r n = tab n (frE q r) := tab_congr fun j hj => if_pos hj
theorem frz_take {q : List Int} {r : Nat} (h : r < q.length + 1) : (frz q).take (r + 1) = (frz q).take r ++ [tab q.length (frE q r)] := by
  have hl : r < (frz q).length := by rw [frz_len]; exact h
  rw [List.take_succ_eq_append_getElem hl]
  congr 2
  rw [← frz_row q h]
  simp [List.getD, hl]
theorem frz_three {q : List Int} (h : isQ q = true) : (frz q).take 3 = [List.replicate q.length 0, onesT q.length q.length, q] := by
  have sz := (isQ_sm h).1
  have e0 : tab q.length (frE q 0) = List.replicate q.length 0 := by rw [tab_replicate]; rfl
  have e1 : tab q.length (frE q 1) = onesT q.length q.length := tab_congr fun i hi => by rw [if_pos hi, frE_one q i (by omega)]
  have e2 : tab q.length (frE q 2) = q := by
    conv => rhs; rw [tab_of q]
    exact tab_congr fun i hi => frE_two q (by omega) hi
  rw [frz_take (r := 2) (by omega), frz_take (r := 1) (by omega), frz_take (r := 0) (by omega), e0, e1, e2]
  rfl
theorem frz_at {q : List Int} {f : List (List Int)} {N r : Nat} (e : f = (frz q).take N) (hr : r < N) (hN : N ≤ q.length + 1) : f.getD r [] = tab q.length (frE q r) := by
  rw [← frz_row q (by omega), e]
  simp [List.getD, List.getElem?_take, hr]
theorem frz_num {q : List Int} {f : List (List Int)} {N r i : Nat} (e : f = (frz q).take N) (hr : r < N) (hN : N ≤ q.length + 1) (hi : i < q.length) : ent f r i = frE q r i := by
  unfold ent
  rw [frz_at e hr hN, tab_getD _ hi]
/-- the division of the rule is exact -/
theorem frE_quo {q : List Int} (h : isQ q = true) {r i : Nat} (hr : r + 3 ≤ q.length) (hi : i < q.length) :
    (1 ≤ frE q (r + 1) ((i + 1) % q.length) ∧ frE q (r + 1) ((i + 1) % q.length) ≤ 100000) ∧ (0 ≤ frE q (r + 2) i * frE q (r + 2) ((i + 1) % q.length) ∧ frE q (r + 2) i * frE q (r + 2) ((i + 1) % q.length) ≤ 10000000000) ∧
    (frE q (r + 2) i * frE q (r + 2) ((i + 1) % q.length) - 1).tdiv (frE q (r + 1) ((i + 1) % q.length)) = frE q (r + 3) i ∧ (frE q (r + 2) i * frE q (r + 2) ((i + 1) % q.length) - 1).tmod (frE q (r + 1) ((i + 1) % q.length)) = 0 ∧
    0 ≤ frE q (r + 3) i ∧ frE q (r + 3) i ≤ 100000 := by
  have hk : (i + 1) % q.length < q.length := Nat.mod_lt _ (by omega)
  have c1 := frE_cell h (r := r + 1) (by omega) hk
  have c2 := cell_bd (frE_cell h (r := r + 2) (by omega) hi)
  have c3 := cell_bd (frE_cell h (r := r + 2) (by omega) hk)
  have c4 := cell_bd (frE_cell h (r := r + 3) (by omega) hi)
  have p := c1.2.1 (by omega)
  have ru := frE_rule (q := q) (r := r + 1) (i := i) (by omega) hi
  have pb := prod_bd c2 c3
  have e : frE q (r + 2) i * frE q (r + 2) ((i + 1) % q.length) - 1 = frE q (r + 1) ((i + 1) % q.length) * frE q (r + 3) i := by
    have ru' : frE q (r + 2) i * frE q (r + 2) ((i + 1) % q.length) - frE q (r + 1) ((i + 1) % q.length) * frE q (r + 3) i = 1 := ru
    omega
  refine ⟨p, pb, ?_, ?_, c4.1, c4.2⟩
  · rw [e]
    exact Int.mul_tdiv_cancel_left _ (by omega)
  · rw [e]
    exact Int.mul_tmod_right _ _


/-- rows of small numbers, all of one length -/
def RowsOk (n : Nat) (f : List (List Int)) : Prop := ∀ l ∈ f, l.length = n ∧ ∀ x ∈ l, 0 ≤ x ∧ x ≤ 100000
theorem RowsOk.len {n : Nat} {f : List (List Int)} (h : RowsOk n f) {r : Nat} (hr : r < f.length) : (f.getD r []).length = n := by
  have e : f.getD r [] = f[r] := by simp [List.getD, hr]
  rw [e]
  exact (h _ (List.getElem_mem hr)).1
theorem RowsOk.bd {n : Nat} {f : List (List Int)} (h : RowsOk n f) (r i : Nat) : 0 ≤ ent f r i ∧ ent f r i ≤ 100000 := by
  unfold ent
  by_cases hr : r < f.length
  · have e : f.getD r [] = f[r] := by simp [List.getD, hr]
    rw [e]
    by_cases hi : i < (f[r]).length
    · have e2 : (f[r]).getD i 0 = (f[r])[i] := by simp [List.getD, hi]
      rw [e2]
      exact (h _ (List.getElem_mem hr)).2 _ (List.getElem_mem hi)
    · have e2 : (f[r]).getD i 0 = 0 := by simp [List.getD, hi]
      rw [e2]
      omega
  · have e : f.getD r [] = [] := by simp [List.getD, hr]
    rw [e]
    simp
theorem RowsOk.snoc {n : Nat} {f : List (List Int)} {l : List Int} (h : RowsOk n f) (hl : l.length = n) (hb : ∀ x ∈ l, 0 ≤ x ∧ x ≤ 100000) : RowsOk n (f ++ [l]) := fun m hm => by
  rcases List.mem_append.1 hm with hm | hm
  · exact h m hm
  · cases List.mem_singleton.1 hm
    exact ⟨hl, hb⟩
theorem getD_row2 (f : List (List Int)) (l : List Int) (h : 3 ≤ f.length) : (f ++ [l]).getD 2 [] = f.getD 2 [] := by
  simp only [List.getD]
  rw [List.getElem?_append_left (by omega)]
theorem ones_rep (n : Nat) : List.replicate n 1 = onesT n n := by
  rw [tab_replicate]
  exact tab_congr fun i hi => by rw [if_pos hi]
theorem rep_snoc (n : Nat) : List.replicate n (1 : Int) ++ [1] = List.replicate (n + 1) 1 := by rw [List.replicate_succ']

def RowsRes (q : List Int) (h0 : H) (v : AV) (h' : H) : Prop :=
  ∃ b R g, v = .slice b 0 g.length g.length ∧ rws R = g ∧ R.length = g.length ∧ St h0 h' ((b, row (slcs R)) :: (blks R ++ [])) ∧ ((g = [] ∧ isQ q = false) ∨ (g.getD 2 [] = q ∧ g.length = q.length + 1 ∧ (isQ q = true → g = frz q)))
theorem RowsRes.mk' {q : List Int} {h0 h' : H} {b N : Nat} {R : RL} {g : List (List Int)} (hN : N = g.length) (hR : rws R = g) (s : St h0 h' ((b, row (slcs R)) :: (blks R ++ []))) (h : (g = [] ∧ isQ q = false) ∨ (g.getD 2 [] = q ∧ g.length = q.length + 1 ∧ (isQ q = true → g = frz q))) : RowsRes q h0 (.slice b 0 N N) h' := by
  subst hN
  exact ⟨b, R, g, rfl, hR, by rw [← hR, rws_length], s, h⟩



theorem friezeR_len (q : List Int) : (friezeR q).1.length ≤ 11 := by
  unfold friezeR
  split
  · rename_i h
    have := (isQ_sm h).1
    rw [frz_len]
    omega
  · simp
theorem friezeR_tot (q : List Int) : totL (friezeR q).1 ≤ 2000000 := by
  have h1 : ∀ l ∈ (friezeR q).1, l.length ≤ 10 := by
    unfold friezeR
    split
    · rename_i h
      intro l hl
      have s := (isQ_sm h).1
      obtain ⟨r, hr, e⟩ := List.getElem_of_mem hl
      have hr' : r < q.length + 1 := by rw [← frz_len]; exact hr
      have e2 : (frz q).getD r [] = l := by rw [← e]; simp [List.getD, show r < (frz q).length from hr]
      rw [← e2, frz_row q hr', tab_length]
      omega
    · intro l hl; cases hl
  have := totL_le h1
  have := friezeR_len q
  omega

end Go.Proofs.YtbicfognbbeigaaGreat

/-
  Contracts of the functions that draw quiddities and friezes are proved.
  They hold for all codes of at most 1048576 bytes.
-/
set_option linter.unusedVariables false
set_option linter.unusedSimpArgs false
namespace Go.Proofs.YtbicfognbbeigaaGreat
open Go.Proofs.YtbicfognbbeigaaGreat.Ab Go.Proofs.YtbicfognbbeigaaGreat.Pl

/-- a polygon with diagonals was drawn -/
def TriDraw0 (H0 : H) (w : AV) (h' : H) : Prop :=
  ∃ (n : Int) (d : List (List Int)) (b C : Nat) (R : RL), w = .tup [.int .i64 n, .slice b 0 d.length C] ∧ d.length ≤ C ∧ rws R = d ∧ SmallD n d ∧ St H0 h' ((b, row (slcs R)) :: (blks R ++ []))
theorem l7Both_ok (l : List UInt8) (v : AV) (h0 : H) (hv : CellsAt h0 v (bytesAV l)) (hl : l.length ≤ 1048576) : AC env 69 [v] h0 (TriDraw0 h0) := by
  have hv2 := hv
  rcases hv2 with ⟨rfl, e⟩ | ⟨b, cp, rfl, hb⟩
  all_goals
    refine AC.enter Tryz.func69 Tryz.call69 rfl Tryz.ntmps69 (of_decide_eq_true (by rfl)) ?_
    repeat' (first
      | (refine (l1New_ok l _ _ hv hl).mono ?_; rintro w h' ⟨c, rfl, hc⟩; conv => whnf)
      | (refine (l7Any_ok _ _ _ _ hc).mono ?_; rintro w h' ⟨n, d, b, C, R, rfl, hC, hR, sm, hc2⟩; conv => whnf)
      | refine AW.seq ?_
      | (refine AW.region ?_; conv => whnf)
      | (refine AW.ret ?_; conv => whnf))
    exact ⟨n, d, b, C, R, rfl, hC, hR, sm, hc2.st⟩

theorem Grid.ofCur {H0 h : H} {c b : Nat} {L : List (Nat × Blk)} {R : RL} (s : CurSt H0 h c ((b, row (slcs R)) :: (blks R ++ L))) : Grid h b R := St.rows s.st
/-- a row beside the drawer, without what was there ahead of it -/
theorem CurSt.mid {H0 h : H} {c : Nat} {p : Nat × Blk} {A L : List (Nat × Blk)} (s : CurSt H0 h c (p :: (A ++ L))) : CurSt H0 h c (p :: L) := s.sub (.cons_cons _ (List.sublist_append_right _ _))
theorem frz_rows (q : List Int) (h : q.length ≤ 10) : (frz q).length ≤ 11 ∧ ∀ x ∈ frz q, x.length ≤ 10 := by
  refine ⟨by rw [frz_len]; omega, fun x hx => ?_⟩
  obtain ⟨i, hi, rfl⟩ := List.getElem_of_mem hx
  have e := frz_row q (r := i) (by rw [frz_len] at hi; omega)
  rw [show (frz q).getD i [] = (frz q)[i] by simp [List.getD, hi]] at e
  rw [e, tab_length]
  omega
/-- a frieze, or what is left of one -/
def FriDraw (H0 : H) (w : AV) (h' : H) : Prop :=
  ∃ (b : Nat) (f : List (List Int)) (R : RL), w = .slice b 0 f.length f.length ∧ rws R = f ∧ f.length ≤ 11 ∧ (∀ x ∈ f, x.length ≤ 10) ∧ St H0 h' ((b, row (slcs R)) :: (blks R ++ []))
theorem friezeR_two (q : List Int) : (friezeR q = (frz q, true) ∧ isQ q = true) ∨ friezeR q = ([], false) := by
  unfold friezeR
  split
  · rename_i h
    exact .inl ⟨rfl, h⟩
  · exact .inr rfl
/-- a number of one of the rows is written -/
theorem StoreG.curNum {H0 h : H} {c b sz n i : Nat} {p : Nat × Blk} {L : List (Nat × Blk)} {R : RL} {y : Int} {K : H → Prop} (s : CurSt H0 h c (p :: (b, row (slcs R)) :: (blks R ++ L))) (hi : i < R.length) (hs : sz = 1) (ho : n < (rl R i).length)
    (hk : ∀ h' R', R'.length = R.length → rws R' = (rws R).set i ((rl R i).set n y) → CurSt H0 h' c ((b, row (slcs R')) :: (blks R' ++ L)) → K h') : StoreG h (rb R i) (0 + mulSz n sz) (.int .i64 y) K := by
  obtain ⟨v, a, j, k, h1, h2, h3, h4⟩ := s.ex
  have h5 : St H0 h ((b, row (slcs R)) :: (blks R ++ (c, curB v j k) :: L)) := (h4.perm ((List.Perm.swap _ _ _).trans (.cons _ ((List.Perm.swap _ _ _).trans (.cons _ List.perm_middle.symm))))).tail
  refine StoreG.stR h5 hi hs ho fun h' hs' => hk h' (R.set i (rb R i, (rl R i).set n y)) (by simp) (by unfold rws; rw [List.map_set]) ⟨v, a, j, k, h1, h2, h3, ?_⟩
  exact hs'.perm ((List.Perm.cons _ List.perm_middle).trans (.swap _ _ _))

end Go.Proofs.YtbicfognbbeigaaGreat
