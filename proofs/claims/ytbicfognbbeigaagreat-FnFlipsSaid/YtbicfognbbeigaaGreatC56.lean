/-
  The law of the way to a fan is proved.
  It holds for all rows of rows.
-/
import Derived.Test.YtbicfognbbeigaaGreatC55
set_option linter.unusedVariables false
set_option linter.unusedSimpArgs false
namespace Go.Proofs.YtbicfognbbeigaaGreat
open Go.Proofs.YtbicfognbbeigaaGreat.Ab Go.Proofs.YtbicfognbbeigaaGreat.Pl

/-! the diagonals of a corner -/
def atV (v : Int) (x : List Int) : Bool := decide (x.getD 0 0 = v ∨ x.getD 1 0 = v)
def degR (f : List (List Int)) (v : Int) : Nat := f.countP (atV v)
theorem degR_le (f : List (List Int)) (v : Int) : degR f v ≤ f.length := List.countP_le_length
theorem deg_take {f : List (List Int)} {i : Nat} (v : Int) (h : i < f.length) : degR (f.take (i + 1)) v = degR (f.take i) v + if atV v (f.getD i []) = true then 1 else 0 := by
  have e : f.getD i [] = f[i] := by simp [List.getD, h]
  rw [List.take_succ_eq_append_getElem h, e]
  unfold degR
  rw [List.countP_append]
  simp [List.countP_cons]
theorem deg_part (f : List (List Int)) (v : Int) (i : Nat) : degR (f.take i) v ≤ degR f v := by
  unfold degR
  exact List.Sublist.countP_le (List.take_sublist _ _)
/-- the first diagonal whose flip is one of the corner -/
def upP (N : Nat) (v : Int) (g : List (List Int)) (k : Nat) : Bool := !(atV v (g.getD k [])) && decide (degR g v < degR (flipR N g k) v)
def upAt (N : Nat) (v : Int) (g : List (List Int)) : Option Nat := (List.range g.length).find? (upP N v g)
theorem find_first {p : Nat → Bool} {n k : Nat} (hk : k < n) (h : p k = true) (hb : ∀ j, j < k → p j = false) : (List.range n).find? p = some k := by
  rw [List.find?_eq_some_iff_append]
  refine ⟨h, List.range k, (List.range (n - k - 1)).map (fun i => k + 1 + i), ?_, fun j hj => by simp [hb j (List.mem_range.1 hj)]⟩
  have e : n = k + (1 + (n - k - 1)) := by omega
  conv => lhs; rw [e, List.range_add, List.range_add]
  simp [Nat.add_assoc]
theorem find_none {p : Nat → Bool} {n : Nat} (hb : ∀ j, j < n → p j = false) : (List.range n).find? p = none := by
  rw [List.find?_eq_none]
  intro j hj
  simp [hb j (List.mem_range.1 hj)]
/-- one more on the way -/
def growW (N : Nat) (v : Int) (l : List (List (List Int))) : List (List (List Int)) := match upAt N v (l.getLast?.getD []) with
  | none => l
  | some k => l ++ [flipR N (l.getLast?.getD []) k]
def wayN (N : Nat) (v : Int) (f : List (List Int)) : Nat → List (List (List Int))
  | 0 => [f]
  | j + 1 => growW N v (wayN N v f j)
def fanWay (n : Int) (f : List (List Int)) (v : Int) : List (List (List Int)) × Bool := if isTri n f = true ∧ 0 ≤ v ∧ v ≤ n - 1 then (wayN n.toNat v f f.length, true) else ([], false)
structure WayOk (N : Nat) (l : List (List (List Int))) : Prop where
  pos : 1 ≤ l.length
  tri : ∀ g ∈ l, isTri N g = true
theorem last_at {l : List (List (List Int))} (h : 1 ≤ l.length) : l.getLast?.getD [] = l.getD (l.length - 1) [] := by
  rw [List.getLast?_eq_getElem?]
  rfl
theorem last_mem {l : List (List (List Int))} (h : 1 ≤ l.length) : l.getLast?.getD [] ∈ l := by
  rw [last_at h]
  have hk : l.length - 1 < l.length := by omega
  have e : l.getD (l.length - 1) [] = l[l.length - 1] := by simp [List.getD, hk]
  rw [e]
  exact List.getElem_mem _
theorem up_lt {N : Nat} {v : Int} {g : List (List Int)} {k : Nat} (h : upAt N v g = some k) : k < g.length ∧ upP N v g k = true :=
  ⟨List.mem_range.1 (List.mem_of_find?_eq_some h), List.find?_some h⟩
theorem WayOk.grow {N : Nat} {v : Int} {l : List (List (List Int))} (h : WayOk N l) : WayOk N (growW N v l) := by
  unfold growW
  cases e : upAt N v (l.getLast?.getD []) with
  | none => exact h
  | some k =>
    refine ⟨by simp, fun g hg => ?_⟩
    rcases List.mem_append.1 hg with hg | hg
    · exact h.tri g hg
    · rw [List.mem_singleton] at hg
      subst hg
      exact (flip_fine (h.tri _ (last_mem h.pos)) (up_lt e).1).2
theorem way_ok {N : Nat} {v : Int} {f : List (List Int)} (h : isTri N f = true) : ∀ j, WayOk N (wayN N v f j)
  | 0 => ⟨by simp [wayN], fun g hg => by rw [wayN, List.mem_singleton] at hg; subst hg; exact h⟩
  | j + 1 => (way_ok h j).grow
theorem way_len {N : Nat} {v : Int} {f : List (List Int)} : ∀ j, (wayN N v f j).length ≤ j + 1
  | 0 => by simp [wayN]
  | j + 1 => by
    rw [wayN, growW]
    have := way_len (N := N) (v := v) (f := f) j
    cases upAt N v ((wayN N v f j).getLast?.getD []) with
    | none => simp only; omega
    | some k => simp only [List.length_append, List.length_cons, List.length_nil]; omega
theorem way_stop {N : Nat} {v : Int} {f : List (List Int)} {j : Nat} (h : upAt N v ((wayN N v f j).getLast?.getD []) = none) : ∀ i, wayN N v f (j + i) = wayN N v f j
  | 0 => rfl
  | i + 1 => by
    rw [← Nat.add_assoc, wayN, way_stop h i, growW, h]
theorem way_next {N : Nat} {v : Int} {f : List (List Int)} {j k : Nat} (h : upAt N v ((wayN N v f j).getLast?.getD []) = some k) : wayN N v f (j + 1) = wayN N v f j ++ [flipR N ((wayN N v f j).getLast?.getD []) k] := by
  rw [wayN, growW, h]
theorem way_next_last {N : Nat} {v : Int} {f : List (List Int)} {j k : Nat} (h : upAt N v ((wayN N v f j).getLast?.getD []) = some k) : (wayN N v f (j + 1)).getLast?.getD [] = flipR N ((wayN N v f j).getLast?.getD []) k := by
  rw [way_next h]
  simp
theorem fanWay_fine (n : Int) (f : List (List Int)) (v : Int) : (fanWay n f v).1.length ≤ 10 ∧ (∀ g ∈ (fanWay n f v).1, totL g ≤ 20 ∧ g.length ≤ 2000000) := by
  unfold fanWay
  split
  · rename_i h
    obtain ⟨h, hv⟩ := h
    obtain ⟨N, rfl⟩ := isTri_nat h
    have sz := tri_sz h
    rw [Int.toNat_natCast]
    have := way_len (N := N) (v := v) (f := f) f.length
    refine ⟨by simp only; omega, fun g hg => ?_⟩
    have ft := (way_ok h _).tri g hg
    have sz2 := tri_sz ft
    have := totL_le (m := 2) fun l hl => by have := (tri_diag ft l hl).1; omega
    exact ⟨by omega, by omega⟩
  · exact ⟨by simp, fun g hg => (nomatch hg)⟩
theorem fanWay_tot (n : Int) (f : List (List Int)) (v : Int) : tot3 (fanWay n f v).1 ≤ 2000000 := by
  have := tot3_le fun g hg => ((fanWay_fine n f v).2 g hg).1
  have := (fanWay_fine n f v).1
  omega
theorem atV_iff (v : Int) (f : List (List Int)) (k : Nat) : atV v (f.getD k []) = true ↔ (ent f k 0 = v ∨ ent f k 1 = v) := by
  unfold atV ent
  rw [decide_eq_true_iff]

theorem iDeg_ok (v : Int) (R : RL) (f : List (List Int)) (b M C bv : Nat) (h0 : H) (hb : Grid h0 b R) (hv : Has h0 bv [.int .i64 v]) (hR : rws R = f) (hM : M = f.length) (hl : M ≤ 1000000) (two : Two f) :
    AC env 63 [.slice b 0 M C, .ptr bv 0] h0 fun r h' => r = .int .i64 (degR f v : Nat) ∧ h' = h0 := by
  have lR : R.length = M := by rw [hM, ← hR, rws_length]
  have dl := degR_le f v
  refine AC.enter Tryz.func63 Tryz.call63 rfl Tryz.ntmps63 (of_decide_eq_true (by rfl)) ?_
  repeat' (first
    | refine AW.seq ?_
    | (refine AW.region ?_; conv => whnf)
    | refine AW.block ?_)
  refine AW.loop2 (fun (i c : Nat) => [(1, .ptr bv 0), (4, .int .i64 c), (7, .slice b 0 M C), (8, .int .i64 M), (9, .int .i64 i)]) (fun i c h' => i ≤ M ∧ c = degR (f.take i) v ∧ h' = h0) (fun i _ => M - i) 0 0
    (Less.cons rfl (Less.cons rfl (Less.cons rfl (Less.cons rfl (Less.cons rfl (Less.nil _)))))) ⟨by omega, rfl, rfl⟩ ?_
  rintro i c h1 ⟨hi, hc0, rfl⟩
  have dp := deg_part f v i
  by_cases hlt : i < M
  · have ds := deg_take v (f := f) (i := i) (by omega)
    have ai := atV_iff v f i
    have l2 : (f.getD i []).length = 2 := two i (by omega)
    by_cases q : ent f i 0 = v ∨ ent f i 1 = v
    · rw [if_pos (ai.2 q)] at ds
      repeat' (first
        | (refine Grid.rowAt hb hR i rfl rfl (by omega) l2 ?_; conv => whnf)
        | (refine Grid.num2 hb hR i 0 rfl (by omega) l2 (by omega) ?_; conv => whnf)
        | (refine Grid.num2 hb hR i 1 rfl (by omega) l2 (by omega) ?_; conv => whnf)
        | (refine Has.load1 hv ?_; conv => whnf)
        | refine AW.seq ?_
        | (refine AW.region ?_; conv => whnf)
        | refine AW.block ?_
        | (refine AW.skip ?_; conv => whnf)
        | refine AW.cond (by rfl) ?_
        | (refine AW.draw (id := 5) (.p 0 (.p 1 (.r 2 [4, 5, 6, 7, 8, 9, 10, 11] (.r 3 [4, 5, 6, 7, 8, 9, 10, 11] (.p 4 (.p 5 (.p 6 (.p 7 (.r 8 [10, 11] (.r 9 [10, 11] (.p 10 (.p 11 .done)))))))))))) (by kernel_rfl) (by kernel_rfl) ?_; conv => whnf)
        | (refine Br.tt ?_; conv => whnf)
        | (refine Br.dt (by omega) ?_; conv => whnf)
        | (refine Br.df (by omega) ?_; conv => whnf)
        | (refine Br.dec (fun hc => ?_) (fun hc => ?_) <;> conv => whnf)
        | (refine Wr.i64 (by omega) ?_; conv => whnf)
        | (refine Ck.mk (by omega) ?_; conv => whnf))
      all_goals exact ⟨i + 1, c + 1, (Less.cons rfl (Less.cons rfl (Less.cons rfl (Less.cons rfl (Less.cons rfl (Less.nil _)))))), ⟨by omega, by omega, rfl⟩, by omega⟩
    · rw [if_neg (fun a => q (ai.1 a))] at ds
      repeat' (first
        | (refine Grid.rowAt hb hR i rfl rfl (by omega) l2 ?_; conv => whnf)
        | (refine Grid.num2 hb hR i 0 rfl (by omega) l2 (by omega) ?_; conv => whnf)
        | (refine Grid.num2 hb hR i 1 rfl (by omega) l2 (by omega) ?_; conv => whnf)
        | (refine Has.load1 hv ?_; conv => whnf)
        | refine AW.seq ?_
        | (refine AW.region ?_; conv => whnf)
        | refine AW.block ?_
        | (refine AW.skip ?_; conv => whnf)
        | refine AW.cond (by rfl) ?_
        | (refine AW.draw (id := 5) (.p 0 (.p 1 (.r 2 [4, 5, 6, 7, 8, 9, 10, 11] (.r 3 [4, 5, 6, 7, 8, 9, 10, 11] (.p 4 (.p 5 (.p 6 (.p 7 (.r 8 [10, 11] (.r 9 [10, 11] (.p 10 (.p 11 .done)))))))))))) (by kernel_rfl) (by kernel_rfl) ?_; conv => whnf)
        | (refine Br.dt (by omega) ?_; conv => whnf)
        | (refine Br.df (by omega) ?_; conv => whnf)
        | (refine Wr.i64 (by omega) ?_; conv => whnf)
        | (refine Ck.mk (by omega) ?_; conv => whnf))
      all_goals exact ⟨i + 1, c, (Less.cons rfl (Less.cons rfl (Less.cons rfl (Less.cons rfl (Less.cons rfl (Less.nil _)))))), ⟨by omega, by omega, rfl⟩, by omega⟩
  · obtain rfl : i = M := by omega
    repeat' (first
      | refine AW.seq ?_
      | (refine AW.region ?_; conv => whnf)
      | (refine AW.ret ?_; conv => whnf)
      | (refine AW.exit ?_; conv => whnf)
      | refine AW.cond (by rfl) ?_
      | (refine Br.df (by omega) ?_; conv => whnf))
    refine ⟨?_, rfl⟩
    rw [hc0, hM, List.take_length]

theorem sDeg_ok (v : Int) (R : RL) (f : List (List Int)) (b M C : Nat) (h0 : H) (hb : Grid h0 b R) (hR : rws R = f) (hM : M = f.length) (hl : M ≤ 1000000) (two : Two f) :
    AC env 64 [.slice b 0 M C, .int .i64 v] h0 fun r h' => r = .int .i64 (degR f v : Nat) ∧ h' = h0 := by
  have lR : R.length = M := by rw [hM, ← hR, rws_length]
  have dl := degR_le f v
  refine AC.enter Tryz.func64 Tryz.call64 rfl Tryz.ntmps64 (of_decide_eq_true (by rfl)) ?_
  repeat' (first
    | refine AW.seq ?_
    | (refine AW.region ?_; conv => whnf)
    | refine AW.block ?_)
  refine AW.loop2 (fun (i c : Nat) => [(0, .slice b 0 M C), (1, .int .i64 v), (5, .int .i64 c), (6, .int .i64 i)]) (fun i c h' => i ≤ M ∧ c = degR (f.take i) v ∧ h' = h0) (fun i _ => M - i) 0 0
    (Less.cons rfl (Less.cons rfl (Less.cons rfl (Less.cons rfl (Less.nil _))))) ⟨by omega, rfl, rfl⟩ ?_
  rintro i c h1 ⟨hi, hc0, rfl⟩
  have dp := deg_part f v i
  by_cases hlt : i < M
  · have ds := deg_take v (f := f) (i := i) (by omega)
    have ai := atV_iff v f i
    have l2 : (f.getD i []).length = 2 := two i (by omega)
    by_cases q : ent f i 0 = v ∨ ent f i 1 = v
    · rw [if_pos (ai.2 q)] at ds
      repeat' (first
        | (refine Grid.rowAt hb hR i rfl rfl (by omega) l2 ?_; conv => whnf)
        | (refine Grid.num2 hb hR i 0 rfl (by omega) l2 (by omega) ?_; conv => whnf)
        | (refine Grid.num2 hb hR i 1 rfl (by omega) l2 (by omega) ?_; conv => whnf)
        | refine AW.seq ?_
        | (refine AW.region ?_; conv => whnf)
        | refine AW.block ?_
        | (refine AW.skip ?_; conv => whnf)
        | refine AW.cond (by rfl) ?_
        | (refine Br.tt ?_; conv => whnf)
        | (refine Br.dt (by omega) ?_; conv => whnf)
        | (refine Br.df (by omega) ?_; conv => whnf)
        | (refine Br.dec (fun hc => ?_) (fun hc => ?_) <;> conv => whnf)
        | (refine Wr.i64 (by omega) ?_; conv => whnf)
        | (refine Ck.mk (by omega) ?_; conv => whnf))
      all_goals exact ⟨i + 1, c + 1, (Less.cons rfl (Less.cons rfl (Less.cons rfl (Less.cons rfl (Less.nil _))))), ⟨by omega, by omega, rfl⟩, by omega⟩
    · rw [if_neg (fun a => q (ai.1 a))] at ds
      repeat' (first
        | (refine Grid.rowAt hb hR i rfl rfl (by omega) l2 ?_; conv => whnf)
        | (refine Grid.num2 hb hR i 0 rfl (by omega) l2 (by omega) ?_; conv => whnf)
        | (refine Grid.num2 hb hR i 1 rfl (by omega) l2 (by omega) ?_; conv => whnf)
        | refine AW.seq ?_
        | (refine AW.region ?_; conv => whnf)
        | refine AW.block ?_
        | (refine AW.skip ?_; conv => whnf)
        | refine AW.cond (by rfl) ?_
        | (refine Br.dt (by omega) ?_; conv => whnf)
        | (refine Br.df (by omega) ?_; conv => whnf)
        | (refine Wr.i64 (by omega) ?_; conv => whnf)
        | (refine Ck.mk (by omega) ?_; conv => whnf))
      all_goals exact ⟨i + 1, c, (Less.cons rfl (Less.cons rfl (Less.cons rfl (Less.cons rfl (Less.nil _))))), ⟨by omega, by omega, rfl⟩, by omega⟩
  · obtain rfl : i = M := by omega
    repeat' (first
      | refine AW.seq ?_
      | (refine AW.region ?_; conv => whnf)
      | (refine AW.ret ?_; conv => whnf)
      | (refine AW.exit ?_; conv => whnf)
      | refine AW.cond (by rfl) ?_
      | (refine Br.df (by omega) ?_; conv => whnf))
    refine ⟨?_, rfl⟩
    rw [hc0, hM, List.take_length]

/-- the last rows of rows of one's own -/
theorem lastRows {h : H} {b m : Nat} {S : RL3} {l : List (List (List Int))} (c : Cube h b S) (e : rw3 S = l) (lS : S.length = m) (hm : 1 ≤ m) : Grid h (rb3 S (m - 1)) (rl3 S (m - 1)) ∧ rws (rl3 S (m - 1)) = l.getLast?.getD [] := by
  refine ⟨c.at (by omega), ?_⟩
  rw [last_at (by rw [← e, rw3_length]; omega), ← e, rw3_length, lS]
  exact (rw3_at rfl (m - 1)).symm
set_option maxHeartbeats 4000000 in
theorem iFanWay_ok (n : Int) (R : RL) (f : List (List Int)) (b M C : Nat) (v : Int) (h0 : H) (hb : Grid h0 b R) (hR : rws R = f) (hM : M = f.length) (hl : M ≤ 1000000000) (hC : M ≤ C) (hn : (-9223372036854775808 ≤ n ∧ n ≤ 9223372036854775807) ∧ -9223372036854775808 ≤ v ∧ v ≤ 9223372036854775807) :
    AC env 16 [.int .i64 n, .slice b 0 M C, .int .i64 v] h0 (Ret3 (fanWay n f v) h0) := by
  have hs := St.refl h0
  have lR : R.length = M := by rw [hM, ← hR, rws_length]
  by_cases ok : isTri n f = true ∧ 0 ≤ v ∧ v ≤ n - 1
  · have e : fanWay n f v = (wayN n.toNat v f f.length, true) := if_pos ok
    obtain ⟨ht, hv⟩ := ok
    obtain ⟨N, rfl⟩ := isTri_nat ht
    rw [Int.toNat_natCast] at e
    have sz := tri_sz ht
    have two := tri_two ht
    refine AC.enter Tryz.func16 Tryz.call16 rfl Tryz.ntmps16 (of_decide_eq_true (by rfl)) ?_
    repeat' (first
      | (refine (iIsTri_ok (N : Int) R f _ _ _ _ (hb.arg (by assumption)) hR hM (by omega) hC (by omega)).mono ?_; rw [ht]; rintro v h' ⟨rfl, e'⟩; subst h'; conv => whnf)
      | (refine (copyLists_ok R f _ _ _ _ (hb.arg (by assumption)) hR hM (by omega) two).mono ?_; rintro v h3 ⟨bc, T, rfl, hT, lT, hs3⟩; have hs4 := St.callR (by assumption) hs3; clear hs3; conv => whnf)
      | (refine NewG.st hs4 (fun bx h5 hs5 => ?_); conv => whnf)
      | refine AW.seq ?_
      | (refine AW.region ?_; conv => whnf)
      | refine AW.block ?_
      | (refine AW.skip ?_; conv => whnf)
      | refine AW.cond (by rfl) ?_
      | (refine (within_ok _ _ _ _).mono ?_; rintro v h' ⟨rfl, e'⟩; subst h'; conv => whnf)
      | (refine Br.ff ?_; conv => whnf)
      | refine Br.not ?_
      | (refine Br.dt (by omega) ?_; conv => whnf)
      | (refine Wr.i64 (by omega) ?_; conv => whnf)
      | (refine NewG.st (by assumption) (fun bt h' hs' => ?_); conv => whnf)
      | (refine Has.load1 (by first | assumption | exact St.has (by assumption) (by repeat first | exact .head _ | apply List.Mem.tail) | exact St.arg (by assumption) (by assumption)) ?_; conv => whnf))
    have hs5 : St h0 h5 ((bx, .cells true 1 [.slice bc 0 M M]) :: (bc, row (slcs T)) :: (blks T ++ [(bt, .cells true 1 [.int .i64 v])])) := hs5
    have hs6 : St h0 h5 ((bx, row (slc3 [(bc, T)])) :: (blk3 [(bc, T)] ++ [(bt, .cells true 1 [.int .i64 v])])) := by simpa [slc3, blk3, lT] using hs5
    clear hs5 hs4 hs' hs
    refine AW.loop4 (fun (bo m j : Nat) (S : RL3) => [(0, .int .i64 N), (5, .ptr bt 0), (8, .func 63 [.ptr bt 0]), (9, .slice bo 0 m m)]) (fun bo m j S h' => S.length = m ∧ rw3 S = wayN N v f j ∧ j ≤ degR ((wayN N v f j).getLast?.getD []) v ∧ St h0 h' ((bo, row (slc3 S)) :: (blk3 S ++ [(bt, .cells true 1 [.int .i64 v])]))) (fun _ _ j _ => M - degR ((wayN N v f j).getLast?.getD []) v) bx 1 0 [(bc, T)]
      (Less.cons rfl (Less.cons rfl (Less.cons rfl (Less.cons rfl (Less.nil _))))) ⟨rfl, by simp [rw3, hT, wayN], Nat.zero_le _, hs6⟩ ?_
    rintro bo m j S h1 ⟨lS, hS, hj, hs1⟩
    clear hs6
    have wo := way_ok (v := v) ht j
    have m1 : 1 ≤ m := by have := wo.pos; rw [← hS, rw3_length] at this; omega
    have wl := way_len (N := N) (v := v) (f := f) j
    have wm : (wayN N v f j).length = m := by rw [← hS, rw3_length, lS]
    have cb := St.cubeAt hs1 .here
    obtain ⟨lg, le⟩ := lastRows cb hS lS m1
    have lt := wo.tri _ (last_mem wo.pos)
    have wn : ∀ k, upAt N v ((wayN N v f j).getLast?.getD []) = some k → _ := fun k => way_next (N := N) (v := v) (f := f) (j := j) (k := k)
    have wnl : ∀ k, upAt N v ((wayN N v f j).getLast?.getD []) = some k → _ := fun k => way_next_last (N := N) (v := v) (f := f) (j := j) (k := k)
    have ws : upAt N v ((wayN N v f j).getLast?.getD []) = none → _ := way_stop (N := N) (v := v) (f := f) (j := j)
    have ex : (wayN N v f j).getD (m - 1) [] = (wayN N v f j).getLast?.getD [] := by
      rw [last_at wo.pos]
      congr 1
      rw [← hS, rw3_length, lS]
    generalize eg : (wayN N v f j).getLast?.getD [] = g at *
    have sz2 := tri_sz lt
    have gM : g.length = M := by omega
    have gtwo := tri_two lt
    have dg := degR_le g v
    have gl : ((wayN N v f j).getD (m - 1) []).length = M := by rw [ex]; exact gM
    repeat' (first
      | (refine Cube.rowAt cb hS (m - 1) rfl (by omega) (by omega) gl ?_; conv => whnf)
      | refine AW.seq ?_
      | (refine AW.region ?_; conv => whnf)
      | refine AW.block ?_
      | (refine Wr.i64 (by omega) ?_; conv => whnf)
      | (refine Ck.mk (by omega) ?_; conv => whnf))
    refine AW.loop1 (fun (k : Nat) => [(0, .int .i64 N), (5, .ptr bt 0), (8, .func 63 [.ptr bt 0]), (9, .slice bo 0 m m), (10, .slice (rb3 S (m - 1)) 0 M M), (11, .bool false), (38, .slice (rb3 S (m - 1)) 0 M M), (39, .int .i64 M), (40, .int .i64 k)]) (fun k h' => k ≤ M ∧ (∀ i, i < k → upP N v g i = false) ∧ St h0 h' ((bo, row (slc3 S)) :: (blk3 S ++ [(bt, .cells true 1 [.int .i64 v])]))) (fun k => M - k) 0
      (Less.cons rfl (Less.cons rfl (Less.cons rfl (Less.cons rfl (Less.cons rfl (Less.cons rfl (Less.cons rfl (Less.cons rfl (Less.cons rfl (Less.nil _)))))))))) ⟨by omega, fun i hi => by omega, hs1⟩ ?_
    rintro k h2 ⟨hk, hno, hs2⟩
    clear hs1 cb lg
    have cb := St.cubeAt hs2 .here
    obtain ⟨lg, _⟩ := lastRows cb hS lS m1
    have hbv : Has h2 bt [.int .i64 v] := St.has hs2 (List.mem_cons_of_mem _ (List.mem_append_right _ (.head _)))
    have lRL : (rl3 S (m - 1)).length = M := by rw [← rws_length, le, gM]
    by_cases hlt : k < M
    · have l2 : (g.getD k []).length = 2 := gtwo k (by omega)
      have ai := atV_iff v g k
      have ud : upP N v g k = (!(atV v (g.getD k [])) && decide (degR g v < degR (flipR N g k) v)) := rfl
      by_cases q : ent g k 0 = v ∨ ent g k 1 = v
      · rw [ai.2 q] at ud
        repeat' (first
          | (refine Grid.rowAt lg le k rfl rfl (by omega) l2 ?_; conv => whnf)
          | (refine Grid.num2 lg le k 0 rfl (by omega) l2 (by omega) ?_; conv => whnf)
          | (refine Grid.num2 lg le k 1 rfl (by omega) l2 (by omega) ?_; conv => whnf)
          | (refine Has.load1 hbv ?_; conv => whnf)
          | refine AW.seq ?_
          | (refine AW.region ?_; conv => whnf)
          | refine AW.block ?_
          | (refine AW.skip ?_; conv => whnf)
          | (refine AW.exit ?_; conv => whnf)
          | refine AW.cond (by rfl) ?_
          | (refine AW.draw (id := 10) (.p 0 (.p 1 (.r 2 [4, 5, 6, 7, 8, 9, 10, 11] (.r 3 [4, 5, 6, 7, 8, 9, 10, 11] (.p 4 (.p 5 (.p 6 (.p 7 (.r 8 [10, 11] (.r 9 [10, 11] (.p 10 (.p 11 .done)))))))))))) (by kernel_rfl) (by kernel_rfl) ?_; conv => whnf)
          | (refine Br.tt ?_; conv => whnf)
          | (refine Br.dt (by omega) ?_; conv => whnf)
          | (refine Br.df (by omega) ?_; conv => whnf)
          | (refine Br.dec (fun hc => ?_) (fun hc => ?_) <;> conv => whnf)
          | (refine Wr.i64 (by omega) ?_; conv => whnf)
          | (refine Ck.mk (by omega) ?_; conv => whnf))
        all_goals
          refine ⟨k + 1, (Less.cons rfl (Less.cons rfl (Less.cons rfl (Less.cons rfl (Less.cons rfl (Less.cons rfl (Less.cons rfl (Less.cons rfl (Less.cons rfl (Less.nil _)))))))))), ⟨by omega, fun i hi => ?_, hs2⟩, by omega⟩
          by_cases c : i = k
          · rw [c]; exact ud
          · exact hno i (by omega)
      · have av : atV v (g.getD k []) = false := by rw [Bool.eq_false_iff]; exact fun a => q (ai.1 a)
        rw [av] at ud
        have fe := flipF_at lt (k := k) (by omega)
        have ft := (flip_fine lt (k := k) (by omega)).2
        have ftwo := tri_two ft
        have fl := flipR_len lt (k := k) (by omega)
        have dg2 := degR_le (flipR N g k) v
        by_cases up : degR g v < degR (flipR N g k) v
        · rw [decide_eq_true up] at ud
          have ua : upAt N v g = some k := find_first (by omega) ud hno
          have wn := wn k ua
          have wnl := wnl k ua
          repeat' (first
            | (refine Grid.rowAt lg le k rfl rfl (by omega) l2 ?_; conv => whnf)
            | (refine Grid.num2 lg le k 0 rfl (by omega) l2 (by omega) ?_; conv => whnf)
            | (refine Grid.num2 lg le k 1 rfl (by omega) l2 (by omega) ?_; conv => whnf)
            | (refine Has.load1 hbv ?_; conv => whnf)
            | (refine (iFlip_ok (N : Int) _ g _ _ _ (k : Int) _ lg le gM.symm (by omega) (by omega) (by omega)).mono ?_; rw [fe]; rintro w h3 ⟨bF, RF, rfl, hRF, hLF, hsF⟩; have kF := St.keeps hsF; have hs3 := St.callR hs2 hsF; clear hsF; have gF := St.gridAt hs3 .here; have lg3 := lg.keep kF; have hb3 := hbv.keep kF; conv => whnf)
            | (refine (iDeg_ok v RF (flipR N g k) _ _ _ _ _ gF hb3 hRF rfl (by omega) ftwo).mono ?_; rintro w h' ⟨rfl, e'⟩; subst h'; conv => whnf)
            | (refine (iDeg_ok v _ g _ _ _ _ _ lg3 hb3 le gM.symm (by omega) gtwo).mono ?_; rintro w h' ⟨rfl, e'⟩; subst h'; conv => whnf)
            | (refine NewG.st hs3 (fun by_ h5 hs5 => ?_); conv => whnf)
            | (refine AppG.st3 hs5.tail lS.symm hLF.symm (by omega) (by decide) (fun b2 h' hs6 => ?_); conv => whnf)
            | refine AW.seq ?_
            | (refine AW.region ?_; conv => whnf)
            | refine AW.block ?_
            | (refine AW.skip ?_; conv => whnf)
            | (refine AW.exit ?_; conv => whnf)
            | refine AW.cond (by rfl) ?_
            | (refine AW.draw (id := 10) (.p 0 (.p 1 (.r 2 [4, 5, 6, 7, 8, 9, 10, 11] (.r 3 [4, 5, 6, 7, 8, 9, 10, 11] (.p 4 (.p 5 (.p 6 (.p 7 (.r 8 [10, 11] (.r 9 [10, 11] (.p 10 (.p 11 .done)))))))))))) (by kernel_rfl) (by kernel_rfl) ?_; conv => whnf)
            | (refine Br.ff ?_; conv => whnf)
            | (refine Br.dt (by omega) ?_; conv => whnf)
            | (refine Br.df (by omega) ?_; conv => whnf)
            | (refine Ck.mk (by omega) ?_; conv => whnf)
            | (refine LoadsG.has (by first | assumption | exact St.has (by assumption) (by repeat first | exact .head _ | apply List.Mem.tail) | exact St.arg (by assumption) (by assumption)) (by simp) ?_; conv => whnf))
          refine ⟨b2, m + 1, j + 1, _, (Less.cons rfl (Less.cons rfl (Less.cons rfl (Less.cons rfl (Less.nil _))))), ⟨by simp [lS], ?_, by rw [wnl]; omega, hs6⟩, by rw [wnl]; omega⟩
          rw [wn, rw3_append, hS]
          exact congrArg (fun x => wayN N v f j ++ [x]) hRF
        · rw [decide_eq_false up] at ud
          repeat' (first
            | (refine Grid.rowAt lg le k rfl rfl (by omega) l2 ?_; conv => whnf)
            | (refine Grid.num2 lg le k 0 rfl (by omega) l2 (by omega) ?_; conv => whnf)
            | (refine Grid.num2 lg le k 1 rfl (by omega) l2 (by omega) ?_; conv => whnf)
            | (refine Has.load1 hbv ?_; conv => whnf)
            | (refine (iFlip_ok (N : Int) _ g _ _ _ (k : Int) _ lg le gM.symm (by omega) (by omega) (by omega)).mono ?_; rw [fe]; rintro w h3 ⟨bF, RF, rfl, hRF, hLF, hsF⟩; have kF := St.keeps hsF; have hs3 := St.callR hs2 hsF; clear hsF; have gF := St.gridAt hs3 .here; have lg3 := lg.keep kF; have hb3 := hbv.keep kF; conv => whnf)
            | (refine (iDeg_ok v RF (flipR N g k) _ _ _ _ _ gF hb3 hRF rfl (by omega) ftwo).mono ?_; rintro w h' ⟨rfl, e'⟩; subst h'; conv => whnf)
            | (refine (iDeg_ok v _ g _ _ _ _ _ lg3 hb3 le gM.symm (by omega) gtwo).mono ?_; rintro w h' ⟨rfl, e'⟩; subst h'; conv => whnf)
            | refine AW.seq ?_
            | (refine AW.region ?_; conv => whnf)
            | refine AW.block ?_
            | (refine AW.skip ?_; conv => whnf)
            | refine AW.cond (by rfl) ?_
            | (refine AW.draw (id := 10) (.p 0 (.p 1 (.r 2 [4, 5, 6, 7, 8, 9, 10, 11] (.r 3 [4, 5, 6, 7, 8, 9, 10, 11] (.p 4 (.p 5 (.p 6 (.p 7 (.r 8 [10, 11] (.r 9 [10, 11] (.p 10 (.p 11 .done)))))))))))) (by kernel_rfl) (by kernel_rfl) ?_; conv => whnf)
            | (refine Br.dt (by omega) ?_; conv => whnf)
            | (refine Br.df (by omega) ?_; conv => whnf)
            | (refine Wr.i64 (by omega) ?_; conv => whnf)
            | (refine Ck.mk (by omega) ?_; conv => whnf))
          refine ⟨k + 1, (Less.cons rfl (Less.cons rfl (Less.cons rfl (Less.cons rfl (Less.cons rfl (Less.cons rfl (Less.cons rfl (Less.cons rfl (Less.cons rfl (Less.nil _)))))))))), ⟨by omega, fun i hi => ?_, (hs3.tail).sub (List.sublist_append_right _ _)⟩, by omega⟩
          by_cases c : i = k
          · rw [c]; exact ud
          · exact hno i (by omega)
    · obtain rfl : k = M := by omega
      have ua : upAt N v g = none := find_none fun i hi => hno i (by omega)
      have ws := ws ua (k - j)
      rw [show j + (k - j) = k by omega] at ws
      repeat' (first
        | refine AW.seq ?_
        | (refine AW.region ?_; conv => whnf)
        | (refine AW.ret ?_; conv => whnf)
        | (refine AW.exit ?_; conv => whnf)
        | refine AW.cond (by rfl) ?_
        | (refine Br.tt ?_; conv => whnf)
        | (refine Br.df (by omega) ?_; conv => whnf))
      exact Ret3.mk' (by rw [e, hS, ← hM, ws]) lS.symm (hs2.sub (List.Sublist.cons_cons _ (List.Sublist.append (List.Sublist.refl _) (List.nil_sublist _))))
  · have e : fanWay n f v = ([], false) := if_neg ok
    by_cases ht : isTri n f = true
    · have hv : ¬ (0 ≤ v ∧ v ≤ n - 1) := fun a => ok ⟨ht, a⟩
      have sz := (isTri_spec ht).1.1
      refine AC.enter Tryz.func16 Tryz.call16 rfl Tryz.ntmps16 (of_decide_eq_true (by rfl)) ?_
      repeat' (first
        | (refine (iIsTri_ok n R f _ _ _ _ (hb.arg (by assumption)) hR hM (by omega) hC (by omega)).mono ?_; rw [ht]; rintro w h' ⟨rfl, e'⟩; subst h'; conv => whnf)
        | refine AW.seq ?_
        | (refine AW.region ?_; conv => whnf)
        | (refine AW.ret ?_; conv => whnf)
        | refine AW.cond (by rfl) ?_
        | (refine (within_ok _ _ _ _).mono ?_; rintro v h' ⟨rfl, e'⟩; subst h'; conv => whnf)
        | (refine Br.ff ?_; conv => whnf)
        | refine Br.not ?_
        | (refine Br.df (by omega) ?_; conv => whnf)
        | (refine Wr.i64 (by omega) ?_; conv => whnf)
        | (refine NewG.st (by assumption) (fun bt h' hs' => ?_); conv => whnf)
        | (refine Has.load1 (by first | assumption | exact St.has (by assumption) (by repeat first | exact .head _ | apply List.Mem.tail) | exact St.arg (by assumption) (by assumption)) ?_; conv => whnf))
      all_goals exact Ret3.mk' (S := []) e rfl (nil3 (hs'.sub (List.Sublist.cons_cons _ (List.nil_sublist _))))
    · have ht : isTri n f = false := by simpa using ht
      refine AC.enter Tryz.func16 Tryz.call16 rfl Tryz.ntmps16 (of_decide_eq_true (by rfl)) ?_
      repeat' (first
        | (refine (iIsTri_ok n R f _ _ _ _ (hb.arg (by assumption)) hR hM (by omega) hC (by omega)).mono ?_; rw [ht]; rintro w h' ⟨rfl, e'⟩; subst h'; conv => whnf)
        | refine AW.seq ?_
        | (refine AW.region ?_; conv => whnf)
        | (refine AW.ret ?_; conv => whnf)
        | refine AW.cond (by rfl) ?_
        | (refine Br.tt ?_; conv => whnf)
        | (refine NewG.st (by assumption) (fun bt h' hs' => ?_); conv => whnf))
      all_goals exact Ret3.mk' (S := []) e rfl (nil3 (hs'.sub (List.Sublist.cons_cons _ (List.nil_sublist _))))

end Go.Proofs.YtbicfognbbeigaaGreat
