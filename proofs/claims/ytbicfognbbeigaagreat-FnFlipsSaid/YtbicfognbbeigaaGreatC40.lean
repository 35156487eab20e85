/-
  Contracts of the insertion of diagonals and of fans are proved.
  They hold for all sizes.
-/
import Derived.Test.YtbicfognbbeigaaGreatH8
set_option linter.unusedVariables false
set_option linter.unusedSimpArgs false
namespace Go.Proofs.YtbicfognbbeigaaGreat
open Go.Proofs.YtbicfognbbeigaaGreat.Ab Go.Proofs.YtbicfognbbeigaaGreat.Pl

theorem cmp2 (a b c d : Int) : cmpL [a, b] [c, d] < 0 ↔ a < c ∨ (a = c ∧ b < d) := by
  simp only [cmpL]
  split
  · simp; omega
  · split
    · simp; omega
    · split
      · simp; omega
      · split
        · simp; omega
        · simp; omega
theorem bef_iff {x y : List Int} (hx : x.length = 2) (hy : y.length = 2) : cmpL x y < 0 ↔ x.getD 0 0 < y.getD 0 0 ∨ (x.getD 0 0 = y.getD 0 0 ∧ x.getD 1 0 < y.getD 1 0) := by
  match x, hx with
  | [a, b], _ =>
    match y, hy with
    | [c, d], _ => exact cmp2 a b c d

theorem before_ok (x y : List Int) (b c C D : Nat) (h0 : H) (hb : Has h0 b (ints x)) (hc' : Has h0 c (ints y)) (hx : x.length = 2) (hy : y.length = 2) :
    AC env 95 [.slice b 0 2 C, .slice c 0 2 D] h0 fun v h' => v = .bool (decide (cmpL x y < 0)) ∧ h' = h0 := by
  have k := bef_iff hx hy
  have x0 : x.getD (Int.toNat 0) 0 = x.getD 0 0 := rfl
  have x1 : x.getD (Int.toNat 1) 0 = x.getD 1 0 := rfl
  have y0 : y.getD (Int.toNat 0) 0 = y.getD 0 0 := rfl
  have y1 : y.getD (Int.toNat 1) 0 = y.getD 1 0 := rfl
  refine AC.enter Tryz.func95 Tryz.call95 rfl Tryz.ntmps95 (of_decide_eq_true (by rfl)) ?_
  repeat' (first
    | refine AW.seq ?_
    | (refine AW.region ?_; conv => whnf)
    | (refine AW.ret ?_; conv => whnf)
    | (refine AW.draw (id := 1) (.p 0 (.p 1 (.p 3 (.p 4 (.r 2 [6, 7, 8, 9, 10, 11, 12, 13, 14, 15, 16, 17, 18, 19, 20, 21, 22, 23, 24, 25] (.r 5 [6, 7, 8, 9, 10, 11, 12, 13, 14, 15, 16, 17, 18, 19, 20, 21, 22, 23, 24, 25] (.p 6 (.p 7 (.p 8 (.p 9 (.p 11 (.p 12 (.r 10 [14, 15, 16, 17, 18, 19, 20, 21, 22, 23, 24, 25] (.r 13 [14, 15, 16, 17, 18, 19, 20, 21, 22, 23, 24, 25] (.p 14 (.p 15 (.p 16 (.p 17 (.p 19 (.p 20 (.r 18 [22, 23, 24, 25] (.r 21 [22, 23, 24, 25] (.p 22 (.p 23 (.p 24 (.p 25 .done)))))))))))))))))))))))))) (by kernel_rfl) (by kernel_rfl) ?_; conv => whnf)
    | (refine Br.dt (by omega) ?_; conv => whnf)
    | (refine Br.df (by omega) ?_; conv => whnf)
    | (refine Br.dec (fun hc => ?_) (fun hc => ?_) <;> conv => whnf)
    | (refine Ck.mk (by omega) ?_; conv => whnf)
    | (refine Has.loadZ (by first | assumption | exact St.has (by assumption) (by repeat first | exact .head _ | apply List.Mem.tail) | exact St.arg (by assumption) (by assumption)) rfl (by first | (simp; done) | omega | (simp only [List.length_set, List.length_append, List.length_cons, List.length_nil, List.length_replicate, tab_length]; omega) | (simp; omega)) ?_; conv => whnf))
  all_goals refine ⟨?_, rfl⟩
  all_goals congr 1
  all_goals first
    | (symm; apply decide_eq_false; omega)
    | (rw [decide_eq_decide]; omega)
    | (symm; apply decide_eq_true; omega)

theorem slcs_take (R : RL) (k : Nat) : (slcs R).take k = slcs (R.take k) := by unfold slcs; rw [List.map_take]
theorem slcs_drop (R : RL) (k : Nat) : (slcs R).drop k = slcs (R.drop k) := by unfold slcs; rw [List.map_drop]
theorem Has.loadsToR {h : H} {b q : Nat} {R : RL} {K : List AV → Prop} (m : Has h b (slcs R)) (r : Nat) (e2 : q = r) (hn : r ≤ R.length) (hk : K (slcs (R.take r))) : LoadsG h b 0 q K := by
  subst e2
  obtain ⟨w, s, e⟩ := m
  refine .mk w s _ e (by simp; omega) ?_
  rw [List.drop_zero, slcs_take]
  exact hk
theorem Has.loadsOffR {h : H} {b n sz q : Nat} {R : RL} {K : List AV → Prop} (m : Has h b (slcs R)) (hs : sz = 1) (o r : Nat) (e : n = o) (e2 : q = r) (hn : o + r = R.length) (hk : K (slcs (R.drop o))) : LoadsG h b (0 + mulSz n sz) q K := by
  rw [off1 hs]
  subst e e2
  obtain ⟨w, s, e⟩ := m
  refine .mk w s _ e (by simp; omega) ?_
  rw [slcs_drop, List.take_of_length_le (by simp; omega)]
  exact hk
theorem AppG.stX {h0 h : H} {L : List (Nat × Blk)} {b : Nat} {K : AV → H → Prop} {bytes N C m : Nat} {cs news : List AV} {L' : Nat → List (Nat × Blk)} (s : St h0 h L) (sp : ∀ b', Spot L (b, row cs) (b', row (cs ++ news)) (L' b')) (hN : N = cs.length) (hb : cs.length + m ≤ 1000000000) (hy : bytes ≤ 1000) (h1 : ∀ v ∈ news, v.one = true)
    (hk : ∀ b' h', St h0 h' (L' b') → K (.slice b' 0 (N + m) (N + m)) h') : AppG h (.slice b 0 N C) bytes news m K :=
  .st s sp hN (by
    have e : (cs.length + m) * bytes ≤ 1000000000 * 1000 := Nat.mul_le_mul hb hy
    omega) h1 hk
theorem slice_len2 {b n m : Nat} (e : n = m) : AV.slice b 0 n n = AV.slice b 0 m m := by rw [e]
theorem mem_two {R : RL} (h : ∀ r ∈ R, r.2.length = 2) {i : Nat} (hi : i < R.length) : (rl R i).length = 2 := h _ (rl_mem R i hi)
theorem Grid.row2 {h : H} {b : Nat} {R : RL} (m : Grid h b R) (r : Nat) {n sz : Nat} (hs : sz = 1) {K : AV → Prop} (e : n = r) (ho : r < R.length) (hl : (rl R r).length = 2) (hk : K (.slice (rb R r) 0 2 2)) : LoadG h b (0 + mulSz n sz) K := by
  subst e
  refine m.load hs ho ?_
  rw [hl]
  exact hk

/-- a row is put among rows of two -/
def PutRes (R : RL) (c : Nat) (x : List Int) (L : List (Nat × Blk)) (H0 : H) (N : Nat) (v : AV) (h' : H) : Prop :=
  ∃ b', v = .slice b' 0 (N + 1) (N + 1) ∧ St H0 h' ((b', row (slcs (putP R (c, x)))) :: (blks (putP R (c, x)) ++ L))
theorem putFin {R : RL} {c f b : Nat} {x : List Int} {X : List AV} {z : Blk} {L : List (Nat × Blk)} {H0 h' : H} (s : St H0 h' ((f, row X) :: (c, row (ints x)) :: (b, z) :: (blks R ++ L))) (e : X = slcs (putP R (c, x))) : St H0 h' ((f, row (slcs (putP R (c, x)))) :: (blks (putP R (c, x)) ++ L)) := by
  subst e
  refine (s.sub (List.Sublist.cons_cons _ (List.Sublist.cons_cons _ (List.sublist_cons_self _ _)))).perm (.cons _ ?_)
  have p : (blks (putP R (c, x))).Perm ((c, row (ints x)) :: blks R) := (putP_perm R (c, x)).map _
  exact (p.append_right L).symm
theorem putX {R : RL} {c k n : Nat} {x : List Int} (hx : x.length = 2) (fn : putP R (c, x) = R.take k ++ [(c, x)] ++ R.drop k) : [] ++ slcs (R.take k) ++ [.slice c 0 2 2] ++ slcs (R.drop k) = slcs (putP R (c, x)) := by
  rw [fn, slcs_append, slcs_append, List.nil_append]
  have : slcs [(c, x)] = [.slice c 0 2 2] := by unfold slcs; simp [hx]
  rw [this]
set_option maxHeartbeats 4000000 in
theorem put_ok (R : RL) (x : List Int) (L : List (Nat × Blk)) (b c N C : Nat) (H0 hp : H) (hs : St H0 hp ((c, row (ints x)) :: (b, row (slcs R)) :: (blks R ++ L))) (hN : N = R.length) (hC : N ≤ C) (hl : N ≤ 1000000) (hx : x.length = 2) (hr : ∀ r ∈ R, r.2.length = 2) :
    AC env 66 [.slice b 0 N C, .slice c 0 2 2] hp (PutRes R c x L H0 N) := by
  subst hN
  have hg : Grid hp b R := (St.rows (L := L) (hs.tail))
  have hxx : Has hp c (ints x) := hs.has (.head _)
  have hbb : Has hp b (slcs R) := hg.out
  refine AC.enter Tryz.func66 Tryz.call66 rfl Tryz.ntmps66 (of_decide_eq_true (by rfl)) ?_
  repeat' (first
    | refine AW.seq ?_
    | (refine AW.region ?_; conv => whnf)
    | refine AW.block ?_)
  refine AW.loop1 (fun (k : Nat) => [(0, .slice b 0 R.length C), (1, .slice c 0 2 2), (5, .int .i64 k)]) (fun k h' => k ≤ R.length ∧ (∀ j, k ≤ j → j < R.length → cmpL x (rl R j) < 0) ∧ h' = hp) (fun k => k) R.length
    (Less.cons rfl (Less.cons rfl (Less.cons rfl (Less.nil _)))) ⟨by omega, fun j a b => by omega, rfl⟩ ?_
  rintro k h1 ⟨hk, hj, rfl⟩
  have fin : (k = 0 ∨ ¬ cmpL x (rl R (k - 1)) < 0) → putP R (c, x) = R.take k ++ [(c, x)] ++ R.drop k := fun h => putP_at (c, x) R.length R k rfl hk hj h
  cases k with
  | zero =>
    have fn := fin (.inl rfl)
    repeat' (first
      | (refine And.intro ?_ ?_ <;> (conv => whnf))
      | (refine Has.loadsToR (R := R) (St.has (by assumption) (by repeat first | exact .head _ | apply List.Mem.tail)) 0 (by omega) (by omega) ?_; conv => whnf)
      | (refine Has.loadsOffR (R := R) (St.has (by assumption) (by repeat first | exact .head _ | apply List.Mem.tail)) rfl 0 (R.length - 0) (by omega) (by omega) (by omega) ?_; conv => whnf)
      | (refine AppG.stX (by assumption) (by intro b'; repeat first | exact .here | apply Spot.there) (by first | (simp; done) | (simp; omega)) (by first | (simp; done) | (simp; omega)) (by decide) (by first | exact slcs_one _ | (intro v hv; cases List.mem_singleton.1 hv; rfl)) (fun b' h' hs' => ?_); conv => whnf)
      | refine AW.seq ?_
      | (refine AW.region ?_; conv => whnf)
      | (refine AW.ret ?_; conv => whnf)
      | (refine AW.exit ?_; conv => whnf)
      | refine AW.cond (by rfl) ?_
      | (refine AW.draw (id := 4) (.p 1 (.p 2 (.p 3 (.p 5 (.p 8 (.p 9 (.p 10 (.all [0, 6] fun i => bif Nat.beq i 0 then (.all [4, 6] fun i => bif Nat.beq i 4 then (.all [6] fun _ => (.all [7] fun _ => (.all [11] fun _ => (.p 12 .done)))) else (.all [4] fun _ => (.all [7] fun _ => (.all [11] fun _ => (.p 12 .done))))) else (.all [0] fun _ => (.all [4] fun _ => (.all [7] fun _ => (.all [11] fun _ => (.p 12 .done))))))))))))) (by kernel_rfl) (by kernel_rfl) ?_; conv => whnf)
      | (refine Br.ff ?_; conv => whnf)
      | (refine Ck.mk (by omega) ?_; conv => whnf)
      | (refine NewG.st (by assumption) (fun bt h' hs' => ?_); conv => whnf)
      | (refine LoadsG.has (by first | assumption | exact St.has (by assumption) (by repeat first | exact .head _ | apply List.Mem.tail) | exact St.arg (by assumption) (by assumption)) (by simp) ?_; conv => whnf))
    all_goals
      refine ⟨_, slice_len2 (by first | (simp; done) | (simp; omega)), ?_⟩
      first
        | exact putFin hs' (putX (n := 0) hx fn)
        | exact putFin hs'.tail (putX (n := 0) hx fn)
        | exact putFin (hs'.perm (.swap _ _ _)).tail (putX (n := 0) hx fn)
  | succ k =>
    have ek : (((k + 1 : Nat) : Int)) - 1 = k := by omega
    by_cases c1 : cmpL x (rl R k) < 0
    · have d1 : decide (cmpL x (rl R k) < 0) = true := decide_eq_true c1
      repeat' (first
        | (refine Grid.row2 hg k rfl (by omega) (by omega) (mem_two hr (by omega)) ?_; conv => whnf)
        | (refine (before_ok x (rl R k) _ _ _ _ _ hxx (hg.at (by omega)) hx (mem_two hr (by omega))).mono ?_; rw [d1]; rintro v h' ⟨rfl, e'⟩; subst h'; conv => whnf)
        | refine AW.seq ?_
        | (refine AW.region ?_; conv => whnf)
        | refine AW.block ?_
        | (refine AW.skip ?_; conv => whnf)
        | refine AW.cond (by rfl) ?_
        | (refine Br.tt ?_; conv => whnf)
        | (refine Br.dt (by omega) ?_; conv => whnf)
        | (refine Wr.i64 (by omega) ?_; conv => whnf)
        | (refine Ck.mk (by omega) ?_; conv => whnf))
      refine ⟨k, by rw [← ek]; exact (Less.cons rfl (Less.cons rfl (Less.cons rfl (Less.nil _)))), ⟨by omega, fun j a b => ?_, rfl⟩, by omega⟩
      by_cases e : j = k
      · rw [e]; exact c1
      · exact hj j (by omega) b
    · have d1 : decide (cmpL x (rl R k) < 0) = false := decide_eq_false c1
      have fn := fin (.inr (by simpa using c1))
      repeat' (first
        | (refine Grid.row2 hg k rfl (by omega) (by omega) (mem_two hr (by omega)) ?_; conv => whnf)
        | (refine (before_ok x (rl R k) _ _ _ _ _ hxx (hg.at (by omega)) hx (mem_two hr (by omega))).mono ?_; rw [d1]; rintro v h' ⟨rfl, e'⟩; subst h'; conv => whnf)
        | (refine And.intro ?_ ?_ <;> (conv => whnf))
        | (refine Has.loadsToR (R := R) (St.has (by assumption) (by repeat first | exact .head _ | apply List.Mem.tail)) (k + 1) (by omega) (by omega) ?_; conv => whnf)
        | (refine Has.loadsOffR (R := R) (St.has (by assumption) (by repeat first | exact .head _ | apply List.Mem.tail)) rfl (k + 1) (R.length - (k + 1)) (by omega) (by omega) (by omega) ?_; conv => whnf)
        | (refine AppG.stX (by assumption) (by intro b'; repeat first | exact .here | apply Spot.there) (by first | (simp; done) | (simp; omega)) (by first | (simp; done) | (simp; omega)) (by decide) (by first | exact slcs_one _ | (intro v hv; cases List.mem_singleton.1 hv; rfl)) (fun b' h' hs' => ?_); conv => whnf)
        | refine AW.seq ?_
        | (refine AW.region ?_; conv => whnf)
        | (refine AW.ret ?_; conv => whnf)
        | (refine AW.exit ?_; conv => whnf)
        | refine AW.cond (by rfl) ?_
        | (refine AW.draw (id := 4) (.p 1 (.p 2 (.p 3 (.p 5 (.p 8 (.p 9 (.p 10 (.all [0, 6] fun i => bif Nat.beq i 0 then (.all [4, 6] fun i => bif Nat.beq i 4 then (.all [6] fun _ => (.all [7] fun _ => (.all [11] fun _ => (.p 12 .done)))) else (.all [4] fun _ => (.all [7] fun _ => (.all [11] fun _ => (.p 12 .done))))) else (.all [0] fun _ => (.all [4] fun _ => (.all [7] fun _ => (.all [11] fun _ => (.p 12 .done))))))))))))) (by kernel_rfl) (by kernel_rfl) ?_; conv => whnf)
        | (refine Br.ff ?_; conv => whnf)
        | (refine Br.dt (by omega) ?_; conv => whnf)
        | (refine Wr.i64 (by omega) ?_; conv => whnf)
        | (refine Ck.mk (by omega) ?_; conv => whnf)
        | (refine NewG.st (by assumption) (fun bt h' hs' => ?_); conv => whnf)
        | (refine LoadsG.has (by first | assumption | exact St.has (by assumption) (by repeat first | exact .head _ | apply List.Mem.tail) | exact St.arg (by assumption) (by assumption)) (by simp) ?_; conv => whnf))
      all_goals
      refine ⟨_, slice_len2 (by first | (simp; done) | (simp; omega)), ?_⟩
      first
        | exact putFin hs' (putX (n := 0) hx fn)
        | exact putFin hs'.tail (putX (n := 0) hx fn)
        | exact putFin (hs'.perm (.swap _ _ _)).tail (putX (n := 0) hx fn)


end Go.Proofs.YtbicfognbbeigaaGreat
