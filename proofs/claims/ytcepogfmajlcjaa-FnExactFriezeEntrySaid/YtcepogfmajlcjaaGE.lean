/-
  Contracts of the insertion of diagonals and of fans are proved.
  They hold for all sizes.
-/
import Derived.Test.YtcepogfmajlcjaaGD
import Derived.Test.YtcepogfmajlcjaaGC
set_option linter.unusedVariables false
set_option linter.unusedSimpArgs false
namespace Go.Proofs.Ytcepogfmajlcjaa
open Go.Proofs.Ytcepogfmajlcjaa.Ab Go.Proofs.Ytcepogfmajlcjaa.Pl

theorem cmp2 (a b c d : Int) : cmpL [a, b] [c, d] < 0 ↔ a < c ∨ (a = c ∧ b < d) := by
  simp only [cmpL]
  split
  · simp; omega
  · split
    · simp; omega
    · split
      · simp; omega
      · split
        · simp; omega
        · simp; omega
theorem bef_iff {x y : List Int} (hx : x.length = 2) (hy : y.length = 2) : cmpL x y < 0 ↔ x.getD 0 0 < y.getD 0 0 ∨ (x.getD 0 0 = y.getD 0 0 ∧ x.getD 1 0 < y.getD 1 0) := by
  match x, hx with
  | [a, b], _ =>
    match y, hy with
    | [c, d], _ => exact cmp2 a b c d

theorem before_ok (x y : List Int) (b c C D : Nat) (h0 : H) (hb : Has h0 b (ints x)) (hc' : Has h0 c (ints y)) (hx : x.length = 2) (hy : y.length = 2) :
    AC env 86 [.slice b 0 2 C, .slice c 0 2 D] h0 fun v h' => v = .bool (decide (cmpL x y < 0)) ∧ h' = h0 := by
  have k := bef_iff hx hy
  have x0 : x.getD (Int.toNat 0) 0 = x.getD 0 0 := rfl
  have x1 : x.getD (Int.toNat 1) 0 = x.getD 1 0 := rfl
  have y0 : y.getD (Int.toNat 0) 0 = y.getD 0 0 := rfl
  have y1 : y.getD (Int.toNat 1) 0 = y.getD 1 0 := rfl
  refine AC.enter Try.func86 Try.call86 rfl Try.ntmps86 (of_decide_eq_true (by rfl)) ?_
  repeat' (first
    | refine AW.seq ?_
    | (refine AW.region ?_; conv => whnf)
    | refine AW.block ?_
    | (refine AW.skip ?_; conv => whnf)
    | (refine AW.ret ?_; conv => whnf)
    | (refine AW.exit ?_; conv => whnf)
    | refine AW.cond (by rfl) ?_
    | (refine AW.draw (id := 1) (.p 0 (.p 1 (.p 3 (.p 4 (.r 2 [6, 7, 8, 9, 10, 11, 12, 13, 14, 15, 16, 17, 18, 19, 20, 21, 22, 23, 24, 25] (.r 5 [6, 7, 8, 9, 10, 11, 12, 13, 14, 15, 16, 17, 18, 19, 20, 21, 22, 23, 24, 25] (.p 6 (.p 7 (.p 8 (.p 9 (.p 11 (.p 12 (.r 10 [14, 15, 16, 17, 18, 19, 20, 21, 22, 23, 24, 25] (.r 13 [14, 15, 16, 17, 18, 19, 20, 21, 22, 23, 24, 25] (.p 14 (.p 15 (.p 16 (.p 17 (.p 19 (.p 20 (.r 18 [22, 23, 24, 25] (.r 21 [22, 23, 24, 25] (.p 22 (.p 23 (.p 24 (.p 25 .done)))))))))))))))))))))))))) (by kernel_rfl) (by kernel_rfl) ?_; conv => whnf)
    | (refine Br.tt ?_; conv => whnf)
    | (refine Br.ff ?_; conv => whnf)
    | refine Br.not ?_
    | (refine Br.t (beq_self_eq_true _) ?_; conv => whnf)
    | (refine Br.t (by assumption) ?_; conv => whnf)
    | (refine Br.f (by assumption) ?_; conv => whnf)
    | (refine Br.dt (by omega) ?_; conv => whnf)
    | (refine Br.df (by omega) ?_; conv => whnf)
    | (refine Br.it (by omega) ?_; conv => whnf)
    | (refine Br.if (by omega) ?_; conv => whnf)
    | (refine Br.nt (by omega) ?_; conv => whnf)
    | (refine Br.nf (by omega) ?_; conv => whnf)
    | (refine Br.dec (fun hc => ?_) (fun hc => ?_) <;> conv => whnf)
    | (refine Br.ieq (fun hc => ?_) (fun hc => ?_) <;> conv => whnf)
    | (refine Br.ine (fun hc => ?_) (fun hc => ?_) <;> conv => whnf)
    | (refine Br.mk (fun hc => ?_) (fun hc => ?_) <;> conv => whnf)
    | (refine Wr.i64 (by omega) ?_; conv => whnf)
    | (refine Ck.mk (by omega) ?_; conv => whnf)
    | (refine Wr.i64 (by simp only [List.length_drop, List.length_take, List.length_append, List.length_cons, List.length_nil]; omega) ?_; conv => whnf)
    | (refine Ck.mk (by simp only [List.length_drop, List.length_take, List.length_append, List.length_cons, List.length_nil]; omega) ?_; conv => whnf)
    | (refine Has.load1 (by first | assumption | exact St.has (by assumption) (by repeat first | exact .head _ | apply List.Mem.tail) | exact St.arg (by assumption) (by assumption)) ?_; conv => whnf)
    | (refine Has.loadZ (by first | assumption | exact St.has (by assumption) (by repeat first | exact .head _ | apply List.Mem.tail) | exact St.arg (by assumption) (by assumption)) rfl (by first | (simp; done) | omega | (simp only [List.length_set, List.length_append, List.length_cons, List.length_nil, List.length_replicate, tab_length]; omega) | (simp; omega)) ?_; conv => whnf)
    | (refine Ck.mk (by simp; omega) ?_; conv => whnf))
  all_goals refine ⟨?_, rfl⟩
  all_goals congr 1
  all_goals first
    | (symm; apply decide_eq_false; omega)
    | (rw [decide_eq_decide]; omega)
    | (symm; apply decide_eq_true; omega)

theorem slcs_take (R : RL) (k : Nat) : (slcs R).take k = slcs (R.take k) := by unfold slcs; rw [List.map_take]
theorem slcs_drop (R : RL) (k : Nat) : (slcs R).drop k = slcs (R.drop k) := by unfold slcs; rw [List.map_drop]
theorem Has.loadsToR {h : H} {b q : Nat} {R : RL} {K : List AV → Prop} (m : Has h b (slcs R)) (r : Nat) (e2 : q = r) (hn : r ≤ R.length) (hk : K (slcs (R.take r))) : LoadsG h b 0 q K := by
  subst e2
  obtain ⟨w, s, e⟩ := m
  refine .mk w s _ e (by simp; omega) ?_
  rw [List.drop_zero, slcs_take]
  exact hk
theorem Has.loadsOffR {h : H} {b n sz q : Nat} {R : RL} {K : List AV → Prop} (m : Has h b (slcs R)) (hs : sz = 1) (o r : Nat) (e : n = o) (e2 : q = r) (hn : o + r = R.length) (hk : K (slcs (R.drop o))) : LoadsG h b (0 + mulSz n sz) q K := by
  rw [off1 hs]
  subst e e2
  obtain ⟨w, s, e⟩ := m
  refine .mk w s _ e (by simp; omega) ?_
  rw [slcs_drop, List.take_of_length_le (by simp; omega)]
  exact hk
theorem AppG.stX {h0 h : H} {L : List (Nat × Blk)} {b : Nat} {K : AV → H → Prop} {bytes N C m : Nat} {cs news : List AV} {L' : Nat → List (Nat × Blk)} (s : St h0 h L) (sp : ∀ b', Spot L (b, row cs) (b', row (cs ++ news)) (L' b')) (hN : N = cs.length) (hb : cs.length + m ≤ 1000000000) (hy : bytes ≤ 1000) (h1 : ∀ v ∈ news, v.one = true)
    (hk : ∀ b' h', St h0 h' (L' b') → K (.slice b' 0 (N + m) (N + m)) h') : AppG h (.slice b 0 N C) bytes news m K :=
  .st s sp hN (by
    have e : (cs.length + m) * bytes ≤ 1000000000 * 1000 := Nat.mul_le_mul hb hy
    omega) h1 hk
theorem slice_len2 {b n m : Nat} (e : n = m) : AV.slice b 0 n n = AV.slice b 0 m m := by rw [e]
theorem mem_two {R : RL} (h : ∀ r ∈ R, r.2.length = 2) {i : Nat} (hi : i < R.length) : (rl R i).length = 2 := h _ (rl_mem R i hi)
theorem Grid.row2 {h : H} {b : Nat} {R : RL} (m : Grid h b R) (r : Nat) {n sz : Nat} (hs : sz = 1) {K : AV → Prop} (e : n = r) (ho : r < R.length) (hl : (rl R r).length = 2) (hk : K (.slice (rb R r) 0 2 2)) : LoadG h b (0 + mulSz n sz) K := by
  subst e
  refine m.load hs ho ?_
  rw [hl]
  exact hk

/-- a row is put among rows of two -/
def PutRes (R : RL) (c : Nat) (x : List Int) (L : List (Nat × Blk)) (H0 : H) (N : Nat) (v : AV) (h' : H) : Prop :=
  ∃ b', v = .slice b' 0 (N + 1) (N + 1) ∧ St H0 h' ((b', row (slcs (putP R (c, x)))) :: (blks (putP R (c, x)) ++ L))
theorem putFin {R : RL} {c f b : Nat} {x : List Int} {X : List AV} {z : Blk} {L : List (Nat × Blk)} {H0 h' : H} (s : St H0 h' ((f, row X) :: (c, row (ints x)) :: (b, z) :: (blks R ++ L))) (e : X = slcs (putP R (c, x))) : St H0 h' ((f, row (slcs (putP R (c, x)))) :: (blks (putP R (c, x)) ++ L)) := by
  subst e
  refine (s.sub (List.Sublist.cons_cons _ (List.Sublist.cons_cons _ (List.sublist_cons_self _ _)))).perm (.cons _ ?_)
  have p : (blks (putP R (c, x))).Perm ((c, row (ints x)) :: blks R) := (putP_perm R (c, x)).map _
  exact (p.append_right L).symm
theorem putX {R : RL} {c k n : Nat} {x : List Int} (hx : x.length = 2) (fn : putP R (c, x) = R.take k ++ [(c, x)] ++ R.drop k) : [] ++ slcs (R.take k) ++ [.slice c 0 2 2] ++ slcs (R.drop k) = slcs (putP R (c, x)) := by
  rw [fn, slcs_append, slcs_append, List.nil_append]
  have : slcs [(c, x)] = [.slice c 0 2 2] := by unfold slcs; simp [hx]
  rw [this]
set_option maxHeartbeats 4000000 in
theorem put_ok (R : RL) (x : List Int) (L : List (Nat × Blk)) (b c N C : Nat) (H0 hp : H) (hs : St H0 hp ((c, row (ints x)) :: (b, row (slcs R)) :: (blks R ++ L))) (hN : N = R.length) (hC : N ≤ C) (hl : N ≤ 1000000) (hx : x.length = 2) (hr : ∀ r ∈ R, r.2.length = 2) :
    AC env 61 [.slice b 0 N C, .slice c 0 2 2] hp (PutRes R c x L H0 N) := by
  subst hN
  have hg : Grid hp b R := (St.rows (L := L) (hs.tail))
  have hxx : Has hp c (ints x) := hs.has (.head _)
  have hbb : Has hp b (slcs R) := hg.out
  refine AC.enter Try.func61 Try.call61 rfl Try.ntmps61 (of_decide_eq_true (by rfl)) ?_
  repeat' (first
    | refine AW.seq ?_
    | (refine AW.region ?_; conv => whnf)
    | refine AW.block ?_
    | (refine AW.skip ?_; conv => whnf)
    | (refine AW.ret ?_; conv => whnf)
    | (refine AW.exit ?_; conv => whnf)
    | refine AW.cond (by rfl) ?_
    | (refine AW.draw (id := 4) (.p 1 (.p 2 (.p 3 (.p 5 (.p 8 (.p 9 (.p 10 (.all [0, 6] fun i => bif Nat.beq i 0 then (.all [4, 6] fun i => bif Nat.beq i 4 then (.all [6] fun _ => (.all [7] fun _ => (.all [11] fun _ => (.p 12 .done)))) else (.all [4] fun _ => (.all [7] fun _ => (.all [11] fun _ => (.p 12 .done))))) else (.all [0] fun _ => (.all [4] fun _ => (.all [7] fun _ => (.all [11] fun _ => (.p 12 .done))))))))))))) (by kernel_rfl) (by kernel_rfl) ?_; conv => whnf)
    | (refine Br.tt ?_; conv => whnf)
    | (refine Br.ff ?_; conv => whnf)
    | refine Br.not ?_
    | (refine Br.t (beq_self_eq_true _) ?_; conv => whnf)
    | (refine Br.t (by assumption) ?_; conv => whnf)
    | (refine Br.f (by assumption) ?_; conv => whnf)
    | (refine Br.dt (by omega) ?_; conv => whnf)
    | (refine Br.df (by omega) ?_; conv => whnf)
    | (refine Br.it (by omega) ?_; conv => whnf)
    | (refine Br.if (by omega) ?_; conv => whnf)
    | (refine Br.nt (by omega) ?_; conv => whnf)
    | (refine Br.nf (by omega) ?_; conv => whnf)
    | (refine Br.dec (fun hc => ?_) (fun hc => ?_) <;> conv => whnf)
    | (refine Br.ieq (fun hc => ?_) (fun hc => ?_) <;> conv => whnf)
    | (refine Br.ine (fun hc => ?_) (fun hc => ?_) <;> conv => whnf)
    | (refine Br.mk (fun hc => ?_) (fun hc => ?_) <;> conv => whnf)
    | (refine Wr.i64 (by omega) ?_; conv => whnf)
    | (refine Ck.mk (by omega) ?_; conv => whnf)
    | (refine Wr.i64 (by simp only [List.length_drop, List.length_take, List.length_append, List.length_cons, List.length_nil]; omega) ?_; conv => whnf)
    | (refine Ck.mk (by simp only [List.length_drop, List.length_take, List.length_append, List.length_cons, List.length_nil]; omega) ?_; conv => whnf)
    | (refine NewG.st (by assumption) (fun bt h' hs' => ?_); conv => whnf)
    | (refine Has.load1 (by first | assumption | exact St.has (by assumption) (by repeat first | exact .head _ | apply List.Mem.tail) | exact St.arg (by assumption) (by assumption)) ?_; conv => whnf)
    | (refine LoadsG.has (by first | assumption | exact St.has (by assumption) (by repeat first | exact .head _ | apply List.Mem.tail) | exact St.arg (by assumption) (by assumption)) (by simp) ?_; conv => whnf)
    | (refine Ck.mk (by simp; omega) ?_; conv => whnf))
  refine AW.loop1 (fun (k : Nat) => [(0, .slice b 0 R.length C), (1, .slice c 0 2 2), (5, .int .i64 k)]) (fun k h' => k ≤ R.length ∧ (∀ j, k ≤ j → j < R.length → cmpL x (rl R j) < 0) ∧ h' = hp) (fun k => k) R.length
    (Less.cons rfl (Less.cons rfl (Less.cons rfl (Less.nil _)))) ⟨by omega, fun j a b => by omega, rfl⟩ ?_
  rintro k h1 ⟨hk, hj, rfl⟩
  have fin : (k = 0 ∨ ¬ cmpL x (rl R (k - 1)) < 0) → putP R (c, x) = R.take k ++ [(c, x)] ++ R.drop k := fun h => putP_at (c, x) R.length R k rfl hk hj h
  cases k with
  | zero =>
    have fn := fin (.inl rfl)
    repeat' (first
      | (refine And.intro ?_ ?_ <;> (conv => whnf))
      | (refine Has.loadsToR (R := R) (St.has (by assumption) (by repeat first | exact .head _ | apply List.Mem.tail)) 0 (by omega) (by omega) ?_; conv => whnf)
      | (refine Has.loadsOffR (R := R) (St.has (by assumption) (by repeat first | exact .head _ | apply List.Mem.tail)) rfl 0 (R.length - 0) (by omega) (by omega) (by omega) ?_; conv => whnf)
      | (refine AppG.stX (by assumption) (by intro b'; repeat first | exact .here | apply Spot.there) (by first | (simp; done) | (simp; omega)) (by first | (simp; done) | (simp; omega)) (by decide) (by first | exact slcs_one _ | (intro v hv; cases List.mem_singleton.1 hv; rfl)) (fun b' h' hs' => ?_); conv => whnf)
      | refine AW.seq ?_
      | (refine AW.region ?_; conv => whnf)
      | refine AW.block ?_
      | (refine AW.skip ?_; conv => whnf)
      | (refine AW.ret ?_; conv => whnf)
      | (refine AW.exit ?_; conv => whnf)
      | refine AW.cond (by rfl) ?_
      | (refine AW.draw (id := 4) (.p 1 (.p 2 (.p 3 (.p 5 (.p 8 (.p 9 (.p 10 (.all [0, 6] fun i => bif Nat.beq i 0 then (.all [4, 6] fun i => bif Nat.beq i 4 then (.all [6] fun _ => (.all [7] fun _ => (.all [11] fun _ => (.p 12 .done)))) else (.all [4] fun _ => (.all [7] fun _ => (.all [11] fun _ => (.p 12 .done))))) else (.all [0] fun _ => (.all [4] fun _ => (.all [7] fun _ => (.all [11] fun _ => (.p 12 .done))))))))))))) (by kernel_rfl) (by kernel_rfl) ?_; conv => whnf)
      | (refine Br.tt ?_; conv => whnf)
      | (refine Br.ff ?_; conv => whnf)
      | refine Br.not ?_
      | (refine Br.t (beq_self_eq_true _) ?_; conv => whnf)
      | (refine Br.t (by assumption) ?_; conv => whnf)
      | (refine Br.f (by assumption) ?_; conv => whnf)
      | (refine Br.dt (by omega) ?_; conv => whnf)
      | (refine Br.df (by omega) ?_; conv => whnf)
      | (refine Br.it (by omega) ?_; conv => whnf)
      | (refine Br.if (by omega) ?_; conv => whnf)
      | (refine Br.nt (by omega) ?_; conv => whnf)
      | (refine Br.nf (by omega) ?_; conv => whnf)
      | (refine Br.dec (fun hc => ?_) (fun hc => ?_) <;> conv => whnf)
      | (refine Br.ieq (fun hc => ?_) (fun hc => ?_) <;> conv => whnf)
      | (refine Br.ine (fun hc => ?_) (fun hc => ?_) <;> conv => whnf)
      | (refine Br.mk (fun hc => ?_) (fun hc => ?_) <;> conv => whnf)
      | (refine Wr.i64 (by omega) ?_; conv => whnf)
      | (refine Ck.mk (by omega) ?_; conv => whnf)
      | (refine Wr.i64 (by simp only [List.length_drop, List.length_take, List.length_append, List.length_cons, List.length_nil]; omega) ?_; conv => whnf)
      | (refine Ck.mk (by simp only [List.length_drop, List.length_take, List.length_append, List.length_cons, List.length_nil]; omega) ?_; conv => whnf)
      | (refine NewG.st (by assumption) (fun bt h' hs' => ?_); conv => whnf)
      | (refine Has.load1 (by first | assumption | exact St.has (by assumption) (by repeat first | exact .head _ | apply List.Mem.tail) | exact St.arg (by assumption) (by assumption)) ?_; conv => whnf)
      | (refine LoadsG.has (by first | assumption | exact St.has (by assumption) (by repeat first | exact .head _ | apply List.Mem.tail) | exact St.arg (by assumption) (by assumption)) (by simp) ?_; conv => whnf)
      | (refine Ck.mk (by simp; omega) ?_; conv => whnf))
    all_goals
      refine ⟨_, slice_len2 (by first | (simp; done) | (simp; omega)), ?_⟩
      first
        | exact putFin hs' (putX (n := 0) hx fn)
        | exact putFin hs'.tail (putX (n := 0) hx fn)
        | exact putFin (hs'.perm (.swap _ _ _)).tail (putX (n := 0) hx fn)
  | succ k =>
    have ek : (((k + 1 : Nat) : Int)) - 1 = k := by omega
    by_cases c1 : cmpL x (rl R k) < 0
    · have d1 : decide (cmpL x (rl R k) < 0) = true := decide_eq_true c1
      repeat' (first
        | (refine Grid.row2 hg k rfl (by omega) (by omega) (mem_two hr (by omega)) ?_; conv => whnf)
        | (refine (before_ok x (rl R k) _ _ _ _ _ hxx (hg.at (by omega)) hx (mem_two hr (by omega))).mono ?_; rw [d1]; rintro v h' ⟨rfl, e'⟩; subst h'; conv => whnf)
        | refine AW.seq ?_
        | (refine AW.region ?_; conv => whnf)
        | refine AW.block ?_
        | (refine AW.skip ?_; conv => whnf)
        | (refine AW.ret ?_; conv => whnf)
        | (refine AW.exit ?_; conv => whnf)
        | refine AW.cond (by rfl) ?_
        | (refine AW.draw (id := 4) (.p 1 (.p 2 (.p 3 (.p 5 (.p 8 (.p 9 (.p 10 (.all [0, 6] fun i => bif Nat.beq i 0 then (.all [4, 6] fun i => bif Nat.beq i 4 then (.all [6] fun _ => (.all [7] fun _ => (.all [11] fun _ => (.p 12 .done)))) else (.all [4] fun _ => (.all [7] fun _ => (.all [11] fun _ => (.p 12 .done))))) else (.all [0] fun _ => (.all [4] fun _ => (.all [7] fun _ => (.all [11] fun _ => (.p 12 .done))))))))))))) (by kernel_rfl) (by kernel_rfl) ?_; conv => whnf)
        | (refine Br.tt ?_; conv => whnf)
        | (refine Br.ff ?_; conv => whnf)
        | refine Br.not ?_
        | (refine Br.t (beq_self_eq_true _) ?_; conv => whnf)
        | (refine Br.t (by assumption) ?_; conv => whnf)
        | (refine Br.f (by assumption) ?_; conv => whnf)
        | (refine Br.dt (by omega) ?_; conv => whnf)
        | (refine Br.df (by omega) ?_; conv => whnf)
        | (refine Br.it (by omega) ?_; conv => whnf)
        | (refine Br.if (by omega) ?_; conv => whnf)
        | (refine Br.nt (by omega) ?_; conv => whnf)
        | (refine Br.nf (by omega) ?_; conv => whnf)
        | (refine Br.dec (fun hc => ?_) (fun hc => ?_) <;> conv => whnf)
        | (refine Br.ieq (fun hc => ?_) (fun hc => ?_) <;> conv => whnf)
        | (refine Br.ine (fun hc => ?_) (fun hc => ?_) <;> conv => whnf)
        | (refine Br.mk (fun hc => ?_) (fun hc => ?_) <;> conv => whnf)
        | (refine Wr.i64 (by omega) ?_; conv => whnf)
        | (refine Ck.mk (by omega) ?_; conv => whnf)
        | (refine Wr.i64 (by simp only [List.length_drop, List.length_take, List.length_append, List.length_cons, List.length_nil]; omega) ?_; conv => whnf)
        | (refine Ck.mk (by simp only [List.length_drop, List.length_take, List.length_append, List.length_cons, List.length_nil]; omega) ?_; conv => whnf)
        | (refine NewG.st (by assumption) (fun bt h' hs' => ?_); conv => whnf)
        | (refine Has.load1 (by first | assumption | exact St.has (by assumption) (by repeat first | exact .head _ | apply List.Mem.tail) | exact St.arg (by assumption) (by assumption)) ?_; conv => whnf)
        | (refine LoadsG.has (by first | assumption | exact St.has (by assumption) (by repeat first | exact .head _ | apply List.Mem.tail) | exact St.arg (by assumption) (by assumption)) (by simp) ?_; conv => whnf)
        | (refine Ck.mk (by simp; omega) ?_; conv => whnf))
      refine ⟨k, by rw [← ek]; exact (Less.cons rfl (Less.cons rfl (Less.cons rfl (Less.nil _)))), ⟨by omega, fun j a b => ?_, rfl⟩, by omega⟩
      by_cases e : j = k
      · rw [e]; exact c1
      · exact hj j (by omega) b
    · have d1 : decide (cmpL x (rl R k) < 0) = false := decide_eq_false c1
      have fn := fin (.inr (by simpa using c1))
      repeat' (first
        | (refine Grid.row2 hg k rfl (by omega) (by omega) (mem_two hr (by omega)) ?_; conv => whnf)
        | (refine (before_ok x (rl R k) _ _ _ _ _ hxx (hg.at (by omega)) hx (mem_two hr (by omega))).mono ?_; rw [d1]; rintro v h' ⟨rfl, e'⟩; subst h'; conv => whnf)
        | (refine And.intro ?_ ?_ <;> (conv => whnf))
        | (refine Has.loadsToR (R := R) (St.has (by assumption) (by repeat first | exact .head _ | apply List.Mem.tail)) (k + 1) (by omega) (by omega) ?_; conv => whnf)
        | (refine Has.loadsOffR (R := R) (St.has (by assumption) (by repeat first | exact .head _ | apply List.Mem.tail)) rfl (k + 1) (R.length - (k + 1)) (by omega) (by omega) (by omega) ?_; conv => whnf)
        | (refine AppG.stX (by assumption) (by intro b'; repeat first | exact .here | apply Spot.there) (by first | (simp; done) | (simp; omega)) (by first | (simp; done) | (simp; omega)) (by decide) (by first | exact slcs_one _ | (intro v hv; cases List.mem_singleton.1 hv; rfl)) (fun b' h' hs' => ?_); conv => whnf)
        | refine AW.seq ?_
        | (refine AW.region ?_; conv => whnf)
        | refine AW.block ?_
        | (refine AW.skip ?_; conv => whnf)
        | (refine AW.ret ?_; conv => whnf)
        | (refine AW.exit ?_; conv => whnf)
        | refine AW.cond (by rfl) ?_
        | (refine AW.draw (id := 4) (.p 1 (.p 2 (.p 3 (.p 5 (.p 8 (.p 9 (.p 10 (.all [0, 6] fun i => bif Nat.beq i 0 then (.all [4, 6] fun i => bif Nat.beq i 4 then (.all [6] fun _ => (.all [7] fun _ => (.all [11] fun _ => (.p 12 .done)))) else (.all [4] fun _ => (.all [7] fun _ => (.all [11] fun _ => (.p 12 .done))))) else (.all [0] fun _ => (.all [4] fun _ => (.all [7] fun _ => (.all [11] fun _ => (.p 12 .done))))))))))))) (by kernel_rfl) (by kernel_rfl) ?_; conv => whnf)
        | (refine Br.tt ?_; conv => whnf)
        | (refine Br.ff ?_; conv => whnf)
        | refine Br.not ?_
        | (refine Br.t (beq_self_eq_true _) ?_; conv => whnf)
        | (refine Br.t (by assumption) ?_; conv => whnf)
        | (refine Br.f (by assumption) ?_; conv => whnf)
        | (refine Br.dt (by omega) ?_; conv => whnf)
        | (refine Br.df (by omega) ?_; conv => whnf)
        | (refine Br.it (by omega) ?_; conv => whnf)
        | (refine Br.if (by omega) ?_; conv => whnf)
        | (refine Br.nt (by omega) ?_; conv => whnf)
        | (refine Br.nf (by omega) ?_; conv => whnf)
        | (refine Br.dec (fun hc => ?_) (fun hc => ?_) <;> conv => whnf)
        | (refine Br.ieq (fun hc => ?_) (fun hc => ?_) <;> conv => whnf)
        | (refine Br.ine (fun hc => ?_) (fun hc => ?_) <;> conv => whnf)
        | (refine Br.mk (fun hc => ?_) (fun hc => ?_) <;> conv => whnf)
        | (refine Wr.i64 (by omega) ?_; conv => whnf)
        | (refine Ck.mk (by omega) ?_; conv => whnf)
        | (refine Wr.i64 (by simp only [List.length_drop, List.length_take, List.length_append, List.length_cons, List.length_nil]; omega) ?_; conv => whnf)
        | (refine Ck.mk (by simp only [List.length_drop, List.length_take, List.length_append, List.length_cons, List.length_nil]; omega) ?_; conv => whnf)
        | (refine NewG.st (by assumption) (fun bt h' hs' => ?_); conv => whnf)
        | (refine Has.load1 (by first | assumption | exact St.has (by assumption) (by repeat first | exact .head _ | apply List.Mem.tail) | exact St.arg (by assumption) (by assumption)) ?_; conv => whnf)
        | (refine LoadsG.has (by first | assumption | exact St.has (by assumption) (by repeat first | exact .head _ | apply List.Mem.tail) | exact St.arg (by assumption) (by assumption)) (by simp) ?_; conv => whnf)
        | (refine Ck.mk (by simp; omega) ?_; conv => whnf))
      all_goals
      refine ⟨_, slice_len2 (by first | (simp; done) | (simp; omega)), ?_⟩
      first
        | exact putFin hs' (putX (n := 0) hx fn)
        | exact putFin hs'.tail (putX (n := 0) hx fn)
        | exact putFin (hs'.perm (.swap _ _ _)).tail (putX (n := 0) hx fn)


end Go.Proofs.Ytcepogfmajlcjaa

/-
  Contracts of fans are proved.
  They hold for all sizes.
-/
set_option linter.unusedVariables false
set_option linter.unusedSimpArgs false
namespace Go.Proofs.Ytcepogfmajlcjaa
open Go.Proofs.Ytcepogfmajlcjaa.Ab Go.Proofs.Ytcepogfmajlcjaa.Pl

theorem nilRows {h0 h : H} {L : List (Nat × Blk)} {b : Nat} (s : St h0 h ((b, .cells true 1 []) :: L)) : St h0 h ((b, row (slcs [])) :: (blks [] ++ L)) := s
/-! fans -/
def fanRow (v : Int) (c : Nat) : List Int := [min v c, max v c]
def fanL (n v : Int) : Nat → List (List Int)
  | 0 => []
  | c + 1 => if diagOk n (fanRow v c) then fanL n v c ++ [fanRow v c] else fanL n v c
def fanOk (n v : Int) : Prop := (2 ≤ n ∧ n ≤ 10) ∧ 0 ≤ v ∧ v ≤ n - 1
instance (n v : Int) : Decidable (fanOk n v) := inferInstanceAs (Decidable (_ ∧ _))
def fan (n v : Int) : List (List Int) × Bool := if fanOk n v then (sortL (fanL n v n.toNat), true) else ([], false)
theorem fanL_len (n v : Int) : ∀ c, (fanL n v c).length ≤ c
  | 0 => Nat.le_refl _
  | c + 1 => by
    have := fanL_len n v c
    rw [fanL]
    split
    · simp; omega
    · omega
theorem fanL_two (n v : Int) : ∀ c, ∀ x ∈ fanL n v c, x.length = 2
  | 0, x, hx => by cases hx
  | c + 1, x, hx => by
    rw [fanL] at hx
    split at hx
    · rcases List.mem_append.1 hx with hx | hx
      · exact fanL_two n v c x hx
      · cases List.mem_singleton.1 hx; rfl
    · exact fanL_two n v c x hx
theorem sortL_two {l : List (List Int)} (h : ∀ x ∈ l, x.length = 2) : ∀ x ∈ sortL l, x.length = 2 := fun x hx => h x ((sortL_perm l).mem_iff.1 hx)
theorem rws_two {R : RL} {l : List (List Int)} (e : rws R = l) (h : ∀ x ∈ l, x.length = 2) : ∀ r ∈ R, r.2.length = 2 := fun r hr => h _ (e ▸ List.mem_map.2 ⟨r, hr, rfl⟩)

/-- rows of one's own and whether they are an answer -/
def RetR (r : List (List Int) × Bool) (h0 : H) (v : AV) (h' : H) : Prop :=
  ∃ b R, v = .tup [.slice b 0 r.1.length r.1.length, .bool r.2] ∧ rws R = r.1 ∧ R.length = r.1.length ∧ St h0 h' ((b, row (slcs R)) :: (blks R ++ []))
theorem RetR.mk' {r : List (List Int) × Bool} {h0 h' : H} {b N : Nat} {q : Bool} {R : RL} (e : r = (rws R, q)) (hN : N = R.length) (s : St h0 h' ((b, row (slcs R)) :: (blks R ++ []))) : RetR r h0 (.tup [.slice b 0 N N, .bool q]) h' := by
  subst e hN
  exact ⟨b, R, by rw [rws_length], rfl, (rws_length R).symm, s⟩

theorem isDiagonal_ok (n : Int) (x : List Int) (b N C : Nat) (h0 : H) (hb : Has h0 b (ints x)) (hN : N = x.length) (hn : 2 ≤ n ∧ n ≤ 1000) (hl : N ≤ 1000000000) : AC env 62 [.int .i64 n, .slice b 0 N C] h0 fun v h' => v = .bool (decide (diagOk n x)) ∧ h' = h0 := by
  have d : diagOk n x ↔ x.length = 2 ∧ 0 ≤ x.getD 0 0 ∧ x.getD 0 0 + 2 ≤ x.getD 1 0 ∧ x.getD 1 0 ≤ n - 1 ∧ ¬ (x.getD 0 0 = 0 ∧ x.getD 1 0 = n - 1) := Iff.rfl
  have x0 : x.getD (Int.toNat 0) 0 = x.getD 0 0 := rfl
  have x1 : x.getD (Int.toNat 1) 0 = x.getD 1 0 := rfl
  refine AC.enter Try.func62 Try.call62 rfl Try.ntmps62 (of_decide_eq_true (by rfl)) ?_
  repeat' (first
    | refine AW.seq ?_
    | (refine AW.region ?_; conv => whnf)
    | refine AW.block ?_
    | (refine AW.skip ?_; conv => whnf)
    | (refine AW.ret ?_; conv => whnf)
    | (refine AW.exit ?_; conv => whnf)
    | refine AW.cond (by rfl) ?_
    | (refine AW.draw (id := 1) (.p 0 (.p 1 (.p 2 (.p 3 (.p 4 (.p 5 (.p 7 (.p 8 (.r 6 [9, 10, 11, 12, 13, 14, 15, 16, 17, 18, 19, 20, 21, 22, 23, 24, 25, 26, 27, 28, 29, 30, 31, 32, 33, 34, 35, 36, 37, 38, 39, 40, 41, 42, 43] (.all [9] fun _ => (.p 10 (.p 11 (.p 12 (.p 13 (.p 15 (.p 16 (.r 14 [17, 18, 19, 20, 21, 22, 23, 24, 25, 26, 27, 28, 29, 30, 31, 32, 33, 34, 35, 36, 37, 38, 39, 40, 41, 42, 43] (.all [17] fun _ => (.p 18 (.p 19 (.p 20 (.p 21 (.p 23 (.p 24 (.r 22 [26, 27, 28, 29, 30, 31, 32, 33, 34, 35, 36, 37, 38, 39, 40, 41, 42, 43] (.r 25 [26, 27, 28, 29, 30, 31, 32, 33, 34, 35, 36, 37, 38, 39, 40, 41, 42, 43] (.p 26 (.p 27 (.p 28 (.p 29 (.p 30 (.p 31 (.r 32 [33, 34, 35, 36, 37, 38, 39, 40, 41, 42, 43] (.p 33 (.p 34 (.p 35 (.p 36 (.p 38 (.p 39 (.r 37 [40, 41, 42, 43] (.p 40 (.p 41 (.p 42 (.p 43 .done)))))))))))))))))))))))))))))))))))))))))))) (by kernel_rfl) (by kernel_rfl) ?_; conv => whnf)
    | (refine (within_ok _ _ _ _).mono ?_; rintro v h' ⟨rfl, e'⟩; subst h'; conv => whnf)
    | (refine Br.tt ?_; conv => whnf)
    | (refine Br.ff ?_; conv => whnf)
    | refine Br.not ?_
    | (refine Br.t (beq_self_eq_true _) ?_; conv => whnf)
    | (refine Br.t (by assumption) ?_; conv => whnf)
    | (refine Br.f (by assumption) ?_; conv => whnf)
    | (refine Br.dt (by omega) ?_; conv => whnf)
    | (refine Br.df (by omega) ?_; conv => whnf)
    | (refine Br.it (by omega) ?_; conv => whnf)
    | (refine Br.if (by omega) ?_; conv => whnf)
    | (refine Br.nt (by omega) ?_; conv => whnf)
    | (refine Br.nf (by omega) ?_; conv => whnf)
    | (refine Br.dec (fun hc => ?_) (fun hc => ?_) <;> conv => whnf)
    | (refine Br.ieq (fun hc => ?_) (fun hc => ?_) <;> conv => whnf)
    | (refine Br.ine (fun hc => ?_) (fun hc => ?_) <;> conv => whnf)
    | (refine Br.mk (fun hc => ?_) (fun hc => ?_) <;> conv => whnf)
    | (refine Wr.i64 (by omega) ?_; conv => whnf)
    | (refine Ck.mk (by omega) ?_; conv => whnf)
    | (refine Wr.i64 (by simp only [List.length_drop, List.length_take, List.length_append, List.length_cons, List.length_nil]; omega) ?_; conv => whnf)
    | (refine Ck.mk (by simp only [List.length_drop, List.length_take, List.length_append, List.length_cons, List.length_nil]; omega) ?_; conv => whnf)
    | (refine Has.load1 (by first | assumption | exact St.has (by assumption) (by repeat first | exact .head _ | apply List.Mem.tail) | exact St.arg (by assumption) (by assumption)) ?_; conv => whnf)
    | (refine Has.loadZ (by first | assumption | exact St.has (by assumption) (by repeat first | exact .head _ | apply List.Mem.tail) | exact St.arg (by assumption) (by assumption)) rfl (by first | (simp; done) | omega | (simp only [List.length_set, List.length_append, List.length_cons, List.length_nil, List.length_replicate, tab_length]; omega) | (simp; omega)) ?_; conv => whnf)
    | (refine Ck.mk (by simp; omega) ?_; conv => whnf))
  all_goals refine ⟨?_, rfl⟩
  all_goals rw [decide_eq_decide.2 d]
  all_goals congr 1
  all_goals first
    | (symm; apply decide_eq_false; omega)
    | (symm; apply decide_eq_true; omega)
    | (rw [Bool.eq_iff_iff, bne_iff_ne, decide_eq_true_iff]; omega)
    | (rw [decide_eq_decide]; omega)

set_option maxHeartbeats 1000000 in
theorem iFanOf_ok (n v : Int) (h0 : H) (hn : -9223372036854775808 ≤ n ∧ n ≤ 9223372036854775807) (hv : -9223372036854775808 ≤ v ∧ v ≤ 9223372036854775807) : AC env 28 [.int .i64 n, .int .i64 v] h0 (RetR (fan n v) h0) := by
  have hs := St.refl h0
  by_cases ok : fanOk n v
  · have e : fan n v = (sortL (fanL n v n.toNat), true) := if_pos ok
    obtain ⟨h1, h2⟩ := ok
    refine AC.enter Try.func28 Try.call28 rfl Try.ntmps28 (of_decide_eq_true (by rfl)) ?_
    repeat' (first
      | refine AW.seq ?_
      | (refine AW.region ?_; conv => whnf)
      | refine AW.block ?_
      | (refine AW.skip ?_; conv => whnf)
      | (refine AW.ret ?_; conv => whnf)
      | (refine AW.exit ?_; conv => whnf)
      | refine AW.cond (by rfl) ?_
      | (refine (within_ok _ _ _ _).mono ?_; rintro v h' ⟨rfl, e'⟩; subst h'; conv => whnf)
      | (refine (sortFunc_ok _ _ _ _ _ _ _ (by assumption) (by first | rfl | omega) (by omega) (by assumption)).mono ?_; rintro v h' ⟨rfl, hs'⟩; conv => whnf)
      | (refine Br.tt ?_; conv => whnf)
      | (refine Br.ff ?_; conv => whnf)
      | refine Br.not ?_
      | (refine Br.t (beq_self_eq_true _) ?_; conv => whnf)
      | (refine Br.t (by assumption) ?_; conv => whnf)
      | (refine Br.f (by assumption) ?_; conv => whnf)
      | (refine Br.dt (by omega) ?_; conv => whnf)
      | (refine Br.df (by omega) ?_; conv => whnf)
      | (refine Br.it (by omega) ?_; conv => whnf)
      | (refine Br.if (by omega) ?_; conv => whnf)
      | (refine Br.nt (by omega) ?_; conv => whnf)
      | (refine Br.nf (by omega) ?_; conv => whnf)
      | (refine Br.dec (fun hc => ?_) (fun hc => ?_) <;> conv => whnf)
      | (refine Br.ieq (fun hc => ?_) (fun hc => ?_) <;> conv => whnf)
      | (refine Br.ine (fun hc => ?_) (fun hc => ?_) <;> conv => whnf)
      | (refine Br.mk (fun hc => ?_) (fun hc => ?_) <;> conv => whnf)
      | (refine Wr.i64 (by omega) ?_; conv => whnf)
      | (refine Ck.mk (by omega) ?_; conv => whnf)
      | (refine Wr.i64 (by simp only [List.length_drop, List.length_take, List.length_append, List.length_cons, List.length_nil]; omega) ?_; conv => whnf)
      | (refine Ck.mk (by simp only [List.length_drop, List.length_take, List.length_append, List.length_cons, List.length_nil]; omega) ?_; conv => whnf)
      | (refine NewG.st (by assumption) (fun bt h' hs' => ?_); conv => whnf)
      | (refine LoadsG.has (by first | assumption | exact St.has (by assumption) (by repeat first | exact .head _ | apply List.Mem.tail) | exact St.arg (by assumption) (by assumption)) (by simp) ?_; conv => whnf)
      | (refine Ck.mk (by simp; omega) ?_; conv => whnf))
    refine AW.loop3 (fun (c b N : Nat) => [(0, .int .i64 n), (1, .int .i64 v), (6, .slice b 0 N N), (21, .int .i64 n), (22, .int .i64 c)]) (fun c b N h' => c ≤ n.toNat ∧ ∃ R, R.length = N ∧ rws R = fanL n v c ∧ St h0 h' ((b, row (slcs R)) :: (blks R ++ []))) (fun c _ _ => n.toNat - c) 0 bt 0
      (Less.cons rfl (Less.cons rfl (Less.cons rfl (Less.cons rfl (Less.cons rfl (Less.nil _)))))) ⟨by omega, [], rfl, rfl, nilRows hs'⟩ ?_
    rintro c b N h3 ⟨hc, R, rfl, hR, hs3⟩
    have lR := fanL_len n v c
    have e2 : R.length = (fanL n v c).length := by rw [← hR, rws_length]
    clear hs hs'
    by_cases hlt : c < n.toNat
    · by_cases d : diagOk n (fanRow v c)
      · have dd : decide (diagOk n (fanRow v c)) = true := decide_eq_true d
        repeat' (first
          | (refine (isDiagonal_ok n (fanRow v c) _ _ _ _ (St.has hs' (.head _)) rfl (by omega) (by simp [fanRow])).mono ?_; rw [dd]; rintro v h' ⟨rfl, e'⟩; subst h'; conv => whnf)
          | (refine AppG.stR (l := fanRow v c) (St.tail hs') rfl rfl (by omega) (by decide) (fun b' h' hs4 => ?_); conv => whnf)
          | refine AW.seq ?_
          | (refine AW.region ?_; conv => whnf)
          | refine AW.block ?_
          | (refine AW.skip ?_; conv => whnf)
          | (refine AW.ret ?_; conv => whnf)
          | (refine AW.exit ?_; conv => whnf)
          | refine AW.cond (by rfl) ?_
          | (refine (within_ok _ _ _ _).mono ?_; rintro v h' ⟨rfl, e'⟩; subst h'; conv => whnf)
          | (refine (sortFunc_ok _ _ _ _ _ _ _ (by assumption) (by first | rfl | omega) (by omega) (by assumption)).mono ?_; rintro v h' ⟨rfl, hs'⟩; conv => whnf)
          | (refine Br.tt ?_; conv => whnf)
          | (refine Br.ff ?_; conv => whnf)
          | refine Br.not ?_
          | (refine Br.t (beq_self_eq_true _) ?_; conv => whnf)
          | (refine Br.t (by assumption) ?_; conv => whnf)
          | (refine Br.f (by assumption) ?_; conv => whnf)
          | (refine Br.dt (by omega) ?_; conv => whnf)
          | (refine Br.df (by omega) ?_; conv => whnf)
          | (refine Br.it (by omega) ?_; conv => whnf)
          | (refine Br.if (by omega) ?_; conv => whnf)
          | (refine Br.nt (by omega) ?_; conv => whnf)
          | (refine Br.nf (by omega) ?_; conv => whnf)
          | (refine Br.dec (fun hc => ?_) (fun hc => ?_) <;> conv => whnf)
          | (refine Br.ieq (fun hc => ?_) (fun hc => ?_) <;> conv => whnf)
          | (refine Br.ine (fun hc => ?_) (fun hc => ?_) <;> conv => whnf)
          | (refine Br.mk (fun hc => ?_) (fun hc => ?_) <;> conv => whnf)
          | (refine Wr.i64 (by omega) ?_; conv => whnf)
          | (refine Ck.mk (by omega) ?_; conv => whnf)
          | (refine Wr.i64 (by simp only [List.length_drop, List.length_take, List.length_append, List.length_cons, List.length_nil]; omega) ?_; conv => whnf)
          | (refine Ck.mk (by simp only [List.length_drop, List.length_take, List.length_append, List.length_cons, List.length_nil]; omega) ?_; conv => whnf)
          | (refine NewG.st (by assumption) (fun bt h' hs' => ?_); conv => whnf)
          | (refine LoadsG.has (by first | assumption | exact St.has (by assumption) (by repeat first | exact .head _ | apply List.Mem.tail) | exact St.arg (by assumption) (by assumption)) (by simp) ?_; conv => whnf)
          | (refine Ck.mk (by simp; omega) ?_; conv => whnf))
        exact ⟨c + 1, b', _, (Less.cons rfl (Less.cons rfl (Less.cons rfl (Less.cons rfl (Less.cons rfl (Less.nil _)))))), ⟨by omega, _, by rw [List.length_append]; rfl, by rw [fanL, if_pos d, rws_append, hR]; rfl, hs4⟩, by omega⟩
      · have dd : decide (diagOk n (fanRow v c)) = false := decide_eq_false d
        repeat' (first
          | (refine (isDiagonal_ok n (fanRow v c) _ _ _ _ (St.has hs' (.head _)) rfl (by omega) (by simp [fanRow])).mono ?_; rw [dd]; rintro v h' ⟨rfl, e'⟩; subst h'; conv => whnf)
          | refine AW.seq ?_
          | (refine AW.region ?_; conv => whnf)
          | refine AW.block ?_
          | (refine AW.skip ?_; conv => whnf)
          | (refine AW.ret ?_; conv => whnf)
          | (refine AW.exit ?_; conv => whnf)
          | refine AW.cond (by rfl) ?_
          | (refine (within_ok _ _ _ _).mono ?_; rintro v h' ⟨rfl, e'⟩; subst h'; conv => whnf)
          | (refine (sortFunc_ok _ _ _ _ _ _ _ (by assumption) (by first | rfl | omega) (by omega) (by assumption)).mono ?_; rintro v h' ⟨rfl, hs'⟩; conv => whnf)
          | (refine Br.tt ?_; conv => whnf)
          | (refine Br.ff ?_; conv => whnf)
          | refine Br.not ?_
          | (refine Br.t (beq_self_eq_true _) ?_; conv => whnf)
          | (refine Br.t (by assumption) ?_; conv => whnf)
          | (refine Br.f (by assumption) ?_; conv => whnf)
          | (refine Br.dt (by omega) ?_; conv => whnf)
          | (refine Br.df (by omega) ?_; conv => whnf)
          | (refine Br.it (by omega) ?_; conv => whnf)
          | (refine Br.if (by omega) ?_; conv => whnf)
          | (refine Br.nt (by omega) ?_; conv => whnf)
          | (refine Br.nf (by omega) ?_; conv => whnf)
          | (refine Br.dec (fun hc => ?_) (fun hc => ?_) <;> conv => whnf)
          | (refine Br.ieq (fun hc => ?_) (fun hc => ?_) <;> conv => whnf)
          | (refine Br.ine (fun hc => ?_) (fun hc => ?_) <;> conv => whnf)
          | (refine Br.mk (fun hc => ?_) (fun hc => ?_) <;> conv => whnf)
          | (refine Wr.i64 (by omega) ?_; conv => whnf)
          | (refine Ck.mk (by omega) ?_; conv => whnf)
          | (refine Wr.i64 (by simp only [List.length_drop, List.length_take, List.length_append, List.length_cons, List.length_nil]; omega) ?_; conv => whnf)
          | (refine Ck.mk (by simp only [List.length_drop, List.length_take, List.length_append, List.length_cons, List.length_nil]; omega) ?_; conv => whnf)
          | (refine NewG.st (by assumption) (fun bt h' hs' => ?_); conv => whnf)
          | (refine LoadsG.has (by first | assumption | exact St.has (by assumption) (by repeat first | exact .head _ | apply List.Mem.tail) | exact St.arg (by assumption) (by assumption)) (by simp) ?_; conv => whnf)
          | (refine Ck.mk (by simp; omega) ?_; conv => whnf))
        exact ⟨c + 1, b, _, (Less.cons rfl (Less.cons rfl (Less.cons rfl (Less.cons rfl (Less.cons rfl (Less.nil _)))))), ⟨by omega, R, rfl, by rw [fanL, if_neg d, hR], hs'.tail⟩, by omega⟩
    · have ec : c = n.toNat := by omega
      subst ec
      repeat' (first
        | (refine (sortFunc_ok R [] b _ _ h0 _ hs3 rfl (by omega) (fun r hr => by have := rws_two hR (fanL_two n v _) r hr; omega)).mono ?_; rintro v h' ⟨rfl, hs4⟩; conv => whnf)
        | refine AW.seq ?_
        | (refine AW.region ?_; conv => whnf)
        | refine AW.block ?_
        | (refine AW.skip ?_; conv => whnf)
        | (refine AW.ret ?_; conv => whnf)
        | (refine AW.exit ?_; conv => whnf)
        | refine AW.cond (by rfl) ?_
        | (refine (within_ok _ _ _ _).mono ?_; rintro v h' ⟨rfl, e'⟩; subst h'; conv => whnf)
        | (refine (sortFunc_ok _ _ _ _ _ _ _ (by assumption) (by first | rfl | omega) (by omega) (by assumption)).mono ?_; rintro v h' ⟨rfl, hs'⟩; conv => whnf)
        | (refine Br.tt ?_; conv => whnf)
        | (refine Br.ff ?_; conv => whnf)
        | refine Br.not ?_
        | (refine Br.t (beq_self_eq_true _) ?_; conv => whnf)
        | (refine Br.t (by assumption) ?_; conv => whnf)
        | (refine Br.f (by assumption) ?_; conv => whnf)
        | (refine Br.dt (by omega) ?_; conv => whnf)
        | (refine Br.df (by omega) ?_; conv => whnf)
        | (refine Br.it (by omega) ?_; conv => whnf)
        | (refine Br.if (by omega) ?_; conv => whnf)
        | (refine Br.nt (by omega) ?_; conv => whnf)
        | (refine Br.nf (by omega) ?_; conv => whnf)
        | (refine Br.dec (fun hc => ?_) (fun hc => ?_) <;> conv => whnf)
        | (refine Br.ieq (fun hc => ?_) (fun hc => ?_) <;> conv => whnf)
        | (refine Br.ine (fun hc => ?_) (fun hc => ?_) <;> conv => whnf)
        | (refine Br.mk (fun hc => ?_) (fun hc => ?_) <;> conv => whnf)
        | (refine Wr.i64 (by omega) ?_; conv => whnf)
        | (refine Ck.mk (by omega) ?_; conv => whnf)
        | (refine Wr.i64 (by simp only [List.length_drop, List.length_take, List.length_append, List.length_cons, List.length_nil]; omega) ?_; conv => whnf)
        | (refine Ck.mk (by simp only [List.length_drop, List.length_take, List.length_append, List.length_cons, List.length_nil]; omega) ?_; conv => whnf)
        | (refine NewG.st (by assumption) (fun bt h' hs' => ?_); conv => whnf)
        | (refine LoadsG.has (by first | assumption | exact St.has (by assumption) (by repeat first | exact .head _ | apply List.Mem.tail) | exact St.arg (by assumption) (by assumption)) (by simp) ?_; conv => whnf)
        | (refine Ck.mk (by simp; omega) ?_; conv => whnf))
      refine RetR.mk' ?_ (by rw [insO_len]) hs4
      rw [e, insO_rws, hR]
  · have e : fan n v = ([], false) := if_neg ok
    unfold fanOk at ok
    refine AC.enter Try.func28 Try.call28 rfl Try.ntmps28 (of_decide_eq_true (by rfl)) ?_
    repeat' (first
      | refine AW.seq ?_
      | (refine AW.region ?_; conv => whnf)
      | refine AW.block ?_
      | (refine AW.skip ?_; conv => whnf)
      | (refine AW.ret ?_; conv => whnf)
      | (refine AW.exit ?_; conv => whnf)
      | refine AW.cond (by rfl) ?_
      | (refine (within_ok _ _ _ _).mono ?_; rintro v h' ⟨rfl, e'⟩; subst h'; conv => whnf)
      | (refine (sortFunc_ok _ _ _ _ _ _ _ (by assumption) (by first | rfl | omega) (by omega) (by assumption)).mono ?_; rintro v h' ⟨rfl, hs'⟩; conv => whnf)
      | (refine Br.tt ?_; conv => whnf)
      | (refine Br.ff ?_; conv => whnf)
      | refine Br.not ?_
      | (refine Br.t (beq_self_eq_true _) ?_; conv => whnf)
      | (refine Br.t (by assumption) ?_; conv => whnf)
      | (refine Br.f (by assumption) ?_; conv => whnf)
      | (refine Br.dt (by omega) ?_; conv => whnf)
      | (refine Br.df (by omega) ?_; conv => whnf)
      | (refine Br.it (by omega) ?_; conv => whnf)
      | (refine Br.if (by omega) ?_; conv => whnf)
      | (refine Br.nt (by omega) ?_; conv => whnf)
      | (refine Br.nf (by omega) ?_; conv => whnf)
      | (refine Br.dec (fun hc => ?_) (fun hc => ?_) <;> conv => whnf)
      | (refine Br.ieq (fun hc => ?_) (fun hc => ?_) <;> conv => whnf)
      | (refine Br.ine (fun hc => ?_) (fun hc => ?_) <;> conv => whnf)
      | (refine Br.mk (fun hc => ?_) (fun hc => ?_) <;> conv => whnf)
      | (refine Wr.i64 (by omega) ?_; conv => whnf)
      | (refine Ck.mk (by omega) ?_; conv => whnf)
      | (refine Wr.i64 (by simp only [List.length_drop, List.length_take, List.length_append, List.length_cons, List.length_nil]; omega) ?_; conv => whnf)
      | (refine Ck.mk (by simp only [List.length_drop, List.length_take, List.length_append, List.length_cons, List.length_nil]; omega) ?_; conv => whnf)
      | (refine NewG.st (by assumption) (fun bt h' hs' => ?_); conv => whnf)
      | (refine LoadsG.has (by first | assumption | exact St.has (by assumption) (by repeat first | exact .head _ | apply List.Mem.tail) | exact St.arg (by assumption) (by assumption)) (by simp) ?_; conv => whnf)
      | (refine Ck.mk (by simp; omega) ?_; conv => whnf))
    all_goals exact RetR.mk' (R := []) e rfl (nilRows hs')


theorem fan_diag {n v : Int} {c : Nat} (h1 : 2 ≤ n ∧ n ≤ 10) (h2 : 0 ≤ v ∧ v ≤ n - 1) (hc : c < n.toNat) : diagOk n (fanRow v c) ↔ 2 ≤ max v c - min v c ∧ ¬ (min v c = 0 ∧ max v c = n - 1) := by
  unfold diagOk fanRow
  simp only [List.getD_cons_zero, List.getD_cons_succ, List.length_cons, List.length_nil]
  constructor
  · rintro ⟨_, a, b, c, d⟩
    exact ⟨by omega, d⟩
  · rintro ⟨a, b⟩
    exact ⟨trivial, by omega, by omega, by omega, b⟩
set_option maxHeartbeats 1000000 in
theorem sFanOf_ok (n v : Int) (h0 : H) (hn : -9223372036854775808 ≤ n ∧ n ≤ 9223372036854775807) (hv : -9223372036854775808 ≤ v ∧ v ≤ 9223372036854775807) : AC env 27 [.int .i64 n, .int .i64 v] h0 (RetR (fan n v) h0) := by
  have hs := St.refl h0
  by_cases ok : fanOk n v
  · have e : fan n v = (sortL (fanL n v n.toNat), true) := if_pos ok
    obtain ⟨h1, h2⟩ := ok
    refine AC.enter Try.func27 Try.call27 rfl Try.ntmps27 (of_decide_eq_true (by rfl)) ?_
    repeat' (first
      | refine AW.seq ?_
      | (refine AW.region ?_; conv => whnf)
      | refine AW.block ?_
      | (refine AW.skip ?_; conv => whnf)
      | (refine AW.ret ?_; conv => whnf)
      | (refine AW.exit ?_; conv => whnf)
      | refine AW.cond (by rfl) ?_
      | (refine (l1In_ok _ _ _ _).mono ?_; rintro v h' ⟨rfl, e'⟩; subst h'; conv => whnf)
      | (refine Br.tt ?_; conv => whnf)
      | (refine Br.ff ?_; conv => whnf)
      | refine Br.not ?_
      | (refine Br.t (beq_self_eq_true _) ?_; conv => whnf)
      | (refine Br.t (by assumption) ?_; conv => whnf)
      | (refine Br.f (by assumption) ?_; conv => whnf)
      | (refine Br.dt (by omega) ?_; conv => whnf)
      | (refine Br.df (by omega) ?_; conv => whnf)
      | (refine Br.it (by omega) ?_; conv => whnf)
      | (refine Br.if (by omega) ?_; conv => whnf)
      | (refine Br.nt (by omega) ?_; conv => whnf)
      | (refine Br.nf (by omega) ?_; conv => whnf)
      | (refine Br.dec (fun hc => ?_) (fun hc => ?_) <;> conv => whnf)
      | (refine Br.ieq (fun hc => ?_) (fun hc => ?_) <;> conv => whnf)
      | (refine Br.ine (fun hc => ?_) (fun hc => ?_) <;> conv => whnf)
      | (refine Br.mk (fun hc => ?_) (fun hc => ?_) <;> conv => whnf)
      | (refine Wr.i64 (by omega) ?_; conv => whnf)
      | (refine Ck.mk (by omega) ?_; conv => whnf)
      | (refine Wr.i64 (by simp only [List.length_drop, List.length_take, List.length_append, List.length_cons, List.length_nil]; omega) ?_; conv => whnf)
      | (refine Ck.mk (by simp only [List.length_drop, List.length_take, List.length_append, List.length_cons, List.length_nil]; omega) ?_; conv => whnf)
      | (refine NewG.st (by assumption) (fun bt h' hs' => ?_); conv => whnf)
      | (refine Ck.mk (by simp; omega) ?_; conv => whnf))
    refine AW.loop3 (fun (c b N : Nat) => [(0, .int .i64 n), (1, .int .i64 v), (6, .slice b 0 N N), (7, .int .i64 c)]) (fun c b N h' => c ≤ n.toNat ∧ ∃ R, R.length = N ∧ rws R = sortL (fanL n v c) ∧ St h0 h' ((b, row (slcs R)) :: (blks R ++ []))) (fun c _ _ => n.toNat - c) 0 bt 0
      (Less.cons rfl (Less.cons rfl (Less.cons rfl (Less.cons rfl (Less.nil _))))) ⟨by omega, [], rfl, rfl, nilRows hs'⟩ ?_
    rintro c b N h3 ⟨hc, R, rfl, hR, hs3⟩
    have lR := fanL_len n v c
    have e2 : R.length = (fanL n v c).length := by rw [← rws_length, hR, sortL_len]
    have r2 : ∀ r ∈ R, r.2.length = 2 := rws_two hR (sortL_two (fanL_two n v c))
    clear hs hs'
    by_cases hlt : c < n.toNat
    · have fd := fan_diag h1 h2 hlt
      have cc : min (c : Int) v = min v c := by omega
      have cd : max (c : Int) v = max v c := by omega
      by_cases d : diagOk n (fanRow v c)
      · have d2 := fd.1 d
        repeat' (first
          | (rw [cc, cd])
          | (refine (put_ok R (fanRow v c) [] b _ _ _ h0 _ hs' rfl (by omega) (by omega) rfl r2).mono ?_; rintro v h' ⟨b', rfl, hs4⟩; conv => whnf)
          | refine AW.seq ?_
          | (refine AW.region ?_; conv => whnf)
          | refine AW.block ?_
          | (refine AW.skip ?_; conv => whnf)
          | (refine AW.ret ?_; conv => whnf)
          | (refine AW.exit ?_; conv => whnf)
          | refine AW.cond (by rfl) ?_
          | (refine (l1In_ok _ _ _ _).mono ?_; rintro v h' ⟨rfl, e'⟩; subst h'; conv => whnf)
          | (refine Br.tt ?_; conv => whnf)
          | (refine Br.ff ?_; conv => whnf)
          | refine Br.not ?_
          | (refine Br.t (beq_self_eq_true _) ?_; conv => whnf)
          | (refine Br.t (by assumption) ?_; conv => whnf)
          | (refine Br.f (by assumption) ?_; conv => whnf)
          | (refine Br.dt (by omega) ?_; conv => whnf)
          | (refine Br.df (by omega) ?_; conv => whnf)
          | (refine Br.it (by omega) ?_; conv => whnf)
          | (refine Br.if (by omega) ?_; conv => whnf)
          | (refine Br.nt (by omega) ?_; conv => whnf)
          | (refine Br.nf (by omega) ?_; conv => whnf)
          | (refine Br.dec (fun hc => ?_) (fun hc => ?_) <;> conv => whnf)
          | (refine Br.ieq (fun hc => ?_) (fun hc => ?_) <;> conv => whnf)
          | (refine Br.ine (fun hc => ?_) (fun hc => ?_) <;> conv => whnf)
          | (refine Br.mk (fun hc => ?_) (fun hc => ?_) <;> conv => whnf)
          | (refine Wr.i64 (by omega) ?_; conv => whnf)
          | (refine Ck.mk (by omega) ?_; conv => whnf)
          | (refine Wr.i64 (by simp only [List.length_drop, List.length_take, List.length_append, List.length_cons, List.length_nil]; omega) ?_; conv => whnf)
          | (refine Ck.mk (by simp only [List.length_drop, List.length_take, List.length_append, List.length_cons, List.length_nil]; omega) ?_; conv => whnf)
          | (refine NewG.st (by assumption) (fun bt h' hs' => ?_); conv => whnf)
          | (refine Ck.mk (by simp; omega) ?_; conv => whnf))
        all_goals exact ⟨c + 1, b', _, (Less.cons rfl (Less.cons rfl (Less.cons rfl (Less.cons rfl (Less.nil _))))), ⟨by omega, _, putP_len _ _, by rw [fanL, if_pos d, sortL_snoc, putP_rws, hR], hs4⟩, by omega⟩
      · have d2 : ¬ (2 ≤ max v c - min v c ∧ ¬ (min v c = 0 ∧ max v c = n - 1)) := fun a => d (fd.2 a)
        repeat' (first
          | (rw [cc, cd])
          | refine AW.seq ?_
          | (refine AW.region ?_; conv => whnf)
          | refine AW.block ?_
          | (refine AW.skip ?_; conv => whnf)
          | (refine AW.ret ?_; conv => whnf)
          | (refine AW.exit ?_; conv => whnf)
          | refine AW.cond (by rfl) ?_
          | (refine (l1In_ok _ _ _ _).mono ?_; rintro v h' ⟨rfl, e'⟩; subst h'; conv => whnf)
          | (refine Br.tt ?_; conv => whnf)
          | (refine Br.ff ?_; conv => whnf)
          | refine Br.not ?_
          | (refine Br.t (beq_self_eq_true _) ?_; conv => whnf)
          | (refine Br.t (by assumption) ?_; conv => whnf)
          | (refine Br.f (by assumption) ?_; conv => whnf)
          | (refine Br.dt (by omega) ?_; conv => whnf)
          | (refine Br.df (by omega) ?_; conv => whnf)
          | (refine Br.it (by omega) ?_; conv => whnf)
          | (refine Br.if (by omega) ?_; conv => whnf)
          | (refine Br.nt (by omega) ?_; conv => whnf)
          | (refine Br.nf (by omega) ?_; conv => whnf)
          | (refine Br.dec (fun hc => ?_) (fun hc => ?_) <;> conv => whnf)
          | (refine Br.ieq (fun hc => ?_) (fun hc => ?_) <;> conv => whnf)
          | (refine Br.ine (fun hc => ?_) (fun hc => ?_) <;> conv => whnf)
          | (refine Br.mk (fun hc => ?_) (fun hc => ?_) <;> conv => whnf)
          | (refine Wr.i64 (by omega) ?_; conv => whnf)
          | (refine Ck.mk (by omega) ?_; conv => whnf)
          | (refine Wr.i64 (by simp only [List.length_drop, List.length_take, List.length_append, List.length_cons, List.length_nil]; omega) ?_; conv => whnf)
          | (refine Ck.mk (by simp only [List.length_drop, List.length_take, List.length_append, List.length_cons, List.length_nil]; omega) ?_; conv => whnf)
          | (refine NewG.st (by assumption) (fun bt h' hs' => ?_); conv => whnf)
          | (refine Ck.mk (by simp; omega) ?_; conv => whnf))
        all_goals exact ⟨c + 1, b, _, (Less.cons rfl (Less.cons rfl (Less.cons rfl (Less.cons rfl (Less.nil _))))), ⟨by omega, R, rfl, by rw [fanL, if_neg d, hR], hs3⟩, by omega⟩
    · have ec : c = n.toNat := by omega
      subst ec
      repeat' (first
        | refine AW.seq ?_
        | (refine AW.region ?_; conv => whnf)
        | refine AW.block ?_
        | (refine AW.skip ?_; conv => whnf)
        | (refine AW.ret ?_; conv => whnf)
        | (refine AW.exit ?_; conv => whnf)
        | refine AW.cond (by rfl) ?_
        | (refine (l1In_ok _ _ _ _).mono ?_; rintro v h' ⟨rfl, e'⟩; subst h'; conv => whnf)
        | (refine Br.tt ?_; conv => whnf)
        | (refine Br.ff ?_; conv => whnf)
        | refine Br.not ?_
        | (refine Br.t (beq_self_eq_true _) ?_; conv => whnf)
        | (refine Br.t (by assumption) ?_; conv => whnf)
        | (refine Br.f (by assumption) ?_; conv => whnf)
        | (refine Br.dt (by omega) ?_; conv => whnf)
        | (refine Br.df (by omega) ?_; conv => whnf)
        | (refine Br.it (by omega) ?_; conv => whnf)
        | (refine Br.if (by omega) ?_; conv => whnf)
        | (refine Br.nt (by omega) ?_; conv => whnf)
        | (refine Br.nf (by omega) ?_; conv => whnf)
        | (refine Br.dec (fun hc => ?_) (fun hc => ?_) <;> conv => whnf)
        | (refine Br.ieq (fun hc => ?_) (fun hc => ?_) <;> conv => whnf)
        | (refine Br.ine (fun hc => ?_) (fun hc => ?_) <;> conv => whnf)
        | (refine Br.mk (fun hc => ?_) (fun hc => ?_) <;> conv => whnf)
        | (refine Wr.i64 (by omega) ?_; conv => whnf)
        | (refine Ck.mk (by omega) ?_; conv => whnf)
        | (refine Wr.i64 (by simp only [List.length_drop, List.length_take, List.length_append, List.length_cons, List.length_nil]; omega) ?_; conv => whnf)
        | (refine Ck.mk (by simp only [List.length_drop, List.length_take, List.length_append, List.length_cons, List.length_nil]; omega) ?_; conv => whnf)
        | (refine NewG.st (by assumption) (fun bt h' hs' => ?_); conv => whnf)
        | (refine Ck.mk (by simp; omega) ?_; conv => whnf))
      exact RetR.mk' (by rw [e, hR]) rfl hs3
  · have e : fan n v = ([], false) := if_neg ok
    unfold fanOk at ok
    refine AC.enter Try.func27 Try.call27 rfl Try.ntmps27 (of_decide_eq_true (by rfl)) ?_
    repeat' (first
      | refine AW.seq ?_
      | (refine AW.region ?_; conv => whnf)
      | refine AW.block ?_
      | (refine AW.skip ?_; conv => whnf)
      | (refine AW.ret ?_; conv => whnf)
      | (refine AW.exit ?_; conv => whnf)
      | refine AW.cond (by rfl) ?_
      | (refine (l1In_ok _ _ _ _).mono ?_; rintro v h' ⟨rfl, e'⟩; subst h'; conv => whnf)
      | (refine Br.tt ?_; conv => whnf)
      | (refine Br.ff ?_; conv => whnf)
      | refine Br.not ?_
      | (refine Br.t (beq_self_eq_true _) ?_; conv => whnf)
      | (refine Br.t (by assumption) ?_; conv => whnf)
      | (refine Br.f (by assumption) ?_; conv => whnf)
      | (refine Br.dt (by omega) ?_; conv => whnf)
      | (refine Br.df (by omega) ?_; conv => whnf)
      | (refine Br.it (by omega) ?_; conv => whnf)
      | (refine Br.if (by omega) ?_; conv => whnf)
      | (refine Br.nt (by omega) ?_; conv => whnf)
      | (refine Br.nf (by omega) ?_; conv => whnf)
      | (refine Br.dec (fun hc => ?_) (fun hc => ?_) <;> conv => whnf)
      | (refine Br.ieq (fun hc => ?_) (fun hc => ?_) <;> conv => whnf)
      | (refine Br.ine (fun hc => ?_) (fun hc => ?_) <;> conv => whnf)
      | (refine Br.mk (fun hc => ?_) (fun hc => ?_) <;> conv => whnf)
      | (refine Wr.i64 (by omega) ?_; conv => whnf)
      | (refine Ck.mk (by omega) ?_; conv => whnf)
      | (refine Wr.i64 (by simp only [List.length_drop, List.length_take, List.length_append, List.length_cons, List.length_nil]; omega) ?_; conv => whnf)
      | (refine Ck.mk (by simp only [List.length_drop, List.length_take, List.length_append, List.length_cons, List.length_nil]; omega) ?_; conv => whnf)
      | (refine NewG.st (by assumption) (fun bt h' hs' => ?_); conv => whnf)
      | (refine Ck.mk (by simp; omega) ?_; conv => whnf))
    all_goals exact RetR.mk' (R := []) e rfl (nilRows hs')

end Go.Proofs.Ytcepogfmajlcjaa

/-
  Contracts of rows of rows that are marked are proved.
  They hold for all rows of rows.
-/
set_option linter.unusedVariables false
set_option linter.unusedSimpArgs false
namespace Go.Proofs.Ytcepogfmajlcjaa
open Go.Proofs.Ytcepogfmajlcjaa.Ab Go.Proofs.Ytcepogfmajlcjaa.Pl

/-- rows of rows among one's blocks, and the same with other rows -/
inductive RSpot : List (Nat × Blk) → Nat → RL → RL → List (Nat × Blk) → Prop where
  | here {b : Nat} {R R' : RL} {L : List (Nat × Blk)} : RSpot ((b, row (slcs R)) :: (blks R ++ L)) b R R' ((b, row (slcs R')) :: (blks R' ++ L))
  | there {x : Nat × Blk} {b : Nat} {R R' : RL} {L L' : List (Nat × Blk)} (s : RSpot L b R R' L') : RSpot (x :: L) b R R' (x :: L')
  | app {X : List (Nat × Blk)} {b : Nat} {R R' : RL} {L L' : List (Nat × Blk)} (s : RSpot L b R R' L') : RSpot (X ++ L) b R R' (X ++ L')
theorem RSpot.split {L L' : List (Nat × Blk)} {b : Nat} {R R' : RL} (s : RSpot L b R R' L') : ∃ A B, L = A ++ (b, row (slcs R)) :: (blks R ++ B) ∧ L' = A ++ (b, row (slcs R')) :: (blks R' ++ B) := by
  induction s with
  | here => exact ⟨[], _, rfl, rfl⟩
  | there s ih =>
    obtain ⟨A, B, e1, e2⟩ := ih
    exact ⟨_ :: A, B, by rw [e1]; rfl, by rw [e2]; rfl⟩
  | app s ih =>
    obtain ⟨A, B, e1, e2⟩ := ih
    exact ⟨_ ++ A, B, by rw [e1, List.append_assoc], by rw [e2, List.append_assoc]⟩
theorem St.gridAt {h0 h : H} {L : List (Nat × Blk)} {b : Nat} {R : RL} (s : St h0 h L) (sp : RSpot L b R R L) : Grid h b R := by
  obtain ⟨A, B, rfl, _⟩ := sp.split
  exact s.rowsIn (List.mem_append_right _ (.head _)) fun p hp => List.mem_append_right _ (.tail _ (List.mem_append_left _ hp))

def totL (f : List (List Int)) : Nat := (f.map List.length).sum
theorem totL_cons (l : List Int) (f : List (List Int)) : totL (l :: f) = l.length + totL f := by simp [totL]
theorem totL_append (f g : List (List Int)) : totL (f ++ g) = totL f + totL g := by simp [totL]
theorem totL_mem {f : List (List Int)} {l : List Int} (h : l ∈ f) : l.length ≤ totL f := by
  induction f with
  | nil => cases h
  | cons x f ih =>
    rw [totL_cons]
    cases h with
    | head => omega
    | tail _ h => have := ih h; omega
theorem totL_le {f : List (List Int)} {m : Nat} (h : ∀ l ∈ f, l.length ≤ m) : totL f ≤ f.length * m := by
  induction f with
  | nil => simp [totL]
  | cons x f ih =>
    rw [totL_cons, List.length_cons, Nat.add_mul]
    have := ih fun l hl => h l (.tail _ hl)
    have := h x (.head _)
    omega
def markR (k : Int) : RL → RL
  | [] => []
  | r :: R => (r.1, iota k r.2.length) :: markR (k + r.2.length) R
theorem iota_length (k : Int) (n : Nat) : (iota k n).length = n := tab_length _ _
theorem markR_slcs : ∀ (R : RL) (k : Int), slcs (markR k R) = slcs R
  | [], k => rfl
  | r :: R, k => by
    have := markR_slcs R (k + r.2.length)
    simp only [slcs, markR, List.map_cons, iota_length] at this ⊢
    rw [this]
theorem markR_len : ∀ (R : RL) (k : Int), (markR k R).length = R.length
  | [], k => rfl
  | r :: R, k => by rw [markR, List.length_cons, markR_len R, List.length_cons]
theorem markR_append : ∀ (A B : RL) (k : Int), markR k (A ++ B) = markR k A ++ markR (k + totL (rws A)) B
  | [], B, k => by simp [markR, totL, rws]
  | r :: A, B, k => by
    rw [List.cons_append, markR, markR, markR_append A B]
    have : totL (rws (r :: A)) = r.2.length + totL (rws A) := totL_cons _ _
    rw [this, List.cons_append]
    congr 3
    omega
theorem spot_mid {α : Type} (X Y : List α) (p q : α) : Spot (X ++ p :: Y) p q (X ++ q :: Y) := by
  induction X with
  | nil => exact .here
  | cons x X ih => exact .there ih
theorem rl_mid (A B : RL) (x : Nat × List Int) : (A ++ x :: B).getD A.length (0, []) = x := by simp [List.getD]

theorem Spot.app {α : Type} {L L' X : List α} {p q : α} (s : Spot L p q L') : Spot (X ++ L) p q (X ++ L') := by
  induction X with
  | nil => exact s
  | cons x X ih => exact .there ih

theorem markIntSS_ok (R : RL) (f : List (List Int)) (L L' : List (Nat × Blk)) (b N C : Nat) (k : Int) (H0 hp : H) (hs : St H0 hp L) (sp : RSpot L b R (markR k R) L') (hR : rws R = f) (hN : N = f.length) (ht : totL f ≤ 2000000) (hl : f.length ≤ 2000000) (hk : 0 ≤ k ∧ k ≤ 100000000) :
    AC env 25 [.slice b 0 N C, .int .i64 k] hp fun v h' => v = .int .i64 (k + totL f) ∧ St H0 h' L' := by
  subst hR
  obtain ⟨A, B, rfl, rfl⟩ := sp.split
  have lR : R.length = N := by rw [hN, rws_length]
  refine AC.enter Try.func25 Try.call25 rfl Try.ntmps25 (of_decide_eq_true (by rfl)) ?_
  repeat' (first
    | refine AW.seq ?_
    | (refine AW.region ?_; conv => whnf)
    | refine AW.block ?_
    | (refine AW.skip ?_; conv => whnf)
    | (refine AW.ret ?_; conv => whnf)
    | (refine AW.exit ?_; conv => whnf)
    | refine AW.cond (by rfl) ?_
    | (refine (markIntS_ok _ _ _ _ _ _ (St.own (by assumption) (by repeat first | exact .head _ | apply List.Mem.tail)) rfl (by first | (simp; done) | omega | (simp only [List.length_set, List.length_append, List.length_cons, List.length_nil, List.length_replicate, tab_length]; omega) | (simp; omega)) (by first | (simp; done) | omega | (simp only [List.length_set, List.length_append, List.length_cons, List.length_nil, List.length_replicate, tab_length]; omega) | (simp; omega))).mono ?_; rintro v h' ⟨rfl, o, k⟩; have hs' := St.ownSet (by assumption) o k (by repeat first | exact .here | apply Spot.there); clear o k; conv => whnf)
    | (refine Br.tt ?_; conv => whnf)
    | (refine Br.ff ?_; conv => whnf)
    | refine Br.not ?_
    | (refine Br.t (beq_self_eq_true _) ?_; conv => whnf)
    | (refine Br.t (by assumption) ?_; conv => whnf)
    | (refine Br.f (by assumption) ?_; conv => whnf)
    | (refine Br.dt (by omega) ?_; conv => whnf)
    | (refine Br.df (by omega) ?_; conv => whnf)
    | (refine Br.it (by omega) ?_; conv => whnf)
    | (refine Br.if (by omega) ?_; conv => whnf)
    | (refine Br.nt (by omega) ?_; conv => whnf)
    | (refine Br.nf (by omega) ?_; conv => whnf)
    | (refine Br.dec (fun hc => ?_) (fun hc => ?_) <;> conv => whnf)
    | (refine Br.ieq (fun hc => ?_) (fun hc => ?_) <;> conv => whnf)
    | (refine Br.ine (fun hc => ?_) (fun hc => ?_) <;> conv => whnf)
    | (refine Br.mk (fun hc => ?_) (fun hc => ?_) <;> conv => whnf)
    | (refine Wr.i64 (by omega) ?_; conv => whnf)
    | (refine Ck.mk (by omega) ?_; conv => whnf)
    | (refine Wr.i64 (by simp only [List.length_drop, List.length_take, List.length_append, List.length_cons, List.length_nil]; omega) ?_; conv => whnf)
    | (refine Ck.mk (by simp only [List.length_drop, List.length_take, List.length_append, List.length_cons, List.length_nil]; omega) ?_; conv => whnf)
    | (refine Has.load1 (by first | assumption | exact St.has (by assumption) (by repeat first | exact .head _ | apply List.Mem.tail) | exact St.arg (by assumption) (by assumption)) ?_; conv => whnf)
    | (refine Ck.mk (by simp; omega) ?_; conv => whnf))
  refine AW.loop2 (fun (i : Nat) (x : Int) => [(0, .slice b 0 N C), (1, .int .i64 x), (5, .int .i64 i)]) (fun i x h' => ∃ X Y, R = X ++ Y ∧ X.length = i ∧ x = k + totL (rws X) ∧ St H0 h' (A ++ (b, row (slcs R)) :: (blks (markR k X ++ Y) ++ B))) (fun i _ => N - i) 0 k
    (Less.cons rfl (Less.cons rfl (Less.cons rfl (Less.nil _)))) ⟨[], R, rfl, rfl, (Int.add_zero _).symm, hs⟩ ?_
  rintro i x h1 ⟨X, Y, rfl, rfl, rfl, hs1⟩
  have lX := markR_len X k
  have tX : totL (rws (X ++ Y)) = totL (rws X) + totL (rws Y) := by rw [rws_append, totL_append]
  cases Y with
  | cons y Y =>
    obtain ⟨c, l⟩ := y
    have e0 : X.length + (Y.length + 1) = N := by simpa using lR
    have er : rb (X ++ (c, l) :: Y) X.length = c := by unfold rb; rw [rl_mid]
    have el : rl (X ++ (c, l) :: Y) X.length = l := by unfold rl; rw [rl_mid]
    have tY : totL (rws ((c, l) :: Y)) = l.length + totL (rws Y) := totL_cons _ _
    have hb : Has h1 b (slcs (X ++ (c, l) :: Y)) := hs1.has (List.mem_append_right _ (.head _))
    have eB : blks (markR k X ++ (c, l) :: Y) = blks (markR k X) ++ (c, row (ints l)) :: blks Y := blks_append _ _
    rw [eB] at hs1
    have hs2 : St H0 h1 ((A ++ (b, row (slcs (X ++ (c, l) :: Y))) :: blks (markR k X)) ++ (c, row (ints l)) :: (blks Y ++ B)) := by simpa using hs1
    have ho : Own h1 c (ints l) := hs2.own (List.mem_append_right _ (.head _))
    repeat' (first
      | (refine Has.loadAt hb rfl (slcs_get _ X.length (by simp)) ?_; rw [er, el]; conv => whnf)
      | (refine (markIntS_ok l c _ _ _ _ ho rfl (by omega) (by omega)).mono ?_; rintro v h' ⟨rfl, hm, hoth⟩; have hs3 := St.ownSet hs2 hm hoth (spot_mid _ _ _ _); conv => whnf)
      | refine AW.seq ?_
      | (refine AW.region ?_; conv => whnf)
      | refine AW.block ?_
      | (refine AW.skip ?_; conv => whnf)
      | (refine AW.ret ?_; conv => whnf)
      | (refine AW.exit ?_; conv => whnf)
      | refine AW.cond (by rfl) ?_
      | (refine (markIntS_ok _ _ _ _ _ _ (St.own (by assumption) (by repeat first | exact .head _ | apply List.Mem.tail)) rfl (by first | (simp; done) | omega | (simp only [List.length_set, List.length_append, List.length_cons, List.length_nil, List.length_replicate, tab_length]; omega) | (simp; omega)) (by first | (simp; done) | omega | (simp only [List.length_set, List.length_append, List.length_cons, List.length_nil, List.length_replicate, tab_length]; omega) | (simp; omega))).mono ?_; rintro v h' ⟨rfl, o, k⟩; have hs' := St.ownSet (by assumption) o k (by repeat first | exact .here | apply Spot.there); clear o k; conv => whnf)
      | (refine Br.tt ?_; conv => whnf)
      | (refine Br.ff ?_; conv => whnf)
      | refine Br.not ?_
      | (refine Br.t (beq_self_eq_true _) ?_; conv => whnf)
      | (refine Br.t (by assumption) ?_; conv => whnf)
      | (refine Br.f (by assumption) ?_; conv => whnf)
      | (refine Br.dt (by omega) ?_; conv => whnf)
      | (refine Br.df (by omega) ?_; conv => whnf)
      | (refine Br.it (by omega) ?_; conv => whnf)
      | (refine Br.if (by omega) ?_; conv => whnf)
      | (refine Br.nt (by omega) ?_; conv => whnf)
      | (refine Br.nf (by omega) ?_; conv => whnf)
      | (refine Br.dec (fun hc => ?_) (fun hc => ?_) <;> conv => whnf)
      | (refine Br.ieq (fun hc => ?_) (fun hc => ?_) <;> conv => whnf)
      | (refine Br.ine (fun hc => ?_) (fun hc => ?_) <;> conv => whnf)
      | (refine Br.mk (fun hc => ?_) (fun hc => ?_) <;> conv => whnf)
      | (refine Wr.i64 (by omega) ?_; conv => whnf)
      | (refine Ck.mk (by omega) ?_; conv => whnf)
      | (refine Wr.i64 (by simp only [List.length_drop, List.length_take, List.length_append, List.length_cons, List.length_nil]; omega) ?_; conv => whnf)
      | (refine Ck.mk (by simp only [List.length_drop, List.length_take, List.length_append, List.length_cons, List.length_nil]; omega) ?_; conv => whnf)
      | (refine Has.load1 (by first | assumption | exact St.has (by assumption) (by repeat first | exact .head _ | apply List.Mem.tail) | exact St.arg (by assumption) (by assumption)) ?_; conv => whnf)
      | (refine Ck.mk (by simp; omega) ?_; conv => whnf))
    refine ⟨X.length + 1, _, (Less.cons rfl (Less.cons rfl (Less.cons rfl (Less.nil _)))), ⟨X ++ [(c, l)], Y, by simp, by simp, ?_, ?_⟩, by omega⟩
    · have : totL (rws (X ++ [(c, l)])) = totL (rws X) + l.length := by rw [rws_append, totL_append]; simp [rws, totL]
      rw [this]
      omega
    · have e4 : markR k (X ++ [(c, l)]) ++ Y = markR k X ++ (c, iota (k + totL (rws X)) l.length) :: Y := by rw [markR_append]; simp [markR]
      rw [e4]
      simpa [blks_append, blks] using hs3
  | nil =>
    have e0 : X.length = N := by simpa using lR
    repeat' (first
      | refine AW.seq ?_
      | (refine AW.region ?_; conv => whnf)
      | refine AW.block ?_
      | (refine AW.skip ?_; conv => whnf)
      | (refine AW.ret ?_; conv => whnf)
      | (refine AW.exit ?_; conv => whnf)
      | refine AW.cond (by rfl) ?_
      | (refine (markIntS_ok _ _ _ _ _ _ (St.own (by assumption) (by repeat first | exact .head _ | apply List.Mem.tail)) rfl (by first | (simp; done) | omega | (simp only [List.length_set, List.length_append, List.length_cons, List.length_nil, List.length_replicate, tab_length]; omega) | (simp; omega)) (by first | (simp; done) | omega | (simp only [List.length_set, List.length_append, List.length_cons, List.length_nil, List.length_replicate, tab_length]; omega) | (simp; omega))).mono ?_; rintro v h' ⟨rfl, o, k⟩; have hs' := St.ownSet (by assumption) o k (by repeat first | exact .here | apply Spot.there); clear o k; conv => whnf)
      | (refine Br.tt ?_; conv => whnf)
      | (refine Br.ff ?_; conv => whnf)
      | refine Br.not ?_
      | (refine Br.t (beq_self_eq_true _) ?_; conv => whnf)
      | (refine Br.t (by assumption) ?_; conv => whnf)
      | (refine Br.f (by assumption) ?_; conv => whnf)
      | (refine Br.dt (by omega) ?_; conv => whnf)
      | (refine Br.df (by omega) ?_; conv => whnf)
      | (refine Br.it (by omega) ?_; conv => whnf)
      | (refine Br.if (by omega) ?_; conv => whnf)
      | (refine Br.nt (by omega) ?_; conv => whnf)
      | (refine Br.nf (by omega) ?_; conv => whnf)
      | (refine Br.dec (fun hc => ?_) (fun hc => ?_) <;> conv => whnf)
      | (refine Br.ieq (fun hc => ?_) (fun hc => ?_) <;> conv => whnf)
      | (refine Br.ine (fun hc => ?_) (fun hc => ?_) <;> conv => whnf)
      | (refine Br.mk (fun hc => ?_) (fun hc => ?_) <;> conv => whnf)
      | (refine Wr.i64 (by omega) ?_; conv => whnf)
      | (refine Ck.mk (by omega) ?_; conv => whnf)
      | (refine Wr.i64 (by simp only [List.length_drop, List.length_take, List.length_append, List.length_cons, List.length_nil]; omega) ?_; conv => whnf)
      | (refine Ck.mk (by simp only [List.length_drop, List.length_take, List.length_append, List.length_cons, List.length_nil]; omega) ?_; conv => whnf)
      | (refine Has.load1 (by first | assumption | exact St.has (by assumption) (by repeat first | exact .head _ | apply List.Mem.tail) | exact St.arg (by assumption) (by assumption)) ?_; conv => whnf)
      | (refine Ck.mk (by simp; omega) ?_; conv => whnf))
    refine ⟨by rw [List.append_nil], ?_⟩
    rw [List.append_nil] at hs1 ⊢
    rw [markR_slcs]
    simpa using hs1

theorem heldIntSS_ok (R : RL) (f : List (List Int)) (b N C : Nat) (k : Int) (h0 : H) (hg : Grid h0 b (markR k R)) (hR : rws R = f) (hN : N = f.length) (ht : totL f ≤ 2000000) (hl : f.length ≤ 2000000) (hk : 0 ≤ k ∧ k ≤ 100000000) :
    AC env 26 [.slice b 0 N C, .int .i64 k] h0 fun v h' => v = .int .i64 (k + totL f) ∧ h' = h0 := by
  subst hR
  have lR : R.length = N := by rw [hN, rws_length]
  refine AC.enter Try.func26 Try.call26 rfl Try.ntmps26 (of_decide_eq_true (by rfl)) ?_
  repeat' (first
    | refine AW.seq ?_
    | (refine AW.region ?_; conv => whnf)
    | refine AW.block ?_
    | (refine AW.skip ?_; conv => whnf)
    | (refine AW.ret ?_; conv => whnf)
    | (refine AW.exit ?_; conv => whnf)
    | refine AW.cond (by rfl) ?_
    | (refine (heldIntS_ok _ _ _ _ _ (by first | assumption | exact St.has (by assumption) (by repeat first | exact .head _ | apply List.Mem.tail) | exact St.arg (by assumption) (by assumption)) (by first | (simp; done) | omega | (simp only [List.length_set, List.length_append, List.length_cons, List.length_nil, List.length_replicate, tab_length]; omega) | (simp; omega)) (by first | (simp; done) | omega | (simp only [List.length_set, List.length_append, List.length_cons, List.length_nil, List.length_replicate, tab_length]; omega) | (simp; omega))).mono ?_; rintro v h' ⟨rfl, e'⟩; subst h'; conv => whnf)
    | (refine Br.tt ?_; conv => whnf)
    | (refine Br.ff ?_; conv => whnf)
    | refine Br.not ?_
    | (refine Br.t (beq_self_eq_true _) ?_; conv => whnf)
    | (refine Br.t (by assumption) ?_; conv => whnf)
    | (refine Br.f (by assumption) ?_; conv => whnf)
    | (refine Br.dt (by omega) ?_; conv => whnf)
    | (refine Br.df (by omega) ?_; conv => whnf)
    | (refine Br.it (by omega) ?_; conv => whnf)
    | (refine Br.if (by omega) ?_; conv => whnf)
    | (refine Br.nt (by omega) ?_; conv => whnf)
    | (refine Br.nf (by omega) ?_; conv => whnf)
    | (refine Br.dec (fun hc => ?_) (fun hc => ?_) <;> conv => whnf)
    | (refine Br.ieq (fun hc => ?_) (fun hc => ?_) <;> conv => whnf)
    | (refine Br.ine (fun hc => ?_) (fun hc => ?_) <;> conv => whnf)
    | (refine Br.mk (fun hc => ?_) (fun hc => ?_) <;> conv => whnf)
    | (refine Wr.i64 (by omega) ?_; conv => whnf)
    | (refine Ck.mk (by omega) ?_; conv => whnf)
    | (refine Wr.i64 (by simp only [List.length_drop, List.length_take, List.length_append, List.length_cons, List.length_nil]; omega) ?_; conv => whnf)
    | (refine Ck.mk (by simp only [List.length_drop, List.length_take, List.length_append, List.length_cons, List.length_nil]; omega) ?_; conv => whnf)
    | (refine Has.load1 (by first | assumption | exact St.has (by assumption) (by repeat first | exact .head _ | apply List.Mem.tail) | exact St.arg (by assumption) (by assumption)) ?_; conv => whnf)
    | (refine Ck.mk (by simp; omega) ?_; conv => whnf))
  refine AW.loop2 (fun (i : Nat) (x : Int) => [(0, .slice b 0 N C), (1, .int .i64 x), (5, .int .i64 i)]) (fun i x h' => (∃ X Y, R = X ++ Y ∧ X.length = i ∧ x = k + totL (rws X)) ∧ h' = h0) (fun i _ => N - i) 0 k
    (Less.cons rfl (Less.cons rfl (Less.cons rfl (Less.nil _)))) ⟨⟨[], R, rfl, rfl, (Int.add_zero _).symm⟩, rfl⟩ ?_
  rintro i x h1 ⟨⟨X, Y, rfl, rfl, rfl⟩, rfl⟩
  have lX := markR_len X k
  have tX : totL (rws (X ++ Y)) = totL (rws X) + totL (rws Y) := by rw [rws_append, totL_append]
  cases Y with
  | cons y Y =>
    obtain ⟨c, l⟩ := y
    have e0 : X.length + (Y.length + 1) = N := by simpa using lR
    have tY : totL (rws ((c, l) :: Y)) = l.length + totL (rws Y) := totL_cons _ _
    have em : markR k (X ++ (c, l) :: Y) = markR k X ++ (c, iota (k + totL (rws X)) l.length) :: markR (k + totL (rws X) + l.length) Y := by rw [markR_append]; rfl
    rw [em] at hg
    have er : rb (markR k X ++ (c, iota (k + totL (rws X)) l.length) :: markR (k + totL (rws X) + l.length) Y) X.length = c := by unfold rb; rw [← lX, rl_mid]
    have el : rl (markR k X ++ (c, iota (k + totL (rws X)) l.length) :: markR (k + totL (rws X) + l.length) Y) X.length = iota (k + totL (rws X)) l.length := by unfold rl; rw [← lX, rl_mid]
    have hr := hg.inn (c, iota (k + totL (rws X)) l.length) (List.mem_append_right _ (.head _))
    repeat' (first
      | (refine Has.loadAt hg.out rfl (slcs_get _ X.length (by simp [lX])) ?_; rw [er, el, iota_length]; conv => whnf)
      | (refine (heldIntS_ok c l.length _ _ _ hr (by omega) (by omega)).mono ?_; rintro v h' ⟨rfl, e'⟩; subst h'; conv => whnf)
      | refine AW.seq ?_
      | (refine AW.region ?_; conv => whnf)
      | refine AW.block ?_
      | (refine AW.skip ?_; conv => whnf)
      | (refine AW.ret ?_; conv => whnf)
      | (refine AW.exit ?_; conv => whnf)
      | refine AW.cond (by rfl) ?_
      | (refine (heldIntS_ok _ _ _ _ _ (by first | assumption | exact St.has (by assumption) (by repeat first | exact .head _ | apply List.Mem.tail) | exact St.arg (by assumption) (by assumption)) (by first | (simp; done) | omega | (simp only [List.length_set, List.length_append, List.length_cons, List.length_nil, List.length_replicate, tab_length]; omega) | (simp; omega)) (by first | (simp; done) | omega | (simp only [List.length_set, List.length_append, List.length_cons, List.length_nil, List.length_replicate, tab_length]; omega) | (simp; omega))).mono ?_; rintro v h' ⟨rfl, e'⟩; subst h'; conv => whnf)
      | (refine Br.tt ?_; conv => whnf)
      | (refine Br.ff ?_; conv => whnf)
      | refine Br.not ?_
      | (refine Br.t (beq_self_eq_true _) ?_; conv => whnf)
      | (refine Br.t (by assumption) ?_; conv => whnf)
      | (refine Br.f (by assumption) ?_; conv => whnf)
      | (refine Br.dt (by omega) ?_; conv => whnf)
      | (refine Br.df (by omega) ?_; conv => whnf)
      | (refine Br.it (by omega) ?_; conv => whnf)
      | (refine Br.if (by omega) ?_; conv => whnf)
      | (refine Br.nt (by omega) ?_; conv => whnf)
      | (refine Br.nf (by omega) ?_; conv => whnf)
      | (refine Br.dec (fun hc => ?_) (fun hc => ?_) <;> conv => whnf)
      | (refine Br.ieq (fun hc => ?_) (fun hc => ?_) <;> conv => whnf)
      | (refine Br.ine (fun hc => ?_) (fun hc => ?_) <;> conv => whnf)
      | (refine Br.mk (fun hc => ?_) (fun hc => ?_) <;> conv => whnf)
      | (refine Wr.i64 (by omega) ?_; conv => whnf)
      | (refine Ck.mk (by omega) ?_; conv => whnf)
      | (refine Wr.i64 (by simp only [List.length_drop, List.length_take, List.length_append, List.length_cons, List.length_nil]; omega) ?_; conv => whnf)
      | (refine Ck.mk (by simp only [List.length_drop, List.length_take, List.length_append, List.length_cons, List.length_nil]; omega) ?_; conv => whnf)
      | (refine Has.load1 (by first | assumption | exact St.has (by assumption) (by repeat first | exact .head _ | apply List.Mem.tail) | exact St.arg (by assumption) (by assumption)) ?_; conv => whnf)
      | (refine Ck.mk (by simp; omega) ?_; conv => whnf))
    refine ⟨X.length + 1, _, (Less.cons rfl (Less.cons rfl (Less.cons rfl (Less.nil _)))), ⟨⟨X ++ [(c, l)], Y, by simp, by simp, ?_⟩, rfl⟩, by omega⟩
    have : totL (rws (X ++ [(c, l)])) = totL (rws X) + l.length := by rw [rws_append, totL_append]; simp [rws, totL]
    rw [this]
    omega
  | nil =>
    have e0 : X.length = N := by simpa using lR
    repeat' (first
      | refine AW.seq ?_
      | (refine AW.region ?_; conv => whnf)
      | refine AW.block ?_
      | (refine AW.skip ?_; conv => whnf)
      | (refine AW.ret ?_; conv => whnf)
      | (refine AW.exit ?_; conv => whnf)
      | refine AW.cond (by rfl) ?_
      | (refine (heldIntS_ok _ _ _ _ _ (by first | assumption | exact St.has (by assumption) (by repeat first | exact .head _ | apply List.Mem.tail) | exact St.arg (by assumption) (by assumption)) (by first | (simp; done) | omega | (simp only [List.length_set, List.length_append, List.length_cons, List.length_nil, List.length_replicate, tab_length]; omega) | (simp; omega)) (by first | (simp; done) | omega | (simp only [List.length_set, List.length_append, List.length_cons, List.length_nil, List.length_replicate, tab_length]; omega) | (simp; omega))).mono ?_; rintro v h' ⟨rfl, e'⟩; subst h'; conv => whnf)
      | (refine Br.tt ?_; conv => whnf)
      | (refine Br.ff ?_; conv => whnf)
      | refine Br.not ?_
      | (refine Br.t (beq_self_eq_true _) ?_; conv => whnf)
      | (refine Br.t (by assumption) ?_; conv => whnf)
      | (refine Br.f (by assumption) ?_; conv => whnf)
      | (refine Br.dt (by omega) ?_; conv => whnf)
      | (refine Br.df (by omega) ?_; conv => whnf)
      | (refine Br.it (by omega) ?_; conv => whnf)
      | (refine Br.if (by omega) ?_; conv => whnf)
      | (refine Br.nt (by omega) ?_; conv => whnf)
      | (refine Br.nf (by omega) ?_; conv => whnf)
      | (refine Br.dec (fun hc => ?_) (fun hc => ?_) <;> conv => whnf)
      | (refine Br.ieq (fun hc => ?_) (fun hc => ?_) <;> conv => whnf)
      | (refine Br.ine (fun hc => ?_) (fun hc => ?_) <;> conv => whnf)
      | (refine Br.mk (fun hc => ?_) (fun hc => ?_) <;> conv => whnf)
      | (refine Wr.i64 (by omega) ?_; conv => whnf)
      | (refine Ck.mk (by omega) ?_; conv => whnf)
      | (refine Wr.i64 (by simp only [List.length_drop, List.length_take, List.length_append, List.length_cons, List.length_nil]; omega) ?_; conv => whnf)
      | (refine Ck.mk (by simp only [List.length_drop, List.length_take, List.length_append, List.length_cons, List.length_nil]; omega) ?_; conv => whnf)
      | (refine Has.load1 (by first | assumption | exact St.has (by assumption) (by repeat first | exact .head _ | apply List.Mem.tail) | exact St.arg (by assumption) (by assumption)) ?_; conv => whnf)
      | (refine Ck.mk (by simp; omega) ?_; conv => whnf))
    exact ⟨by rw [List.append_nil], rfl⟩

theorem eqRows_ok (R S : RL) (f : List (List Int)) (b c N C D : Nat) (h0 : H) (hb : Grid h0 b R) (hc' : Grid h0 c S) (hR : rws R = f) (hS : rws S = f) (hN : N = f.length) (ht : totL f ≤ 2000000) (hl : f.length ≤ 2000000) : AC env 23 [.slice b 0 N C, .slice c 0 N D] h0 fun v h' => v = .bool true ∧ h' = h0 :=
  eqIntSS_ok R S f b c N C D h0 hb hc' hR hS hN (by omega) fun l hl => by have := totL_mem hl; omega



end Go.Proofs.Ytcepogfmajlcjaa
