/-
  The law of common diagonals is proved.
  It holds for all texts.
-/
import Derived.Test.YtbicfognbbeigaaGreatC37
import Derived.Test.YtbicfognbbeigaaGreatH11
set_option linter.unusedVariables false
set_option linter.unusedSimpArgs false
namespace Go.Proofs.YtbicfognbbeigaaGreat
open Go.Proofs.YtbicfognbbeigaaGreat.Ab Go.Proofs.YtbicfognbbeigaaGreat.Pl

/-! rows that two lists have in common -/
def cnt1 (d : List Int) (g : List (List Int)) : Nat := g.countP fun e => decide (d = e)
def com (f g : List (List Int)) : Nat := (f.map fun d => cnt1 d g).sum
theorem cnt1_le (d : List Int) (g : List (List Int)) : cnt1 d g ≤ g.length := List.countP_le_length
theorem cnt1_take {d : List Int} {g : List (List Int)} {k : Nat} (h : k < g.length) : cnt1 d (g.take (k + 1)) = cnt1 d (g.take k) + if d = g.getD k [] then 1 else 0 := by
  have e : g.getD k [] = g[k] := by simp [List.getD, h]
  rw [List.take_succ_eq_append_getElem h, e]
  unfold cnt1
  rw [List.countP_append]
  simp [List.countP_cons]
theorem com_take {f g : List (List Int)} {i : Nat} (h : i < f.length) : com (f.take (i + 1)) g = com (f.take i) g + cnt1 (f.getD i []) g := by
  have e : f.getD i [] = f[i] := by simp [List.getD, h]
  rw [List.take_succ_eq_append_getElem h, e]
  unfold com
  rw [List.map_append, List.sum_append]
  simp
theorem com_le (f g : List (List Int)) : com f g ≤ f.length * g.length := by
  unfold com
  induction f with
  | nil => simp
  | cons x f ih =>
    rw [List.map_cons, List.sum_cons, List.length_cons, Nat.add_mul]
    have := cnt1_le x g
    omega
theorem com_bd {f g : List (List Int)} (hf : f.length ≤ 8) (hg : g.length ≤ 8) : com f g ≤ 64 := Nat.le_trans (com_le f g) (Nat.mul_le_mul hf hg)
theorem two_eq {d e : List Int} (hd : d.length = 2) (he : e.length = 2) : d = e ↔ d.getD 0 0 = e.getD 0 0 ∧ d.getD 1 0 = e.getD 1 0 := by
  match d, e, hd, he with
  | [a, b], [c, x], _, _ => simp
def comF (a b : List UInt8) : Int := match treeOf a, treeOf b with
  | some x, some y => if x.size = y.size then (com (diagsT x) (diagsT y) : Nat) else -1
  | _, _ => -1

def alikeF (a b : List UInt8) (most : Int) : Bool := decide (0 ≤ sizeO (treeOf a) ∧ sizeO (treeOf a) ≤ most ∧ sizeO (treeOf a) = sizeO (treeOf b))
theorem alike_ok (a b : List UInt8) (most : Int) (h0 : H) : AC env 72 [.str a, .str b, .int .i64 most] h0 fun v h' => v = .bool (alikeF a b most) ∧ Keeps h0 h' := by
  have d : alikeF a b most = decide (0 ≤ sizeO (treeOf a) ∧ sizeO (treeOf a) ≤ most ∧ sizeO (treeOf a) = sizeO (treeOf b)) := rfl
  refine AC.enter Tryz.func72 Tryz.call72 rfl Tryz.ntmps72 (of_decide_eq_true (by rfl)) ?_
  repeat' (first
    | (refine (iNodesOf_ok a h0).mono ?_; rintro v h1 ⟨rfl, k1⟩; conv => whnf)
    | (refine (iNodesOf_ok b h1).mono ?_; rintro v h2 ⟨rfl, k2⟩; conv => whnf)
    | refine AW.seq ?_
    | (refine AW.region ?_; conv => whnf)
    | (refine AW.ret ?_; conv => whnf)
    | (refine Br.ff ?_; conv => whnf)
    | (refine Br.dt (by omega) ?_; conv => whnf)
    | (refine Br.df (by omega) ?_; conv => whnf)
    | (refine Br.dec (fun hc => ?_) (fun hc => ?_) <;> conv => whnf))
  all_goals first
    | exact ⟨by rw [d]; congr 1; first | (rw [decide_eq_false (by omega)]; done) | (rw [decide_eq_true (by omega)]; done) | (rw [Bool.eq_iff_iff, beq_iff_eq, decide_eq_true_iff]; omega), k1.trans k2⟩
    | exact ⟨by rw [d]; congr 1; first | (rw [decide_eq_false (by omega)]; done) | (rw [decide_eq_true (by omega)]; done), k1⟩

set_option maxHeartbeats 2000000 in
theorem iCommon_ok (a b : List UInt8) (h0 : H) : AC env 33 [.str a, .str b] h0 fun v h' => v = .int .i64 (comF a b) ∧ Keeps h0 h' := by
  cases ea : treeOf a with
  | none =>
    have ef : comF a b = -1 := by unfold comF; rw [ea]
    have al : alikeF a b 8 = false := by unfold alikeF; rw [ea]; rfl
    refine AC.enter Tryz.func33 Tryz.call33 rfl Tryz.ntmps33 (of_decide_eq_true (by rfl)) ?_
    repeat' (first
      | (refine (alike_ok a b _ _).mono ?_; rw [al]; rintro v h1 ⟨rfl, k1⟩; conv => whnf)
      | refine AW.seq ?_
      | (refine AW.region ?_; conv => whnf)
      | (refine AW.ret ?_; conv => whnf)
      | refine AW.cond (by rfl) ?_
      | (refine Br.tt ?_; conv => whnf))
    exact ⟨by rw [ef], k1⟩
  | some x =>
    cases eb : treeOf b with
    | none =>
      have ef : comF a b = -1 := by unfold comF; rw [ea, eb]
      have al : alikeF a b 8 = false := by
        unfold alikeF
        rw [ea, eb]
        refine decide_eq_false ?_
        unfold sizeO
        simp only
        omega
      refine AC.enter Tryz.func33 Tryz.call33 rfl Tryz.ntmps33 (of_decide_eq_true (by rfl)) ?_
      repeat' (first
        | (refine (alike_ok a b _ _).mono ?_; rw [al]; rintro v h1 ⟨rfl, k1⟩; conv => whnf)
        | refine AW.seq ?_
        | (refine AW.region ?_; conv => whnf)
        | (refine AW.ret ?_; conv => whnf)
        | refine AW.cond (by rfl) ?_
        | (refine Br.tt ?_; conv => whnf))
      exact ⟨by rw [ef], k1⟩
    | some y =>
      have zx := (treeOf_some ea).2
      have zy := (treeOf_some eb).2
      have ad : alikeF a b 8 = decide (0 ≤ ((x.size : Nat) : Int) ∧ ((x.size : Nat) : Int) ≤ 8 ∧ ((x.size : Nat) : Int) = (y.size : Nat)) := by unfold alikeF; rw [ea, eb]; rfl
      have ef : comF a b = if x.size = y.size then ((com (diagsT x) (diagsT y) : Nat) : Int) else (-1 : Int) := by unfold comF; rw [ea, eb]
      by_cases q : x.size = y.size
      · rw [decide_eq_true (by omega)] at ad
        rw [if_pos q] at ef
        have ta : triOfS a = (diagsT x, true) := by unfold triOfS; rw [ea]
        have tb : triOfS b = (diagsT y, true) := by unfold triOfS; rw [eb]
        have lx := diagsT_len x
        have ly := diagsT_len y
        have dx := diagsT_two x
        have dy := diagsT_two y
        generalize diagsT x = f at *
        generalize diagsT y = g at *
        have cb := com_bd (f := f) (g := g) (by omega) (by omega)
        refine AC.enter Tryz.func33 Tryz.call33 rfl Tryz.ntmps33 (of_decide_eq_true (by rfl)) ?_
        repeat' (first
          | (refine (alike_ok a b _ _).mono ?_; rw [ad]; rintro v h1 ⟨rfl, k1⟩; conv => whnf)
          | (refine (iTriOf_ok a h1).mono ?_; rw [ta]; rintro v h2 ⟨b1, C1, R1, rfl, hR1, lR1, hs1⟩; have lR1 : List.length R1 = f.length := lR1; have hR1 : rws R1 = f := hR1; conv => whnf)
          | (refine (iTriOf_ok b h2).mono ?_; rw [tb]; rintro v h3 ⟨b2, C2, R2, rfl, hR2, lR2, hs2⟩; have lR2 : List.length R2 = g.length := lR2; have hR2 : rws R2 = g := hR2; conv => whnf)
          | refine AW.seq ?_
          | (refine AW.region ?_; conv => whnf)
          | refine AW.block ?_
          | (refine AW.skip ?_; conv => whnf)
          | refine AW.cond (by rfl) ?_
          | (refine Br.ff ?_; conv => whnf))
        have k3 := (k1.trans hs1.keeps).trans hs2.keeps
        have g1 : Grid h3 b1 R1 := (St.rows hs1).keep hs2.keeps
        have g2 : Grid h3 b2 R2 := St.rows hs2
        refine AW.loop2 (fun (i c : Nat) => [(7, .slice b2 0 g.length C2), (9, .int .i64 c), (28, .slice b1 0 f.length C1), (29, .int .i64 f.length), (30, .int .i64 i)]) (fun i c h' => i ≤ f.length ∧ c = com (f.take i) g ∧ h' = h3) (fun i _ => f.length - i) 0 0
          (Less.cons rfl (Less.cons rfl (Less.cons rfl (Less.cons rfl (Less.cons rfl (Less.nil _)))))) ⟨by omega, rfl, rfl⟩ ?_
        rintro i c h4 ⟨hi, hc0, rfl⟩
        have cp := com_bd (f := f.take i) (g := g) (by simp; omega) (by omega)
        by_cases hlt : i < f.length
        · have cs := com_take (g := g) hlt
          have d2 : (f.getD i []).length = 2 := dx _ (by rw [show f.getD i [] = f[i] by simp [List.getD, hlt]]; exact List.getElem_mem hlt)
          have hx : Has h4 (rb R1 i) (ints (f.getD i [] ++ [])) := by rw [List.append_nil, rws_at hR1 i]; exact g1.at (by omega)
          repeat' (first
            | (refine Grid.rowAt g1 hR1 i rfl (by omega) (by omega) d2 ?_; conv => whnf)
            | refine AW.seq ?_
            | (refine AW.region ?_; conv => whnf)
            | refine AW.block ?_
            | (refine AW.skip ?_; conv => whnf)
            | refine AW.cond (by rfl) ?_
            | (refine Br.dt (by omega) ?_; conv => whnf)
            | (refine Ck.mk (by omega) ?_; conv => whnf))
          refine AW.loop2 (fun (k e : Nat) => [(7, .slice b2 0 g.length C2), (9, .int .i64 e), (28, .slice b1 0 f.length C1), (29, .int .i64 f.length), (30, .int .i64 i), (11, .slice (rb R1 i) 0 2 2), (34, .slice b2 0 g.length C2), (35, .int .i64 g.length), (36, .int .i64 k)]) (fun k e h' => k ≤ g.length ∧ e = c + cnt1 (f.getD i []) (g.take k) ∧ h' = h4) (fun k _ => g.length - k) 0 c
            (Less.cons rfl (Less.cons rfl (Less.cons rfl (Less.cons rfl (Less.cons rfl (Less.cons rfl (Less.cons rfl (Less.cons rfl (Less.cons rfl (Less.nil _)))))))))) ⟨by omega, rfl, rfl⟩ ?_
          rintro k e h5 ⟨hk, he, rfl⟩
          have cl := cnt1_le (f.getD i []) (g.take k)
          have tl : (g.take k).length ≤ g.length := List.length_take_le' _ _
          by_cases hlt2 : k < g.length
          · have ct := cnt1_take (d := f.getD i []) hlt2
            have e2 : (g.getD k []).length = 2 := dy _ (by rw [show g.getD k [] = g[k] by simp [List.getD, hlt2]]; exact List.getElem_mem hlt2)
            have hy : Has h5 (rb R2 k) (ints (g.getD k [])) := by rw [rws_at hR2 k]; exact g2.at (by omega)
            by_cases q2 : f.getD i [] = g.getD k []
            · rw [if_pos q2] at ct
              have dq := decide_eq_true q2
              repeat' (first
                | (refine Grid.rowAt g2 hR2 k rfl (by omega) (by omega) e2 ?_; conv => whnf)
                | (refine (equalInts_ok (f.getD i []) [] (g.getD k []) _ _ 2 _ 2 _ _ hx hy d2.symm e2.symm (by omega) (by omega)).mono ?_; rw [dq]; rintro v h' ⟨rfl, e'⟩; subst h'; conv => whnf)
                | refine AW.seq ?_
                | (refine AW.region ?_; conv => whnf)
                | refine AW.block ?_
                | (refine AW.skip ?_; conv => whnf)
                | refine AW.cond (by rfl) ?_
                | (refine Br.tt ?_; conv => whnf)
                | (refine Br.dt (by omega) ?_; conv => whnf)
                | (refine Wr.i64 (by omega) ?_; conv => whnf)
                | (refine Ck.mk (by omega) ?_; conv => whnf))
              exact ⟨k + 1, e + 1, (Less.cons rfl (Less.cons rfl (Less.cons rfl (Less.cons rfl (Less.cons rfl (Less.cons rfl (Less.cons rfl (Less.cons rfl (Less.cons rfl (Less.nil _)))))))))), ⟨by omega, by omega, rfl⟩, by omega⟩
            · rw [if_neg q2] at ct
              have dq := decide_eq_false q2
              repeat' (first
                | (refine Grid.rowAt g2 hR2 k rfl (by omega) (by omega) e2 ?_; conv => whnf)
                | (refine (equalInts_ok (f.getD i []) [] (g.getD k []) _ _ 2 _ 2 _ _ hx hy d2.symm e2.symm (by omega) (by omega)).mono ?_; rw [dq]; rintro v h' ⟨rfl, e'⟩; subst h'; conv => whnf)
                | refine AW.seq ?_
                | (refine AW.region ?_; conv => whnf)
                | refine AW.block ?_
                | (refine AW.skip ?_; conv => whnf)
                | refine AW.cond (by rfl) ?_
                | (refine Br.ff ?_; conv => whnf)
                | (refine Br.dt (by omega) ?_; conv => whnf)
                | (refine Wr.i64 (by omega) ?_; conv => whnf)
                | (refine Ck.mk (by omega) ?_; conv => whnf))
              exact ⟨k + 1, e, (Less.cons rfl (Less.cons rfl (Less.cons rfl (Less.cons rfl (Less.cons rfl (Less.cons rfl (Less.cons rfl (Less.cons rfl (Less.cons rfl (Less.nil _)))))))))), ⟨by omega, by omega, rfl⟩, by omega⟩
          · obtain rfl : k = g.length := by omega
            rw [List.take_length] at he
            repeat' (first
              | refine AW.seq ?_
              | (refine AW.region ?_; conv => whnf)
              | (refine AW.exit ?_; conv => whnf)
              | refine AW.cond (by rfl) ?_
              | (refine Br.df (by omega) ?_; conv => whnf)
              | (refine Wr.i64 (by omega) ?_; conv => whnf))
            exact ⟨i + 1, e, (Less.cons rfl (Less.cons rfl (Less.cons rfl (Less.cons rfl (Less.cons rfl (Less.nil _)))))), ⟨by omega, by omega, rfl⟩, by omega⟩
        · obtain rfl : i = f.length := by omega
          rw [List.take_length] at hc0
          repeat' (first
            | refine AW.seq ?_
            | (refine AW.region ?_; conv => whnf)
            | (refine AW.ret ?_; conv => whnf)
            | (refine AW.exit ?_; conv => whnf)
            | refine AW.cond (by rfl) ?_
            | (refine Br.df (by omega) ?_; conv => whnf))
          exact ⟨by rw [ef, hc0], k3⟩
      · rw [decide_eq_false (by omega)] at ad
        rw [if_neg q] at ef
        refine AC.enter Tryz.func33 Tryz.call33 rfl Tryz.ntmps33 (of_decide_eq_true (by rfl)) ?_
        repeat' (first
          | (refine (alike_ok a b _ _).mono ?_; rw [ad]; rintro v h1 ⟨rfl, k1⟩; conv => whnf)
          | refine AW.seq ?_
          | (refine AW.region ?_; conv => whnf)
          | (refine AW.ret ?_; conv => whnf)
          | refine AW.cond (by rfl) ?_
          | (refine Br.tt ?_; conv => whnf))
        exact ⟨by rw [ef], k1⟩

set_option maxHeartbeats 2000000 in
theorem sCommon_ok (a b : List UInt8) (h0 : H) : AC env 43 [.str a, .str b] h0 fun v h' => v = .int .i64 (comF a b) ∧ Keeps h0 h' := by
  cases ea : treeOf a with
  | none =>
    have ef : comF a b = -1 := by unfold comF; rw [ea]
    have ta : triOfS a = ([], false) := by unfold triOfS; rw [ea]
    refine AC.enter Tryz.func43 Tryz.call43 rfl Tryz.ntmps43 (of_decide_eq_true (by rfl)) ?_
    repeat' (first
      | (refine (sTriOf_ok a h0).mono ?_; rw [ta]; rintro v h2 ⟨b1, C1, R1, rfl, hR1, lR1, hs1⟩; conv => whnf)
      | (refine (sTriOf_ok b h2).mono ?_; rintro v h3 ⟨b2, C2, R2, rfl, hR2, lR2, hs2⟩; conv => whnf)
      | refine AW.seq ?_
      | (refine AW.region ?_; conv => whnf)
      | (refine AW.ret ?_; conv => whnf)
      | refine AW.cond (by rfl) ?_
      | (refine Br.tt ?_; conv => whnf))
    exact ⟨by rw [ef], hs1.keeps.trans hs2.keeps⟩
  | some x =>
    have ta : triOfS a = (diagsT x, true) := by unfold triOfS; rw [ea]
    cases eb : treeOf b with
    | none =>
      have ef : comF a b = -1 := by unfold comF; rw [ea, eb]
      have tb : triOfS b = ([], false) := by unfold triOfS; rw [eb]
      refine AC.enter Tryz.func43 Tryz.call43 rfl Tryz.ntmps43 (of_decide_eq_true (by rfl)) ?_
      repeat' (first
        | (refine (sTriOf_ok a h0).mono ?_; rw [ta]; rintro v h2 ⟨b1, C1, R1, rfl, hR1, lR1, hs1⟩; conv => whnf)
        | (refine (sTriOf_ok b h2).mono ?_; rw [tb]; rintro v h3 ⟨b2, C2, R2, rfl, hR2, lR2, hs2⟩; conv => whnf)
        | refine AW.seq ?_
        | (refine AW.region ?_; conv => whnf)
        | (refine AW.ret ?_; conv => whnf)
        | refine AW.cond (by rfl) ?_
        | (refine Br.tt ?_; conv => whnf)
        | (refine Br.ff ?_; conv => whnf))
      exact ⟨by rw [ef], hs1.keeps.trans hs2.keeps⟩
    | some y =>
      obtain ⟨sx, zx⟩ := treeOf_some ea
      obtain ⟨sy, zy⟩ := treeOf_some eb
      have tb : triOfS b = (diagsT y, true) := by unfold triOfS; rw [eb]
      have ef : comF a b = if x.size = y.size then ((com (diagsT x) (diagsT y) : Nat) : Int) else (-1 : Int) := by unfold comF; rw [ea, eb]
      have la := x.txt_length
      have lb := y.txt_length
      rw [← sx] at la
      rw [← sy] at lb
      by_cases q : x.size = y.size
      · rw [if_pos q] at ef
        have lx := diagsT_len x
        have ly := diagsT_len y
        have dx := diagsT_two x
        have dy := diagsT_two y
        generalize diagsT x = f at *
        generalize diagsT y = g at *
        have cb := com_bd (f := f) (g := g) (by omega) (by omega)
        refine AC.enter Tryz.func43 Tryz.call43 rfl Tryz.ntmps43 (of_decide_eq_true (by rfl)) ?_
        repeat' (first
          | (refine (sTriOf_ok a h0).mono ?_; rw [ta]; rintro v h2 ⟨b1, C1, R1, rfl, hR1, lR1, hs1⟩; have lR1 : List.length R1 = f.length := lR1; have hR1 : rws R1 = f := hR1; conv => whnf)
          | (refine (sTriOf_ok b h2).mono ?_; rw [tb]; rintro v h3 ⟨b2, C2, R2, rfl, hR2, lR2, hs2⟩; have lR2 : List.length R2 = g.length := lR2; have hR2 : rws R2 = g := hR2; conv => whnf)
          | refine AW.seq ?_
          | (refine AW.region ?_; conv => whnf)
          | refine AW.block ?_
          | (refine AW.skip ?_; conv => whnf)
          | refine AW.cond (by rfl) ?_
          | (refine Br.ff ?_; conv => whnf)
          | refine Br.not ?_
          | (refine Br.dt (by omega) ?_; conv => whnf))
        have k3 := hs1.keeps.trans hs2.keeps
        have g1 : Grid h3 b1 R1 := (St.rows hs1).keep hs2.keeps
        have g2 : Grid h3 b2 R2 := St.rows hs2
        refine AW.loop2 (fun (i c : Nat) => [(5, .slice b1 0 f.length C1), (7, .slice b2 0 g.length C2), (9, .int .i64 c), (10, .int .i64 i)]) (fun i c h' => i ≤ f.length ∧ c = com (f.take i) g ∧ h' = h3) (fun i _ => f.length - i) 0 0
          (Less.cons rfl (Less.cons rfl (Less.cons rfl (Less.cons rfl (Less.nil _))))) ⟨by omega, rfl, rfl⟩ ?_
        rintro i c h4 ⟨hi, hc0, rfl⟩
        have cp := com_bd (f := f.take i) (g := g) (by simp; omega) (by omega)
        by_cases hlt : i < f.length
        · have cs := com_take (g := g) hlt
          have d2 : (f.getD i []).length = 2 := dx _ (by rw [show f.getD i [] = f[i] by simp [List.getD, hlt]]; exact List.getElem_mem hlt)
          repeat' (first
            | refine AW.seq ?_
            | (refine AW.region ?_; conv => whnf)
            | refine AW.block ?_
            | (refine AW.skip ?_; conv => whnf)
            | refine AW.cond (by rfl) ?_
            | (refine Br.dt (by omega) ?_; conv => whnf))
          refine AW.loop2 (fun (k e : Nat) => [(5, .slice b1 0 f.length C1), (7, .slice b2 0 g.length C2), (9, .int .i64 e), (10, .int .i64 i), (11, .int .i64 k)]) (fun k e h' => k ≤ g.length ∧ e = c + cnt1 (f.getD i []) (g.take k) ∧ h' = h4) (fun k _ => g.length - k) 0 c
            (Less.cons rfl (Less.cons rfl (Less.cons rfl (Less.cons rfl (Less.cons rfl (Less.nil _)))))) ⟨by omega, rfl, rfl⟩ ?_
          rintro k e h5 ⟨hk, he, rfl⟩
          have cl := cnt1_le (f.getD i []) (g.take k)
          have tl : (g.take k).length ≤ g.length := List.length_take_le' _ _
          by_cases hlt2 : k < g.length
          · have ct := cnt1_take (d := f.getD i []) hlt2
            have e2 : (g.getD k []).length = 2 := dy _ (by rw [show g.getD k [] = g[k] by simp [List.getD, hlt2]]; exact List.getElem_mem hlt2)
            have te : f.getD i [] = g.getD k [] ↔ ent f i 0 = ent g k 0 ∧ ent f i 1 = ent g k 1 := two_eq d2 e2
            by_cases q2 : f.getD i [] = g.getD k []
            · rw [if_pos q2] at ct
              have te := te.1 q2
              repeat' (first
                | (refine Grid.rowAt g1 hR1 i rfl (by omega) (by omega) d2 ?_; conv => whnf)
                | (refine Grid.rowAt g2 hR2 k rfl (by omega) (by omega) e2 ?_; conv => whnf)
                | (refine Grid.numAt g1 hR1 i 0 rfl rfl (by omega) (by omega) ?_; conv => whnf)
                | (refine Grid.numAt g1 hR1 i 1 rfl rfl (by omega) (by omega) ?_; conv => whnf)
                | (refine Grid.numAt g2 hR2 k 0 rfl rfl (by omega) (by omega) ?_; conv => whnf)
                | (refine Grid.numAt g2 hR2 k 1 rfl rfl (by omega) (by omega) ?_; conv => whnf)
                | refine AW.seq ?_
                | (refine AW.region ?_; conv => whnf)
                | refine AW.block ?_
                | (refine AW.skip ?_; conv => whnf)
                | refine AW.cond (by rfl) ?_
                | (refine AW.draw (id := 12) (.p 0 (.p 1 (.p 2 (.p 6 (.p 7 (.p 8 (.r 3 [4, 5, 12, 13, 14, 15, 16, 17, 18, 19, 20, 21, 22, 23, 24, 25, 26, 27] (.p 4 (.r 5 [12, 13, 14, 15, 16, 17, 18, 19, 20, 21, 22, 23, 24, 25, 26, 27] (.r 9 [10, 11, 12, 13, 14, 15, 16, 17, 18, 19, 20, 21, 22, 23, 24, 25, 26, 27] (.p 10 (.r 11 [12, 13, 14, 15, 16, 17, 18, 19, 20, 21, 22, 23, 24, 25, 26, 27] (.p 12 (.p 13 (.p 14 (.p 15 (.p 16 (.p 20 (.p 21 (.p 22 (.r 17 [18, 19, 26, 27] (.p 18 (.r 19 [26, 27] (.r 23 [24, 25, 26, 27] (.p 24 (.r 25 [26, 27] (.p 26 (.p 27 .done)))))))))))))))))))))))))))) (by kernel_rfl) (by kernel_rfl) ?_; conv => whnf)
                | (refine Br.dt (by omega) ?_; conv => whnf)
                | (refine Wr.i64 (by omega) ?_; conv => whnf)
                | (refine Ck.mk (by omega) ?_; conv => whnf))
              all_goals exact ⟨k + 1, e + 1, (Less.cons rfl (Less.cons rfl (Less.cons rfl (Less.cons rfl (Less.cons rfl (Less.nil _)))))), ⟨by omega, by omega, rfl⟩, by omega⟩
            · rw [if_neg q2] at ct
              have te := mt te.2 q2
              repeat' (first
                | (refine Grid.rowAt g1 hR1 i rfl (by omega) (by omega) d2 ?_; conv => whnf)
                | (refine Grid.rowAt g2 hR2 k rfl (by omega) (by omega) e2 ?_; conv => whnf)
                | (refine Grid.numAt g1 hR1 i 0 rfl rfl (by omega) (by omega) ?_; conv => whnf)
                | (refine Grid.numAt g1 hR1 i 1 rfl rfl (by omega) (by omega) ?_; conv => whnf)
                | (refine Grid.numAt g2 hR2 k 0 rfl rfl (by omega) (by omega) ?_; conv => whnf)
                | (refine Grid.numAt g2 hR2 k 1 rfl rfl (by omega) (by omega) ?_; conv => whnf)
                | refine AW.seq ?_
                | (refine AW.region ?_; conv => whnf)
                | refine AW.block ?_
                | (refine AW.skip ?_; conv => whnf)
                | refine AW.cond (by rfl) ?_
                | (refine AW.draw (id := 12) (.p 0 (.p 1 (.p 2 (.p 6 (.p 7 (.p 8 (.r 3 [4, 5, 12, 13, 14, 15, 16, 17, 18, 19, 20, 21, 22, 23, 24, 25, 26, 27] (.p 4 (.r 5 [12, 13, 14, 15, 16, 17, 18, 19, 20, 21, 22, 23, 24, 25, 26, 27] (.r 9 [10, 11, 12, 13, 14, 15, 16, 17, 18, 19, 20, 21, 22, 23, 24, 25, 26, 27] (.p 10 (.r 11 [12, 13, 14, 15, 16, 17, 18, 19, 20, 21, 22, 23, 24, 25, 26, 27] (.p 12 (.p 13 (.p 14 (.p 15 (.p 16 (.p 20 (.p 21 (.p 22 (.r 17 [18, 19, 26, 27] (.p 18 (.r 19 [26, 27] (.r 23 [24, 25, 26, 27] (.p 24 (.r 25 [26, 27] (.p 26 (.p 27 .done)))))))))))))))))))))))))))) (by kernel_rfl) (by kernel_rfl) ?_; conv => whnf)
                | (refine Br.ff ?_; conv => whnf)
                | (refine Br.dt (by omega) ?_; conv => whnf)
                | (refine Br.df (by omega) ?_; conv => whnf)
                | (refine Br.dec (fun hc => ?_) (fun hc => ?_) <;> conv => whnf)
                | (refine Wr.i64 (by omega) ?_; conv => whnf)
                | (refine Ck.mk (by omega) ?_; conv => whnf))
              all_goals exact ⟨k + 1, e, (Less.cons rfl (Less.cons rfl (Less.cons rfl (Less.cons rfl (Less.cons rfl (Less.nil _)))))), ⟨by omega, by omega, rfl⟩, by omega⟩
          · obtain rfl : k = g.length := by omega
            rw [List.take_length] at he
            repeat' (first
              | refine AW.seq ?_
              | (refine AW.region ?_; conv => whnf)
              | (refine AW.exit ?_; conv => whnf)
              | refine AW.cond (by rfl) ?_
              | (refine Br.df (by omega) ?_; conv => whnf)
              | (refine Wr.i64 (by omega) ?_; conv => whnf))
            exact ⟨i + 1, e, (Less.cons rfl (Less.cons rfl (Less.cons rfl (Less.cons rfl (Less.nil _))))), ⟨by omega, by omega, rfl⟩, by omega⟩
        · obtain rfl : i = f.length := by omega
          rw [List.take_length] at hc0
          repeat' (first
            | refine AW.seq ?_
            | (refine AW.region ?_; conv => whnf)
            | (refine AW.ret ?_; conv => whnf)
            | (refine AW.exit ?_; conv => whnf)
            | refine AW.cond (by rfl) ?_
            | (refine Br.df (by omega) ?_; conv => whnf))
          exact ⟨by rw [ef, hc0], k3⟩
      · rw [if_neg q] at ef
        refine AC.enter Tryz.func43 Tryz.call43 rfl Tryz.ntmps43 (of_decide_eq_true (by rfl)) ?_
        repeat' (first
          | (refine (sTriOf_ok a h0).mono ?_; rw [ta]; rintro v h2 ⟨b1, C1, R1, rfl, hR1, lR1, hs1⟩; conv => whnf)
          | (refine (sTriOf_ok b h2).mono ?_; rw [tb]; rintro v h3 ⟨b2, C2, R2, rfl, hR2, lR2, hs2⟩; conv => whnf)
          | refine AW.seq ?_
          | (refine AW.region ?_; conv => whnf)
          | (refine AW.ret ?_; conv => whnf)
          | refine AW.cond (by rfl) ?_
          | (refine Br.ff ?_; conv => whnf)
          | refine Br.not ?_
          | (refine Br.df (by omega) ?_; conv => whnf))
        exact ⟨by rw [ef], hs1.keeps.trans hs2.keeps⟩


end Go.Proofs.YtbicfognbbeigaaGreat
