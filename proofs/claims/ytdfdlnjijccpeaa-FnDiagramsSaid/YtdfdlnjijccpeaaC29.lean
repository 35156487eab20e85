/-
  Contracts of the matching of a path are proved.
  They hold for all paths for which the two ways agree.
-/
import Derived.Test.YtdfdlnjijccpeaaC28
import Derived.Test.YtdfdlnjijccpeaaGY
set_option linter.unusedVariables false
set_option linter.unusedSimpArgs false
namespace Go.Proofs.Ytdfdlnjijccpeaa
open Go.Proofs.Ytdfdlnjijccpeaa.Ab Go.Proofs.Ytdfdlnjijccpeaa.Pl

def isU (x : UInt8) : Bool := x.toNat == 117
/-- the letter that belongs to one, onward -/
def scF (w : List UInt8) : Nat → Nat → Int → Option Nat
  | 0, _, _ => none
  | f + 1, k, h => if (if ((w.getD k 0).toNat : Int) = 117 then h + 1 else h - 1) = 0 then some k else scF w f (k + 1) (if ((w.getD k 0).toNat : Int) = 117 then h + 1 else h - 1)
/-- and backward -/
def scB (w : List UInt8) : Nat → Int → Option Nat
  | 0, _ => none
  | f + 1, h => if (if ((w.getD f 0).toNat : Int) = 100 then h + 1 else h - 1) = 0 then some f else scB w f (if ((w.getD f 0).toNat : Int) = 100 then h + 1 else h - 1)
def pt (w : List UInt8) (i : Nat) : Option Nat := if ((w.getD i 0).toNat : Int) = 117 then scF w (w.length - i) i 0 else scB w (i + 1) 0

/-- the open letters and the pairs so far -/
def stI (w : List UInt8) : Nat → Option (List Int × List Int)
  | 0 => some ([], List.replicate w.length 0)
  | k + 1 => match stI w k with
    | none => none
    | some (o, l) => if ((w.getD k 0).toNat : Int) = 117 then some (o ++ [(k : Int)], l) else if o.length = 0 then none else some (o.take (o.length - 1), (l.set k (o.getD (o.length - 1) 0)).set (o.getD (o.length - 1) 0).toNat k)
theorem stI_u {w : List UInt8} {k : Nat} {o l : List Int} (e : stI w k = some (o, l)) (h : ((w.getD k 0).toNat : Int) = 117) : stI w (k + 1) = some (o ++ [(k : Int)], l) := by
  simp only [stI, e, if_pos h]
theorem stI_d {w : List UInt8} {k : Nat} {o l : List Int} (e : stI w k = some (o, l)) (h : ¬ ((w.getD k 0).toNat : Int) = 117) (h2 : o.length ≠ 0) : stI w (k + 1) = some (o.take (o.length - 1), (l.set k (o.getD (o.length - 1) 0)).set (o.getD (o.length - 1) 0).toNat k) := by
  simp only [stI, e, if_neg h, if_neg h2]
theorem stI_e {w : List UInt8} {k : Nat} {o l : List Int} (e : stI w k = some (o, l)) (h : ¬ ((w.getD k 0).toNat : Int) = 117) (h2 : o.length = 0) : stI w (k + 1) = none := by
  simp only [stI, e, if_neg h, if_pos h2]
theorem stI_none {w : List UInt8} {k : Nat} (e : stI w k = none) : ∀ j, k ≤ j → stI w j = none := by
  intro j hj
  induction j with
  | zero => rw [← e, show k = 0 by omega]
  | succ j ih =>
    by_cases h : k = j + 1
    · rw [← h, e]
    · simp only [stI, ih (by omega)]
theorem stI_in {w : List UInt8} : ∀ k o l, k ≤ w.length → stI w k = some (o, l) → l.length = w.length ∧ o.length ≤ k ∧ ∀ i, i < o.length → 0 ≤ o.getD i 0 ∧ o.getD i 0 < k := by
  intro k
  induction k with
  | zero =>
    intro o l _ e
    simp only [stI] at e
    injection e with e
    injection e with e1 e2
    subst e1 e2
    exact ⟨by simp, by simp, fun i hi => by simp at hi⟩
  | succ k ih =>
    intro o l hk e
    cases e1 : stI w k with
    | none => simp only [stI, e1] at e; cases e
    | some p =>
      obtain ⟨o', l'⟩ := p
      obtain ⟨g1, g2, g3⟩ := ih o' l' (by omega) e1
      by_cases h : ((w.getD k 0).toNat : Int) = 117
      · rw [stI_u e1 h] at e
        injection e with e
        injection e with e2 e3
        subst e2 e3
        refine ⟨g1, by simp; omega, fun i hi => ?_⟩
        simp only [List.length_append, List.length_cons, List.length_nil] at hi
        by_cases c : i < o'.length
        · have := g3 i c
          have e4 : (o' ++ [(k : Int)]).getD i 0 = o'.getD i 0 := by simp [List.getD, List.getElem?_append_left c]
          rw [e4]
          omega
        · have e4 : (o' ++ [(k : Int)]).getD i 0 = k := by
            rw [show i = o'.length by omega]
            simp [List.getD]
          rw [e4]
          omega
      · by_cases h2 : o'.length = 0
        · rw [stI_e e1 h h2] at e
          cases e
        · rw [stI_d e1 h h2] at e
          injection e with e
          injection e with e2 e3
          subst e2 e3
          refine ⟨by simp [g1], by simp; omega, fun i hi => ?_⟩
          simp only [List.length_take] at hi
          have := g3 i (by omega)
          have e4 : (o'.take (o'.length - 1)).getD i 0 = o'.getD i 0 := by rw [List.getD, List.getD, List.getElem?_take, if_pos (by omega)]
          rw [e4]
          omega

set_option maxHeartbeats 1000000 in
theorem partners_ok (w : List UInt8) (oE lE : List Int) (h0 : H) (hst : stI w w.length = some (oE, lE)) (hw : w.length ≤ 1000) : AC env 143 [.str w] h0 fun v h' => ∃ b, v = .slice b 0 w.length w.length ∧ New h0 h' b (ints lE) := by
  have hs := St.refl h0
  refine AC.enter Try.func143 Try.call143 rfl Try.ntmps143 (of_decide_eq_true (by rfl)) ?_
  repeat' (first
    | (refine NewG.stZ hs rfl (fun bo h' hsA => ?_); conv => whnf)
    | refine AW.seq ?_
    | (refine AW.region ?_; conv => whnf)
    | refine AW.block ?_
    | (refine Ck.slice (by omega) (by omega) (by omega) (by decide) ?_; conv => whnf)
    | (refine NewG.st (by assumption) (fun bt h' hs' => ?_); conv => whnf))
  refine AW.loop4 (fun (b m C k : Nat) => [(0, .str w), (3, .slice bo 0 w.length w.length), (4, .slice b 0 m C), (5, .int .i64 k)])
    (fun b m C k h' => k ≤ w.length ∧ m ≤ C ∧ ∃ o l cs, o.length = m ∧ stI w k = some (o, l) ∧ cs.take m = ints o ∧ m ≤ cs.length ∧ cs.length ≤ k ∧ St h0 h' [(b, row cs), (bo, row (ints l))]) (fun _ _ _ k => w.length - k) bt 0 0 0
    (Less.cons rfl (Less.cons rfl (Less.cons rfl (Less.cons rfl (Less.nil _))))) ⟨by omega, by omega, [], _, [], rfl, rfl, rfl, by simp, by simp, hs'⟩ ?_
  rintro b m C k h1 ⟨hk, hmC, o, l, cs, rfl, est, etk, hmc, hck, hs1⟩
  clear hs hsA hs'
  obtain ⟨g1, g2, g3⟩ := stI_in k o l hk est
  by_cases hlt : k < w.length
  · by_cases hu : ((w.getD k 0).toNat : Int) = 117
    · have hu' : ((w.getD (k : Int).toNat 0).toNat : Int) = 117 := hu
      repeat' (first
        | (refine NewG.st hs1 (fun bt h' hs2 => ?_); conv => whnf)
        | (refine AppG.stT hs2 (fun b' => .there .here) (by omega) (by omega) (by decide) rfl (fun b' h' hs3 => ?_); conv => whnf)
        | refine AW.seq ?_
        | (refine AW.region ?_; conv => whnf)
        | refine AW.block ?_
        | (refine AW.skip ?_; conv => whnf)
        | (refine AW.exit ?_; conv => whnf)
        | refine AW.cond (by rfl) ?_
        | (refine Br.dt (by omega) ?_; conv => whnf)
        | (refine Wr.i64 (by omega) ?_; conv => whnf)
        | (refine Ck.mk (by omega) ?_; conv => whnf)
        | (refine LoadsG.has (by first | assumption | exact St.has (by assumption) (by repeat first | exact .head _ | apply List.Mem.tail) | exact St.arg (by assumption) (by assumption)) (by simp) ?_; conv => whnf))
      refine ⟨b', _, _, k + 1, (Less.cons rfl (Less.cons rfl (Less.cons rfl (Less.cons rfl (Less.nil _))))), ⟨by omega, by omega, o ++ [(k : Int)], l, cs.take o.length ++ [.int .i64 k], by simp, stI_u est hu, ?_, by simp; omega, by simp; omega, hs3.tail⟩, by omega⟩
      rw [etk, ints_append, List.take_of_length_le (by simp)]
      rfl
    · have hu' : ¬ ((w.getD (k : Int).toNat 0).toNat : Int) = 117 := hu
      by_cases h2 : o.length = 0
      · have := stI_none (stI_e est hu h2) w.length (by omega)
        rw [this] at hst
        cases hst
      · have g4 := g3 (o.length - 1) (by omega)
        have hcs : cs[((o.length : Nat) : Int).toNat - 1]? = some (.int .i64 (o.getD (o.length - 1) 0)) := by
          have e3 := ints_get o (o.length - 1) (by omega)
          rw [← etk, List.getElem?_take, if_pos (by omega)] at e3
          exact e3
        have hcs' : cs[(((o.length : Nat) : Int) - 1).toNat]? = some (.int .i64 (o.getD (o.length - 1) 0)) := by
          rw [show (((o.length : Nat) : Int) - 1).toNat = o.length - 1 by omega]
          exact hcs
        repeat' (first
          | (refine Has.loadAt (hs1.has (.head _)) rfl hcs' ?_; conv => whnf)
          | (refine StoreG.stZ hs1 (.there .here) rfl (by rw [g1]; omega) (fun h' hs2 => ?_); conv => whnf)
          | (refine StoreG.stZ hs2 (.there .here) rfl (by rw [List.length_set, g1]; omega) (fun h' hs3 => ?_); conv => whnf)
          | refine AW.seq ?_
          | (refine AW.region ?_; conv => whnf)
          | refine AW.block ?_
          | (refine AW.skip ?_; conv => whnf)
          | refine AW.cond (by rfl) ?_
          | (refine Br.dt (by omega) ?_; conv => whnf)
          | (refine Br.df (by omega) ?_; conv => whnf)
          | (refine Wr.i64 (by omega) ?_; conv => whnf)
          | (refine Ck.mk (by omega) ?_; conv => whnf))
        refine ⟨b, o.length - 1, C, k + 1, ?_, ⟨by omega, by omega, o.take (o.length - 1), _, cs, by simp, stI_d est hu h2, ?_, by omega, by omega, hs3⟩, by omega⟩
        · have e4 : (((o.length : Nat) : Int) - 1).toNat = o.length - 1 := by omega
          rw [← e4]
          exact (Less.cons rfl (Less.cons rfl (Less.cons rfl (Less.cons rfl (Less.nil _)))))
        · have e5 : cs.take (o.length - 1) = (cs.take o.length).take (o.length - 1) := by rw [List.take_take]; congr 1; omega
          rw [e5, etk]
          unfold ints
          rw [List.map_take]
  · repeat' (first
      | refine AW.seq ?_
      | (refine AW.region ?_; conv => whnf)
      | (refine AW.ret ?_; conv => whnf)
      | (refine AW.exit ?_; conv => whnf)
      | refine AW.cond (by rfl) ?_
      | (refine Br.df (by omega) ?_; conv => whnf))
    have e : k = w.length := by omega
    subst e
    rw [est] at hst
    injection hst with hst
    injection hst with e1 e2
    subst e1 e2
    exact ⟨_, rfl, newAtD hs1 (by repeat first | exact .head _ | apply List.Mem.tail)⟩

theorem scF_at {w : List UInt8} {f k p : Nat} {h : Int} (e : scF w (f + 1) k h = some p) (y : Int) (hy : (if ((w.getD k 0).toNat : Int) = 117 then h + 1 else h - 1) = y) : (y = 0 ∧ p = k) ∨ (y ≠ 0 ∧ scF w f (k + 1) y = some p) := by
  simp only [scF, hy] at e
  by_cases c : y = 0
  · rw [if_pos c] at e
    injection e with e
    exact .inl ⟨c, e.symm⟩
  · rw [if_neg c] at e
    exact .inr ⟨c, e⟩
theorem scB_at {w : List UInt8} {f p : Nat} {h : Int} (e : scB w (f + 1) h = some p) (y : Int) (hy : (if ((w.getD f 0).toNat : Int) = 100 then h + 1 else h - 1) = y) : (y = 0 ∧ p = f) ∨ (y ≠ 0 ∧ scB w f y = some p) := by
  simp only [scB, hy] at e
  by_cases c : y = 0
  · rw [if_pos c] at e
    injection e with e
    exact .inl ⟨c, e.symm⟩
  · rw [if_neg c] at e
    exact .inr ⟨c, e⟩

set_option maxHeartbeats 1000000 in
theorem l4Partner_ok (w : List UInt8) (i p : Nat) (h0 : H) (hp : pt w i = some p) (hi : i < w.length) (hw : w.length ≤ 1000) : AC env 100 [.str w, .int .i64 i] h0 fun v h' => v = .int .i64 p ∧ h' = h0 := by
  unfold pt at hp
  by_cases hu : ((w.getD i 0).toNat : Int) = 117
  · rw [if_pos hu] at hp
    have hu' : ((w.getD (i : Int).toNat 0).toNat : Int) = 117 := hu
    refine AC.enter Try.func100 Try.call100 rfl Try.ntmps100 (of_decide_eq_true (by rfl)) ?_
    repeat' (first
      | refine AW.seq ?_
      | (refine AW.region ?_; conv => whnf)
      | refine AW.block ?_
      | refine AW.cond (by rfl) ?_
      | (refine Br.dt (by omega) ?_; conv => whnf)
      | (refine Ck.mk (by omega) ?_; conv => whnf))
    refine AW.loop2 (fun (k : Nat) (h : Int) => [(0, .str w), (5, .int .i64 h), (6, .int .i64 k)]) (fun k h h' => k ≤ w.length ∧ -(k : Int) ≤ h ∧ h ≤ k ∧ scF w (w.length - k) k h = some p ∧ h' = h0) (fun k _ => w.length - k) i 0
      (Less.cons rfl (Less.cons rfl (Less.cons rfl (Less.nil _)))) ⟨by omega, by omega, by omega, hp, rfl⟩ ?_
    rintro k h h1 ⟨hk, b1, b2, e, rfl⟩
    by_cases hlt : k < w.length
    · obtain ⟨f, hf⟩ : ∃ f, w.length - k = f + 1 := ⟨w.length - k - 1, by omega⟩
      rw [hf] at e
      have hf2 : w.length - (k + 1) = f := by omega
      by_cases hx : ((w.getD k 0).toNat : Int) = 117
      · have hx' : ((w.getD (k : Int).toNat 0).toNat : Int) = 117 := hx
        rcases scF_at e (h + 1) (if_pos hx) with ⟨c, rfl⟩ | ⟨c, e⟩
        · repeat' (first
            | refine AW.seq ?_
            | (refine AW.region ?_; conv => whnf)
            | refine AW.block ?_
            | (refine AW.skip ?_; conv => whnf)
            | (refine AW.ret ?_; conv => whnf)
            | refine AW.cond (by rfl) ?_
            | (refine Br.dt (by omega) ?_; conv => whnf)
            | (refine Wr.i64 (by omega) ?_; conv => whnf)
            | (refine Ck.mk (by omega) ?_; conv => whnf))
          exact ⟨rfl, rfl⟩
        · repeat' (first
            | refine AW.seq ?_
            | (refine AW.region ?_; conv => whnf)
            | refine AW.block ?_
            | (refine AW.skip ?_; conv => whnf)
            | refine AW.cond (by rfl) ?_
            | (refine Br.dt (by omega) ?_; conv => whnf)
            | (refine Br.df (by omega) ?_; conv => whnf)
            | (refine Wr.i64 (by omega) ?_; conv => whnf)
            | (refine Ck.mk (by omega) ?_; conv => whnf))
          exact ⟨k + 1, _, (Less.cons rfl (Less.cons rfl (Less.cons rfl (Less.nil _)))), ⟨by omega, by omega, by omega, by rw [hf2]; exact e, rfl⟩, by omega⟩
      · have hx' : ¬ ((w.getD (k : Int).toNat 0).toNat : Int) = 117 := hx
        rcases scF_at e (h - 1) (if_neg hx) with ⟨c, rfl⟩ | ⟨c, e⟩
        · repeat' (first
            | refine AW.seq ?_
            | (refine AW.region ?_; conv => whnf)
            | refine AW.block ?_
            | (refine AW.skip ?_; conv => whnf)
            | (refine AW.ret ?_; conv => whnf)
            | refine AW.cond (by rfl) ?_
            | (refine Br.dt (by omega) ?_; conv => whnf)
            | (refine Br.df (by omega) ?_; conv => whnf)
            | (refine Wr.i64 (by omega) ?_; conv => whnf)
            | (refine Ck.mk (by omega) ?_; conv => whnf))
          exact ⟨rfl, rfl⟩
        · repeat' (first
            | refine AW.seq ?_
            | (refine AW.region ?_; conv => whnf)
            | refine AW.block ?_
            | (refine AW.skip ?_; conv => whnf)
            | refine AW.cond (by rfl) ?_
            | (refine Br.dt (by omega) ?_; conv => whnf)
            | (refine Br.df (by omega) ?_; conv => whnf)
            | (refine Wr.i64 (by omega) ?_; conv => whnf)
            | (refine Ck.mk (by omega) ?_; conv => whnf))
          exact ⟨k + 1, _, (Less.cons rfl (Less.cons rfl (Less.cons rfl (Less.nil _)))), ⟨by omega, by omega, by omega, by rw [hf2]; exact e, rfl⟩, by omega⟩
    · rw [show w.length - k = 0 by omega] at e
      cases e
  · rw [if_neg hu] at hp
    have hu' : ¬ ((w.getD (i : Int).toNat 0).toNat : Int) = 117 := hu
    refine AC.enter Try.func100 Try.call100 rfl Try.ntmps100 (of_decide_eq_true (by rfl)) ?_
    repeat' (first
      | refine AW.seq ?_
      | (refine AW.region ?_; conv => whnf)
      | refine AW.block ?_
      | (refine AW.skip ?_; conv => whnf)
      | refine AW.cond (by rfl) ?_
      | (refine Br.df (by omega) ?_; conv => whnf)
      | (refine Ck.mk (by omega) ?_; conv => whnf))
    refine AW.loop3 (fun (f : Nat) (h x : Int) => [(0, .str w), (5, .int .i64 h), (7, .int .i64 x)]) (fun f h x h' => x = (f : Int) - 1 ∧ f ≤ w.length ∧ (f : Int) - 1000 ≤ h ∧ h ≤ 1000 - f ∧ scB w f h = some p ∧ h' = h0) (fun f _ _ => f) (i + 1) 0 i
      (Less.cons rfl (Less.cons rfl (Less.cons rfl (Less.nil _)))) ⟨by omega, by omega, by omega, by omega, hp, rfl⟩ ?_
    rintro f h x h1 ⟨ex, hk, b1, b2, e, rfl⟩
    cases f with
    | zero => cases e
    | succ f =>
      have ex : x = (f : Int) := by omega
      subst ex
      by_cases hx : ((w.getD f 0).toNat : Int) = 100
      · have hx' : ((w.getD (f : Int).toNat 0).toNat : Int) = 100 := hx
        rcases scB_at e (h + 1) (if_pos hx) with ⟨c, rfl⟩ | ⟨c, e⟩
        · repeat' (first
            | refine AW.seq ?_
            | (refine AW.region ?_; conv => whnf)
            | refine AW.block ?_
            | (refine AW.skip ?_; conv => whnf)
            | (refine AW.ret ?_; conv => whnf)
            | refine AW.cond (by rfl) ?_
            | (refine Br.tt ?_; conv => whnf)
            | (refine Br.dt (by omega) ?_; conv => whnf)
            | (refine Wr.i64 (by omega) ?_; conv => whnf)
            | (refine Ck.mk (by omega) ?_; conv => whnf))
          exact ⟨rfl, rfl⟩
        · repeat' (first
            | refine AW.seq ?_
            | (refine AW.region ?_; conv => whnf)
            | refine AW.block ?_
            | (refine AW.skip ?_; conv => whnf)
            | refine AW.cond (by rfl) ?_
            | (refine Br.tt ?_; conv => whnf)
            | (refine Br.dt (by omega) ?_; conv => whnf)
            | (refine Br.df (by omega) ?_; conv => whnf)
            | (refine Wr.i64 (by omega) ?_; conv => whnf)
            | (refine Ck.mk (by omega) ?_; conv => whnf))
          exact ⟨f, _, _, (Less.cons rfl (Less.cons rfl (Less.cons rfl (Less.nil _)))), ⟨rfl, by omega, by omega, by omega, e, rfl⟩, by omega⟩
      · have hx' : ¬ ((w.getD (f : Int).toNat 0).toNat : Int) = 100 := hx
        rcases scB_at e (h - 1) (if_neg hx) with ⟨c, rfl⟩ | ⟨c, e⟩
        · repeat' (first
            | refine AW.seq ?_
            | (refine AW.region ?_; conv => whnf)
            | refine AW.block ?_
            | (refine AW.skip ?_; conv => whnf)
            | (refine AW.ret ?_; conv => whnf)
            | refine AW.cond (by rfl) ?_
            | (refine Br.tt ?_; conv => whnf)
            | (refine Br.dt (by omega) ?_; conv => whnf)
            | (refine Br.df (by omega) ?_; conv => whnf)
            | (refine Wr.i64 (by omega) ?_; conv => whnf)
            | (refine Ck.mk (by omega) ?_; conv => whnf))
          exact ⟨rfl, rfl⟩
        · repeat' (first
            | refine AW.seq ?_
            | (refine AW.region ?_; conv => whnf)
            | refine AW.block ?_
            | (refine AW.skip ?_; conv => whnf)
            | refine AW.cond (by rfl) ?_
            | (refine Br.tt ?_; conv => whnf)
            | (refine Br.df (by omega) ?_; conv => whnf)
            | (refine Wr.i64 (by omega) ?_; conv => whnf)
            | (refine Ck.mk (by omega) ?_; conv => whnf))
          exact ⟨f, _, _, (Less.cons rfl (Less.cons rfl (Less.cons rfl (Less.nil _)))), ⟨rfl, by omega, by omega, by omega, e, rfl⟩, by omega⟩

theorem sMatchingOf_ok (w : List UInt8) (l : List Int) (h0 : H) (hd : isDyck w = true) (hl : l.length = w.length) (hp : ∀ i, i < w.length → ∃ p : Nat, pt w i = some p ∧ l.getD i 0 = p) (hw : w.length ≤ 1000) :
    AC env 16 [.str w] h0 fun v h' => ∃ b, v = .tup [.slice b 0 w.length w.length, .bool true] ∧ New h0 h' b (ints l) := by
  have hs := St.refl h0
  refine AC.enter Try.func16 Try.call16 rfl Try.ntmps16 (of_decide_eq_true (by rfl)) ?_
  repeat' (first
    | refine AW.seq ?_
    | (refine AW.region ?_; conv => whnf)
    | refine AW.block ?_
    | (refine NewG.st (by assumption) (fun bt h' hs' => ?_); conv => whnf))
  refine AW.loop2 (fun (b i : Nat) => [(0, .str w), (4, .slice b 0 i i), (5, .int .i64 i)]) (fun b i h' => i ≤ w.length ∧ St h0 h' [(b, row (ints (l.take i)))]) (fun _ i => w.length - i) bt 0 (Less.cons rfl (Less.cons rfl (Less.cons rfl (Less.nil _)))) ⟨by omega, hs'⟩ ?_
  rintro b i h1 ⟨hi, hs1⟩
  clear hs hs'
  by_cases hlt : i < w.length
  · obtain ⟨p, hp1, hp2⟩ := hp i hlt
    have e : l.take (i + 1) = l.take i ++ [(p : Int)] := by
      rw [← hp2, List.take_succ_eq_append_getElem (by omega)]
      simp [List.getD, show i < l.length by omega]
    have lt : (l.take i).length = i := by simp; omega
    repeat' (first
      | (refine (l4Partner_ok w i p _ hp1 hlt hw).mono ?_; rintro v h' ⟨rfl, e'⟩; subst h'; conv => whnf)
      | (refine NewG.st hs1 (fun bt h' hs2 => ?_); conv => whnf)
      | (refine AppG.stZ hs2 (fun b' => .there .here) (by omega) (by omega) (by decide) (fun b' h' hs3 => ?_); rw [← e] at hs3; conv => whnf)
      | refine AW.seq ?_
      | (refine AW.region ?_; conv => whnf)
      | refine AW.block ?_
      | (refine AW.skip ?_; conv => whnf)
      | refine AW.cond (by rfl) ?_
      | (refine (sIsDyck_ok _ (by first | omega | (simp only [List.length_drop, List.length_take, List.length_append, List.length_cons, List.length_nil]; omega)) _).mono ?_; rintro v h' ⟨rfl, e'⟩; subst h'; conv => whnf)
      | (refine Br.t (by assumption) ?_; conv => whnf)
      | (refine Br.dt (by omega) ?_; conv => whnf)
      | (refine Wr.i64 (by omega) ?_; conv => whnf)
      | (refine LoadsG.has (by first | assumption | exact St.has (by assumption) (by repeat first | exact .head _ | apply List.Mem.tail) | exact St.arg (by assumption) (by assumption)) (by simp) ?_; conv => whnf))
    exact ⟨b', i + 1, (Less.cons rfl (Less.cons rfl (Less.cons rfl (Less.nil _)))), ⟨by omega, hs3.tail⟩, by omega⟩
  · repeat' (first
      | refine AW.seq ?_
      | (refine AW.region ?_; conv => whnf)
      | (refine AW.ret ?_; conv => whnf)
      | (refine AW.exit ?_; conv => whnf)
      | refine AW.cond (by rfl) ?_
      | (refine (sIsDyck_ok _ (by first | omega | (simp only [List.length_drop, List.length_take, List.length_append, List.length_cons, List.length_nil]; omega)) _).mono ?_; rintro v h' ⟨rfl, e'⟩; subst h'; conv => whnf)
      | (refine Br.ff ?_; conv => whnf)
      | (refine Br.df (by omega) ?_; conv => whnf))
    have e : i = w.length := by omega
    subst e
    rw [List.take_of_length_le (by omega)] at hs1
    exact ⟨b, by rw [hd], newAtD hs1 (by repeat first | exact .head _ | apply List.Mem.tail)⟩

end Go.Proofs.Ytdfdlnjijccpeaa
