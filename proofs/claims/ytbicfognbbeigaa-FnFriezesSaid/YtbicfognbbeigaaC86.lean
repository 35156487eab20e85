/-
  What laws over codes have in common is proved: their size, their letters, and rows of statements.
  It holds for all codes.
-/
import Derived.Test.YtbicfognbbeigaaC67
import Derived.Test.YtbicfognbbeigaaH30
import Derived.Test.YtbicfognbbeigaaGZ
set_option linter.unusedVariables false
set_option linter.unusedSimpArgs false
namespace Go.Proofs.Ytbicfognbbeigaa
open Go.Proofs.Ytbicfognbbeigaa.Ab Go.Proofs.Ytbicfognbbeigaa.Pl

theorem CurSt.callN {H0 h h' : H} {c b : Nat} {cs : List AV} {L : List (Nat × Blk)} (s : CurSt H0 h c L) (n : New h h' b cs) : CurSt H0 h' c ((b, row cs) :: L) := by
  obtain ⟨v, l, i, k, h1, h2, h3, h4⟩ := s.ex
  exact ⟨v, l, i, k, h1, h2, h3, (h4.newCall n).perm (.swap _ _ _)⟩
theorem StoreG.curI {H0 h : H} {c b : Nat} {L L' : List (Nat × Blk)} {K : H → Prop} {n sz : Nat} {l : List Int} {y : Int} (s : CurSt H0 h c L) (sp : Spot L (b, row (ints l)) (b, row (ints (l.set n y))) L') (hs : sz = 1) (ho : n < l.length)
    (hk : ∀ h', CurSt H0 h' c L' → K h') : StoreG h b (0 + mulSz n sz) (.int .i64 y) K := by
  obtain ⟨v, a, i, k, h1, h2, h3, h4⟩ := s.ex
  exact StoreG.stZ h4 (.there sp) hs ho fun h' hs' => hk h' ⟨v, a, i, k, h1, h2, h3, hs'⟩
theorem codeBig_ok (l : List UInt8) (v : AV) (h0 : H) (hv : CellsAt h0 v (bytesAV l)) : AC env 4 [v] h0 fun w h' => w = .bool (decide ((l.length : Int) > 1048576)) ∧ h' = h0 := by
  rcases hv with ⟨rfl, e⟩ | ⟨b, cp, rfl, hb⟩
  · have e2 : l = [] := List.eq_nil_of_length_eq_zero (by rw [← bytesAV_length, e]; rfl)
    subst e2
    refine AC.enter Try.func4 Try.call4 rfl Try.ntmps4 (of_decide_eq_true (by rfl)) ?_
    repeat' (first
      | refine AW.seq ?_
      | (refine AW.region ?_; conv => whnf)
      | (refine AW.ret ?_; conv => whnf))
    exact ⟨rfl, rfl⟩
  · refine AC.enter Try.func4 Try.call4 rfl Try.ntmps4 (of_decide_eq_true (by rfl)) ?_
    repeat' (first
      | refine AW.seq ?_
      | (refine AW.region ?_; conv => whnf)
      | (refine AW.ret ?_; conv => whnf))
    exact ⟨by rw [bytesAV_length], rfl⟩
theorem codeAt_ok (l : List UInt8) (v : AV) (i : Nat) (h0 : H) (hv : CellsAt h0 v (bytesAV l)) (hl : l.length ≤ 1048576) (hi : i ≤ 100) : AC env 11 [v, .int .i64 i] h0 fun w h' => ∃ x : Int, w = .int .i64 x ∧ (0 ≤ x ∧ x ≤ 255) ∧ h' = h0 := by
  rcases hv with ⟨rfl, e⟩ | ⟨b, cp, rfl, hb⟩
  · refine AC.enter Try.func11 Try.call11 rfl Try.ntmps11 (of_decide_eq_true (by rfl)) ?_
    repeat' (first
      | refine AW.seq ?_
      | (refine AW.region ?_; conv => whnf)
      | (refine AW.skip ?_; conv => whnf)
      | (refine AW.ret ?_; conv => whnf)
      | refine AW.cond (by rfl) ?_
      | (refine Br.ff ?_; conv => whnf)
      | (refine Wr.i64 (by omega) ?_; conv => whnf)
      | (refine Ck.mk (by omega) ?_; conv => whnf))
    have := tmod_bd (x := (i : Int) * 37 + 0 * 11) (n := 256) (by omega) (by omega)
    exact ⟨_, rfl, by omega, rfl⟩
  · rw [bytesAV_length]
    have bu : (l.getD ((i : Nat) : Int).toNat 0).toNat < 256 := UInt8.toNat_lt _
    have tm := tmod_bd (x := (i : Int) * 37 + (l.length : Int) * 11) (n := 256) (by omega) (by omega)
    by_cases hlt : i < l.length
    · refine AC.enter Try.func11 Try.call11 rfl Try.ntmps11 (of_decide_eq_true (by rfl)) ?_
      repeat' (first
        | (refine Has.loadAt hb rfl (bytesAV_get l _ (by omega)) ?_; conv => whnf)
        | refine AW.seq ?_
        | (refine AW.region ?_; conv => whnf)
        | (refine AW.ret ?_; conv => whnf)
        | refine AW.cond (by rfl) ?_
        | (refine Br.dt (by omega) ?_; conv => whnf)
        | (refine Wr.i64 (by omega) ?_; conv => whnf)
        | (refine Ck.mk (by omega) ?_; conv => whnf))
      exact ⟨_, rfl, by omega, rfl⟩
    · refine AC.enter Try.func11 Try.call11 rfl Try.ntmps11 (of_decide_eq_true (by rfl)) ?_
      repeat' (first
        | refine AW.seq ?_
        | (refine AW.region ?_; conv => whnf)
        | (refine AW.skip ?_; conv => whnf)
        | (refine AW.ret ?_; conv => whnf)
        | refine AW.cond (by rfl) ?_
        | (refine Br.df (by omega) ?_; conv => whnf)
        | (refine Wr.i64 (by omega) ?_; conv => whnf)
        | (refine Ck.mk (by omega) ?_; conv => whnf))
      exact ⟨_, rfl, by omega, rfl⟩

/-! a row of statements, and what holds behind it -/
def runS (E : Env) (n : Nat) (Q : Exit → Fr → H → Prop) : List Code → (Fr → H → Prop) → Fr → H → Prop
  | [], M, fr, h => M fr h
  | s :: l, M, fr, h => AW E n s fr h (thenK (runS E n Q l M) Q)
def seqS : List Code → Code → Code
  | [], R => R
  | s :: l, R => .seq s (seqS l R)
theorem AW.seqS {E : Env} {n : Nat} {Q : Exit → Fr → H → Prop} {M : Fr → H → Prop} {R : Code} : ∀ (l : List Code) {fr : Fr} {h : H}, runS E n Q l M fr h → (∀ fr h, M fr h → AW E n R fr h Q) → AW E n (seqS l R) fr h Q
  | [], _, _, hx, hy => hy _ _ hx
  | s :: l, fr, h, hx, hy => AW.seq (AW.mono hx fun e fr' h' q => match e, q with
    | .normal, q => AW.seqS l q hy
    | .exit _, q => q
    | .ret, q => q
    | .goto _, q => q
    | .panic _, q => q
    | .outgrown, q => q)
/-- the code is in the first slot, and memory has only grown -/
def MidC (h0 : H) (v : AV) (fr : Fr) (h : H) : Prop := Less fr [(0, v)] ∧ Keeps h0 h

end Go.Proofs.Ytbicfognbbeigaa
