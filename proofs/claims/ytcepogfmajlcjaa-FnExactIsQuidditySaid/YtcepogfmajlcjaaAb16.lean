/-
  The library's sixteenth text proves how a law's contract in abstract values gives its call's end, and how arguments are opened.
  It holds no condition of its own.
-/
import Derived.Test.YtcepogfmajlcjaaAb15
set_option linter.unusedVariables false
set_option linter.unusedSimpArgs false
namespace Go.Proofs.Ytcepogfmajlcjaa.Ab
open Go.RowKit

def emptyB : Bt := fun _ => none
def emptyH : H := fun _ => none

theorem Sim.init (w : World) : Sim w.heap.size w emptyB 0 emptyH w :=
  ⟨Below.refl _ _, Nat.le_refl _, fun _ _ => rfl, fun b x hb => (nomatch hb), fun b b' x x' p p' hb => (nomatch hb)⟩

section
variable {E : Env} {base : Nat} {W0 : World} {β : Bt} {nxt : Nat} {h : H} {w : World}

theorem Sim.addRo (s : Sim base W0 β nxt h w) (p : Pos) (sz : Nat) (cs : List AV) (r : BlkRel base (bput β nxt p) p w (.cells false sz cs)) :
    Sim base W0 (bput β nxt p) (nxt + 1) (upd h nxt (.cells false sz cs)) w := by
  have hnn : β nxt = none := s.fresh nxt (Nat.le_refl _)
  have he : Ext β (bput β nxt p) := Ext.put hnn
  have hold : ∀ b x, h b = some x → b ≠ nxt := fun b x hb e => by
    obtain ⟨q, h1, _⟩ := s.live b x hb
    subst e
    rw [hnn] at h1
    cases h1
  refine ⟨s.below, s.ge, fun b hb => ?_, fun b y hb => ?_, fun b b' y y' q q' hb hb' ho ho' hq hq' hqq => ?_⟩
  · unfold bput
    rw [if_neg (by omega)]
    exact s.fresh b (by omega)
  · unfold upd at hb
    split at hb
    · rename_i e
      subst e
      injection hb with hb
      subst hb
      exact ⟨p, by simp [bput], r⟩
    · obtain ⟨q, h1, h2⟩ := s.live b y hb
      exact ⟨q, he _ _ h1, h2.mono he⟩
  · unfold upd at hb hb'
    split at hb
    · injection hb with hb; subst hb; cases ho
    · split at hb'
      · injection hb' with hb'; subst hb'; cases ho'
      · rename_i n n'
        have hq0 : β b = some q := by simpa [bput, n] using hq
        have hq0' : β b' = some q' := by simpa [bput, n'] using hq'
        exact s.inj b b' y y' q q' hb hb' ho ho' hq0 hq0' hqq

theorem Sim.addDead (s : Sim base W0 β nxt h w) (p : Pos) : Sim base W0 (bput β nxt p) (nxt + 1) h w := by
  have hnn : β nxt = none := s.fresh nxt (Nat.le_refl _)
  have he : Ext β (bput β nxt p) := Ext.put hnn
  refine ⟨s.below, s.ge, fun b hb => ?_, fun b y hb => ?_, fun b b' y y' q q' hb hb' ho ho' hq hq' hqq => ?_⟩
  · unfold bput
    rw [if_neg (by omega)]
    exact s.fresh b (by omega)
  · obtain ⟨q, h1, h2⟩ := s.live b y hb
    exact ⟨q, he _ _ h1, h2.mono he⟩
  · have k : ∀ b y q, h b = some y → bput β nxt p b = some q → β b = some q := fun b y q hb hq => by
      obtain ⟨q0, h1, _⟩ := s.live b y hb
      have hne : b ≠ nxt := fun e => by subst e; rw [hnn] at h1; cases h1
      simpa [bput, hne] using hq
    exact s.inj b b' y y' q q' hb hb' ho ho' (k b y q hb hq) (k b' y' q' hb' hq') hqq

/-- a law's contract gives its call's end -/
theorem AC.law {f : FuncId} {args : List AV} {vs : Array Value} (c : AC E f args h fun v _ => v = .bool true) (s : Sim w.heap.size w β nxt h w) (r : RVs β args vs.toList) :
    Calls E.P f vs w fun e w' => e = .returned (.bool true) ∧ Below w.heap.size w w' := by
  refine (c.run _ _ β nxt w vs s r).mono ?_
  rintro e w' ⟨v, cv, β', nxt', h', rfl, _, _, hr, hs, rfl⟩
  cases hr
  exact ⟨rfl, hs.below⟩

theorem rv_string (β : Bt) (s : ByteArray) : RV β (.str s.data.toList) (.string s) := by
  obtain ⟨⟨l⟩⟩ := s
  exact .str l

theorem bounds_i64 {n : Int} (h : (Lit.int .i64 n).wf = true) : -9223372036854775808 ≤ n ∧ n ≤ 9223372036854775807 := by
  simpa [Lit.wf, IntKind.min, IntKind.max, IntKind.signed, IntKind.bits] using h

end
end Go.Proofs.Ytcepogfmajlcjaa.Ab
