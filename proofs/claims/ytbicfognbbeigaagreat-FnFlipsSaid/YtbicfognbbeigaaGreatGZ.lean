/-
  The library's twenty-fifth text holds the rests of a function's row of statements, and a rule by which frames are kept short.
  It holds no condition of its own.
-/
import Derived.Test.YtbicfognbbeigaaGreatGY
set_option linter.unusedVariables false
set_option linter.unusedSimpArgs false
namespace Go.Proofs.YtbicfognbbeigaaGreat.Ab
open Go.RowKit

/-- what is left of a row of statements behind so many of them -/
def restL : Nat → Code → Code
  | 0, c => c
  | k + 1, .seq _ b => restL k b
  | _ + 1, c => c
def bodyOf (f : Func) : Code := f.body.getD .skip

/-- a frame without the slots from a number on -/
def lowF (T : Nat) : Fr → Fr
  | [] => []
  | (k, v) :: r => match Nat.ble T k with
    | true => lowF T r
    | false => (k, v) :: lowF T r
def lowK (T : Nat) : Fr → (Fr → Prop) → Prop
  | [], K => K []
  | (k, v) :: r, K => match Nat.ble T k with
    | true => lowK T r K
    | false => lowK T r fun r' => K ((k, v) :: r')
theorem lowK_eq (T : Nat) : ∀ (fr : Fr) (K : Fr → Prop), lowK T fr K = K (lowF T fr)
  | [], K => rfl
  | (k, v) :: r, K => by
    rw [lowK, lowF]
    cases Nat.ble T k with
    | true => exact lowK_eq T r K
    | false => exact lowK_eq T r _
theorem lget_lowF (T t : Nat) : ∀ fr : Fr, lget (lowF T fr) t = lget fr t ∨ lget (lowF T fr) t = .any
  | [] => .inl rfl
  | (k, v) :: r => by
    rw [lowF]
    cases hk : Nat.ble T k with
    | true =>
      by_cases e : k = t
      · subst e
        right
        show lget (lowF T r) k = .any
        exact lowF_none T k (Nat.le_of_ble_eq_true hk) r
      · show lget (lowF T r) t = lget ((k, v) :: r) t ∨ _
        rw [lget_miss e]
        exact lget_lowF T t r
    | false =>
      by_cases e : k = t
      · subst e
        left
        show lget ((k, v) :: lowF T r) k = _
        rw [lget_hit, lget_hit]
      · show lget ((k, v) :: lowF T r) t = lget ((k, v) :: r) t ∨ lget ((k, v) :: lowF T r) t = .any
        rw [lget_miss e, lget_miss e]
        exact lget_lowF T t r
where
  lowF_none (T t : Nat) (ht : T ≤ t) : ∀ fr : Fr, lget (lowF T fr) t = .any
    | [] => rfl
    | (k, v) :: r => by
      rw [lowF]
      cases hk : Nat.ble T k with
      | true => exact lowF_none T t ht r
      | false =>
        have e : k ≠ t := fun e => by
          subst e
          rw [Nat.ble_eq_true_of_le ht] at hk
          cases hk
        show lget ((k, v) :: lowF T r) t = .any
        rw [lget_miss e]
        exact lowF_none T t ht r
theorem FrRel.low {β : Bt} {fr : Fr} {a : Act} (h : FrRel β fr a) (T : Nat) : FrRel β (lowF T fr) a := by
  refine ⟨fun t => ?_, h.2⟩
  rcases lget_lowF T t fr with e | e
  · rw [e]; exact h.1 t
  · rw [e]; exact .any _
section
variable {E : Env} {n : Nat} {fr : Fr} {h : H} {Q : Exit → Fr → H → Prop}
theorem AW.seqLow {T : Nat} {x y : Code} (hk : lowK T fr fun fr' => AW E n x fr' h (thenK (fun fr h => AW E n y fr h Q) Q)) : AW E n (.seq x y) fr h Q := by
  rw [lowK_eq] at hk
  have := AW.seq hk
  exact ⟨fun base W0 β nxt a w s hf hs => this.run base W0 β nxt a w s (hf.low T) hs⟩
end

end Go.Proofs.YtbicfognbbeigaaGreat.Ab


