/-
  The library's fourth text proves that the operations that touch no memory do what their abstract view says.
  It holds no condition of its own.
-/
import Derived.Test.YtcepogfmajlcjaaAb3
set_option linter.unusedVariables false
set_option linter.unusedSimpArgs false
namespace Go.Proofs.Ytcepogfmajlcjaa.Ab
open Go.RowKit

section
variable {P : Program} {T : TT} {β : Bt}

/-- a run that yields a value in every world, and leaves the world -/
def Gives (P : Program) (s : Sem Value) (cv : Value) : Prop := ∀ w, s.run P w = .ok cv w

def Yld (P : Program) (β : Bt) (s : Sem Value) (K : AV → Prop) : Prop := ∃ v cv, RV β v cv ∧ Gives P s cv ∧ K v

theorem Yld.mk {s : Sem Value} {K : AV → Prop} {v : AV} {cv : Value} (r : RV β v cv) (g : Gives P s cv) (k : K v) : Yld P β s K := ⟨v, cv, r, g, k⟩

theorem vcInt_sound {op : BinOp} {k : IntKind} {a b : Int} {K : AV → Prop} (hs : isShift op = false) (h : vcInt op k a b K) :
    Yld P β (binOp op 0 (.int k a) (.int k b)) K ∧ ∀ t, binOp op t (.int k a) (.int k b) = binOp op 0 (.int k a) (.int k b) := by
  refine ⟨?_, fun t => by cases op <;> rfl⟩
  cases op <;> simp only [vcInt, isShift] at h hs <;> first
    | contradiction
    | exact ⟨_, _, .int _ _, fun w => by simp [binOp, Op.intArith], h.out⟩
    | exact ⟨_, _, .int _ _, fun w => by simp [binOp, Op.intDiv, h.1], h.2.out⟩
    | exact ⟨_, _, .int _ _, fun w => by simp [binOp, Op.intDiv, h.1], h.2⟩
    | exact ⟨_, _, .int _ _, fun w => by simp [binOp, Op.intBits], h⟩
    | exact ⟨_, _, .bool _, fun w => by simp [binOp, Op.intCmp], h⟩

theorem vcShift_sound {op : BinOp} {k k' : IntKind} {a b : Int} {K : AV → Prop} (t : TypeId) (h : vcShift op k a b K) :
    Yld P β (binOp op t (.int k a) (.int k' b)) K := by
  cases op <;> simp only [vcShift] at h <;> first
    | contradiction
    | (have hb : ¬ b < 0 := by have := h.1; omega
       first
         | exact ⟨_, _, .int _ _, fun w => by simp [binOp, Op.shift, hb], h.2.out⟩
         | exact ⟨_, _, .int _ _, fun w => by simp [binOp, Op.shift, hb], h.2⟩)

theorem toList_mk (l : List UInt8) : (⟨l.toArray⟩ : ByteArray).toList = l := by
  rw [ByteArray.toList_eq]

theorem append_mk (a b : List UInt8) : (⟨a.toArray⟩ : ByteArray) ++ ⟨b.toArray⟩ = ⟨(a ++ b).toArray⟩ := by
  apply ByteArray.ext
  simp

theorem vcStr_sound {op : BinOp} {a b : List UInt8} {K : AV → Prop} (t : TypeId) (h : vcStr op a b K) :
    Yld P β (binOp op t (.string ⟨a.toArray⟩) (.string ⟨b.toArray⟩)) K := by
  cases op <;> simp only [vcStr] at h <;> first
    | contradiction
    | (have h1 : ¬ ((9223372036854775807 : Int) < (a.length : Int) + (b.length : Int)) := by have := h.1; omega
       exact ⟨_, _, .str _, fun w => by
        have e : IntKind.i64.max = 9223372036854775807 := by decide
        simp [binOp, Op.stringOp, e, ByteArray.size, h1, append_mk], h.2⟩)
    | exact ⟨_, _, .bool _, fun w => by simp [binOp, Op.stringOp, toList_mk], h⟩

theorem vcEq_soundN {d : TypeDesc} {x y : AV} {vx vy : Value} {K : Bool → Prop} (n : Nat) (t : TypeId) (ht : P.underlying t = some d) (hx : RV β x vx) (hy : RV β y vy) (h : vcEq d x y K) :
    ∃ r, (∀ w, (Op.equalIn (n + 1) t vx vy).run P w = .ok r w) ∧ K r := by
  have hu := fun w => run_underlying (P := P) ht w
  unfold vcEq at h
  split at h <;> first
    | contradiction
    | (cases hx; cases hy
       exact ⟨_, fun w => by simp [Op.equalIn, hu], h⟩)

theorem vcEq_sound {d : TypeDesc} {x y : AV} {vx vy : Value} {K : Bool → Prop} (t : TypeId) (ht : P.underlying t = some d) (hx : RV β x vx) (hy : RV β y vy) (h : vcEq d x y K) :
    ∃ r, (∀ w, (Op.equal t vx vy).run P w = .ok r w) ∧ K r := vcEq_soundN 9999 t ht hx hy h

theorem eqGuard_int (op : BinOp) (t : TypeId) (x y : Operand) (k k' : IntKind) (a b : Int) (w : World) : (eqGuard op t x y (.int k a) (.int k' b)).run P w = .ok () w := by
  unfold eqGuard
  split <;> simp
end

end Go.Proofs.Ytcepogfmajlcjaa.Ab
