/-
  The library's fourteenth text proves that regions of open order may be walked by a plan.
  It holds no condition of its own.
-/
import Derived.Test.YtcepogfmajlcjaaAb13
set_option linter.unusedVariables false
set_option linter.unusedSimpArgs false
namespace Go.Proofs.Ytcepogfmajlcjaa.Ab
open Go.RowKit

/-! Runs that leave the world as it is -/
section
variable {α γ : Type}

def Still (s : Sem α) : Prop := ∀ (P : Program) (w : World) (x : α) (w' : World), s.run P w = .ok x w' → w' = w
def NoOk (s : Sem α) : Prop := ∀ (P : Program) (w : World) (x : α) (w' : World), s.run P w ≠ .ok x w'

theorem Still.of {s : Sem α} (h : NoOk s) : Still s := fun P w x w' hr => absurd hr (h P w x w')
theorem Still.pure (a : α) : Still (Pure.pure a : Sem α) := fun P w x w' hr => by simp at hr; exact hr.2.symm
theorem Still.bind {s : Sem α} {f : α → Sem γ} (h : Still s) (k : ∀ a, Still (f a)) : Still (s >>= f) := by
  intro P w x w' hr
  rw [Sem.run_bind] at hr
  cases hs : s.run P w with
  | ok a w1 =>
    rw [hs] at hr
    have := h P w a w1 hs
    subst this
    exact k a P w1 x w' hr
  | halt e w1 => rw [hs] at hr; simp at hr
theorem Still.map {s : Sem α} (f : α → γ) (h : Still s) : Still (f <$> s) := by
  intro P w x w' hr
  rw [Sem.run_map] at hr
  cases hs : s.run P w with
  | ok a w1 =>
    rw [hs] at hr
    have := h P w a w1 hs
    simp at hr
    rw [← hr.2, this]
  | halt e w1 => rw [hs] at hr; simp at hr
theorem NoOk.left {s : Sem α} (f : α → Sem γ) (h : NoOk s) : NoOk (s >>= f) := by
  intro P w x w' hr
  rw [Sem.run_bind] at hr
  cases hs : s.run P w with
  | ok a w1 => exact h P w a w1 hs
  | halt e w1 => rw [hs] at hr; simp at hr
theorem NoOk.right {s : Sem α} {f : α → Sem γ} (k : ∀ a, NoOk (f a)) : NoOk (s >>= f) := by
  intro P w x w' hr
  rw [Sem.run_bind] at hr
  cases hs : s.run P w with
  | ok a w1 => rw [hs] at hr; exact k a P w1 x w' hr
  | halt e w1 => rw [hs] at hr; simp at hr
theorem NoOk.goPanic (v : Value) : NoOk (goPanic v : Sem α) := fun P w x w' hr => by simp at hr
theorem NoOk.stuck (s : String) : NoOk (stuck s : Sem α) := fun P w x w' hr => by simp at hr
theorem NoOk.unsupported (u : Unsupported) : NoOk (unsupported u : Sem α) := fun P w x w' hr => by simp at hr
theorem NoOk.runtimePanic (e : RuntimeError) : NoOk (runtimePanic e : Sem α) := by
  unfold Go.runtimePanic
  refine NoOk.right fun p => ?_
  cases e <;> dsimp only <;> repeat (first | exact NoOk.goPanic _ | refine NoOk.right fun _ => ?_)
theorem NoOk.boundsPanic (k : IntKind) (x y : Int) (c : BoundsCode) : NoOk (boundsPanic k x y c : Sem α) := by
  unfold Go.boundsPanic
  dsimp only
  split <;> exact NoOk.right fun _ => NoOk.runtimePanic _
theorem Still.program : Still program := fun P w x w' hr => by simp at hr; exact hr.2.symm
theorem Still.shape (r : Nat) : Still (shape r) := fun P w x w' hr => by simp at hr; exact hr.2.symm
theorem Still.frozen (a : Addr) : Still (frozen a) := fun P w x w' hr => by simp at hr; exact hr.2.symm
theorem Still.typeInfo (t : TypeId) : Still (typeInfo t) := by
  unfold Go.typeInfo
  refine .bind .program fun p => ?_
  split
  · exact .pure _
  · exact .of (.stuck _)
theorem Still.underlying (t : TypeId) : Still (underlying t) := by
  unfold Go.underlying
  refine .bind .program fun p => ?_
  split
  · exact .pure _
  · exact .of (.stuck _)
theorem Still.sizeOf (t : TypeId) : Still (sizeOf t) := .bind (.typeInfo t) fun _ => .pure _
theorem Still.zeroValue (t : TypeId) : Still (zeroValue t) := by
  unfold Go.zeroValue
  refine .bind (.typeInfo t) fun i => ?_
  split
  · exact .pure _
  · exact .of (.unsupported _)
theorem Still.isAgg (t : TypeId) : Still (isAgg t) := by
  unfold Go.isAgg
  refine .bind (.underlying t) fun d => ?_
  split <;> exact .pure _
theorem Still.load (a : Addr) : Still (load a) := by
  intro P w x w' hr
  rw [run_load] at hr
  split at hr
  · injection hr with _ h; exact h.symm
  · split at hr
    · injection hr with _ h; exact h.symm
    · cases hr
theorem Still.loadCellsFrom (a : Addr) : ∀ (n i : Nat) (acc : Array Value), Still (loadCellsFrom a i n acc)
  | 0, i, acc => by unfold Go.loadCellsFrom; exact .pure _
  | n + 1, i, acc => by
    unfold Go.loadCellsFrom
    exact .bind (.load _) fun v => Still.loadCellsFrom a n (i + 1) _
theorem Still.loadVar (t : TypeId) (a : Addr) : Still (loadVar t a) := by
  unfold Go.loadVar
  refine .bind (.isAgg t) fun b => ?_
  split
  · exact .bind (.sizeOf t) fun n => .bind (Still.loadCellsFrom a n 0 #[]) fun _ => .pure _
  · exact .load a
theorem Still.part (t : TypeId) (cs : Array Value) (off : Nat) : Still (part t cs off) := by
  unfold Go.part
  refine .bind (.isAgg t) fun b => ?_
  split
  · exact .bind (.sizeOf t) fun n => .pure _
  · split
    · exact .pure _
    · exact .of (.stuck _)
theorem Still.asIntOf (v : Value) : Still (asIntOf v) := by
  unfold Go.asIntOf
  split
  · exact .pure _
  · exact .of (.unsupported _)
  · exact .of (.stuck _)
theorem Still.asBool (v : Value) : Still (asBool v) := by
  unfold Go.asBool
  split
  · exact .pure _
  · exact .of (.stuck _)
theorem Still.asAgg (v : Value) : Still (asAgg v) := by
  unfold Go.asAgg
  split
  · exact .pure _
  · exact .of (.stuck _)
theorem Still.asAddr (v : Value) : Still (asAddr v) := by
  unfold Go.asAddr
  split
  · exact .pure _
  · exact .of (.runtimePanic _)
  · exact .of (.stuck _)
theorem Still.sureAddr (v : Value) : Still (Instr.sureAddr v) := by
  unfold Instr.sureAddr
  split
  · exact .pure _
  · exact .of (.stuck _)
theorem Still.sliceBound (v : Value) (y : Nat) (c : BoundsCode) : Still (Instr.sliceBound v y c) := by
  unfold Instr.sliceBound
  refine .bind (.asIntOf v) fun ki => ?_
  dsimp only
  split
  · exact .pure _
  · exact .of (.boundsPanic _ _ _ _)
theorem Still.sliceBounds (b : Bool) (len cap : Nat) (lo hi mx : Option Value) : Still (Instr.sliceBounds b len cap lo hi mx) := by
  unfold Instr.sliceBounds
  repeat' (first
    | with_reducible exact Still.pure _
    | with_reducible exact Still.of (NoOk.stuck _)
    | with_reducible exact Still.of (NoOk.unsupported _)
    | with_reducible exact Still.of (NoOk.boundsPanic _ _ _ _)
    | with_reducible exact Still.of (NoOk.runtimePanic _)
    | with_reducible exact Still.underlying _
    | with_reducible exact Still.sizeOf _
    | with_reducible exact Still.asIntOf _
    | with_reducible exact Still.asAddr _
    | with_reducible exact Still.sureAddr _
    | with_reducible exact Still.asAgg _
    | with_reducible exact Still.asBool _
    | with_reducible exact Still.part _ _ _
    | with_reducible exact Still.sliceBound _ _ _
    | with_reducible refine Still.bind ?_ fun _ => ?_
    | split
    | dsimp only)
theorem Still.next {s : Sem Value} (h : Still s) : Still (s >>= fun x => (Pure.pure (Next.value x) : Sem Next)) := .bind h fun _ => .pure _

theorem Still.sliceAt (t : TypeId) (x : Value) (lo hi mx : Option Value) : Still (Instr.sliceAt t x lo hi mx) := by
  unfold Instr.sliceAt Instr.slice
  repeat' (first
    | with_reducible exact Still.pure _
    | with_reducible exact Still.of (NoOk.stuck _)
    | with_reducible exact Still.of (NoOk.unsupported _)
    | with_reducible exact Still.of (NoOk.boundsPanic _ _ _ _)
    | with_reducible exact Still.of (NoOk.runtimePanic _)
    | with_reducible exact Still.underlying _
    | with_reducible exact Still.sizeOf _
    | with_reducible exact Still.asIntOf _
    | with_reducible exact Still.asAddr _
    | with_reducible exact Still.sureAddr _
    | with_reducible exact Still.asAgg _
    | with_reducible exact Still.asBool _
    | with_reducible exact Still.part _ _ _
    | with_reducible exact Still.sliceBound _ _ _
    | with_reducible exact Still.sliceBounds _ _ _ _ _ _
    | with_reducible refine Still.bind ?_ fun _ => ?_
    | split
    | dsimp only)
theorem Still.indexAt (t : TypeId) (x i : Value) : Still (Instr.indexAt t x i) := by
  unfold Instr.indexAt
  repeat' (first
    | with_reducible exact Still.pure _
    | with_reducible exact Still.of (NoOk.stuck _)
    | with_reducible exact Still.of (NoOk.unsupported _)
    | with_reducible exact Still.of (NoOk.boundsPanic _ _ _ _)
    | with_reducible exact Still.of (NoOk.runtimePanic _)
    | with_reducible exact Still.underlying _
    | with_reducible exact Still.sizeOf _
    | with_reducible exact Still.asIntOf _
    | with_reducible exact Still.asAddr _
    | with_reducible exact Still.sureAddr _
    | with_reducible exact Still.asAgg _
    | with_reducible exact Still.asBool _
    | with_reducible exact Still.part _ _ _
    | with_reducible exact Still.sliceBound _ _ _
    | with_reducible exact Still.sliceBounds _ _ _ _ _ _
    | with_reducible refine Still.bind ?_ fun _ => ?_
    | split
    | dsimp only)
theorem Still.index (t : TypeId) (x i : Value) : Still (Instr.index t x i) := by
  unfold Instr.index
  repeat' (first
    | with_reducible exact Still.pure _
    | with_reducible exact Still.of (NoOk.stuck _)
    | with_reducible exact Still.of (NoOk.unsupported _)
    | with_reducible exact Still.of (NoOk.boundsPanic _ _ _ _)
    | with_reducible exact Still.of (NoOk.runtimePanic _)
    | with_reducible exact Still.underlying _
    | with_reducible exact Still.sizeOf _
    | with_reducible exact Still.asIntOf _
    | with_reducible exact Still.asAddr _
    | with_reducible exact Still.sureAddr _
    | with_reducible exact Still.asAgg _
    | with_reducible exact Still.asBool _
    | with_reducible exact Still.part _ _ _
    | with_reducible exact Still.sliceBound _ _ _
    | with_reducible exact Still.sliceBounds _ _ _ _ _ _
    | with_reducible refine Still.bind ?_ fun _ => ?_
    | split
    | dsimp only)
theorem Still.field (t : TypeId) (x : Value) (f : Nat) : Still (Instr.field t x f) := by
  unfold Instr.field
  repeat' (first
    | with_reducible exact Still.pure _
    | with_reducible exact Still.of (NoOk.stuck _)
    | with_reducible exact Still.of (NoOk.unsupported _)
    | with_reducible exact Still.of (NoOk.boundsPanic _ _ _ _)
    | with_reducible exact Still.of (NoOk.runtimePanic _)
    | with_reducible exact Still.underlying _
    | with_reducible exact Still.sizeOf _
    | with_reducible exact Still.asIntOf _
    | with_reducible exact Still.asAddr _
    | with_reducible exact Still.sureAddr _
    | with_reducible exact Still.asAgg _
    | with_reducible exact Still.asBool _
    | with_reducible exact Still.part _ _ _
    | with_reducible exact Still.sliceBound _ _ _
    | with_reducible exact Still.sliceBounds _ _ _ _ _ _
    | with_reducible refine Still.bind ?_ fun _ => ?_
    | split
    | dsimp only)
theorem Still.extract (x : Value) (i : Nat) : Still (Instr.extract x i) := by
  unfold Instr.extract
  split
  · split
    · exact .pure _
    · exact .of (.stuck _)
  · exact .of (.stuck _)
theorem Still.followBlind : ∀ (l : List FieldStep) (t : TypeId) (x : Option Value), Still (followBlind l t x)
  | [], t, x => by unfold Go.followBlind; exact .pure _
  | s :: r, t, x => by
    unfold Go.followBlind
    refine .bind (.underlying _) fun d => ?_
    split
    · split
      · split
        · exact .pure _
        · exact Still.followBlind r _ _
        · exact .of (.stuck _)
        · exact .pure _
        · exact .bind (.part _ _ _) fun _ => Still.followBlind r _ _
        · exact .of (.stuck _)
        · exact Still.followBlind r _ _
      · exact .of (.stuck _)
    · exact .of (.stuck _)
end

end Go.Proofs.Ytcepogfmajlcjaa.Ab
