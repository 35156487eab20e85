/-
  The library's seventeenth text proves small rules by which two ways are parted.
  It holds no condition of its own.
-/
import Derived.Test.YtcnbmghfmicfnaaAb16
namespace Go.Proofs.Ytcnbmghfmicfnaa.Ab
open Go.RowKit

theorem Br.dt {p : Prop} [Decidable p] {A B : Prop} (hp : p) (h : A) : Br (decide p) A B := Br.t (by simp [hp]) h
theorem Br.df {p : Prop} [Decidable p] {A B : Prop} (hp : ¬ p) (h : B) : Br (decide p) A B := Br.f (by simp [hp]) h
theorem Br.dec {p : Prop} [Decidable p] {A B : Prop} (h1 : p → A) (h2 : ¬ p → B) : Br (decide p) A B := ⟨fun e => h1 (by simpa using e), fun e => h2 (by simpa using e)⟩
theorem Br.it {a b : Int} {A B : Prop} (hp : a = b) (h : A) : Br (a == b) A B := Br.t (by simp [hp]) h
theorem Br.if {a b : Int} {A B : Prop} (hp : a ≠ b) (h : B) : Br (a == b) A B := Br.f (by simp [hp]) h
theorem Br.ieq {a b : Int} {A B : Prop} (h1 : a = b → A) (h2 : a ≠ b → B) : Br (a == b) A B := ⟨fun e => h1 (by simpa using e), fun e => h2 (by simpa using e)⟩
theorem Br.nt {a b : Int} {A B : Prop} (hp : a ≠ b) (h : A) : Br (a != b) A B := Br.t (by simp [hp]) h
theorem Br.nf {a b : Int} {A B : Prop} (hp : a = b) (h : B) : Br (a != b) A B := Br.f (by simp [hp]) h
theorem Br.ine {a b : Int} {A B : Prop} (h1 : a ≠ b → A) (h2 : a = b → B) : Br (a != b) A B := ⟨fun e => h1 (by simpa using e), fun e => h2 (by simpa using e)⟩
theorem Br.not {c : Bool} {A B : Prop} (h : Br c B A) : Br (!c) A B := ⟨fun e => h.no (by simpa using e), fun e => h.yes (by simpa using e)⟩
theorem Br.and {c d : Bool} {A B : Prop} (h : Br c (Br d A B) B) : Br (c && d) A B := by
  refine ⟨fun e => ?_, fun e => ?_⟩
  · simp only [Bool.and_eq_true] at e
    exact (h.yes e.1).yes e.2
  · cases c with
    | false => exact h.no rfl
    | true => exact (h.yes rfl).no (by simpa using e)
theorem Br.or {c d : Bool} {A B : Prop} (h : Br c A (Br d A B)) : Br (c || d) A B := by
  refine ⟨fun e => ?_, fun e => ?_⟩
  · cases c with
    | true => exact h.yes rfl
    | false => exact (h.no rfl).yes (by simpa using e)
  · simp only [Bool.or_eq_false_iff] at e
    exact (h.no e.1).no e.2
theorem Br.same {c : Bool} {A : Prop} (h : A) : Br c A A := ⟨fun _ => h, fun _ => h⟩

theorem len_le {a : ByteArray} (h : a.size ≤ maxLen) : a.data.toList.length ≤ 9223372036854775807 := by
  have e : a.data.toList.length = a.size := by
    rw [Array.length_toList]
    rfl
  unfold maxLen at h
  omega

/-- blocks that were there are there as they were -/
def Keeps (h h' : H) : Prop := ∀ b x, h b = some x → h' b = some x

theorem Keeps.refl (h : H) : Keeps h h := fun _ _ e => e
theorem Keeps.trans {a b c : H} (h : Keeps a b) (k : Keeps b c) : Keeps a c := fun x y e => k x y (h x y e)
theorem Keeps.upd {h h' : H} (k : Keeps h h') {b : Nat} (hb : h' b = none) (x : Blk) : Keeps h (upd h' b x) := by
  intro y z e
  have := k y z e
  have hne : y ≠ b := fun e => by subst e; rw [hb] at this; cases this
  rw [upd_ne _ _ hne]
  exact this
theorem Keeps.updNew {h h' : H} (k : Keeps h h') {b : Nat} (hb : h b = none) (x : Blk) : Keeps h (Ab.upd h' b x) := by
  intro y z e
  have hne : y ≠ b := fun e' => by subst e'; rw [hb] at e; cases e
  rw [upd_ne _ _ hne]
  exact k y z e
theorem Keeps.killNew {h h' : H} (k : Keeps h h') {b : Nat} (hb : h b = none) : Keeps h (kill h' b) := by
  intro y z e
  have hne : y ≠ b := fun e' => by subst e'; rw [hb] at e; cases e
  rw [kill_ne _ hne]
  exact k y z e
theorem Keeps.none {h h' : H} (k : Keeps h h') {b : Nat} (hb : h' b = Option.none) : h b = Option.none := by
  cases e : h b with
  | none => rfl
  | some x => rw [k b x e] at hb; cases hb

end Go.Proofs.Ytcnbmghfmicfnaa.Ab
