/-
  The library's seventeenth text proves small rules by which two ways are parted.
  It holds no condition of its own.
-/
import Derived.Test.YtcepogfmajlcjaaAb16
set_option linter.unusedVariables false
set_option linter.unusedSimpArgs false
namespace Go.Proofs.Ytcepogfmajlcjaa.Ab
open Go.RowKit

theorem Br.dt {p : Prop} [Decidable p] {A B : Prop} (hp : p) (h : A) : Br (decide p) A B := Br.t (by simp [hp]) h
theorem Br.df {p : Prop} [Decidable p] {A B : Prop} (hp : ¬ p) (h : B) : Br (decide p) A B := Br.f (by simp [hp]) h
theorem Br.dec {p : Prop} [Decidable p] {A B : Prop} (h1 : p → A) (h2 : ¬ p → B) : Br (decide p) A B := ⟨fun e => h1 (by simpa using e), fun e => h2 (by simpa using e)⟩
theorem Br.it {a b : Int} {A B : Prop} (hp : a = b) (h : A) : Br (a == b) A B := Br.t (by simp [hp]) h
theorem Br.if {a b : Int} {A B : Prop} (hp : a ≠ b) (h : B) : Br (a == b) A B := Br.f (by simp [hp]) h
theorem Br.ieq {a b : Int} {A B : Prop} (h1 : a = b → A) (h2 : a ≠ b → B) : Br (a == b) A B := ⟨fun e => h1 (by simpa using e), fun e => h2 (by simpa using e)⟩
theorem Br.nt {a b : Int} {A B : Prop} (hp : a ≠ b) (h : A) : Br (a != b) A B := Br.t (by simp [hp]) h
theorem Br.nf {a b : Int} {A B : Prop} (hp : a = b) (h : B) : Br (a != b) A B := Br.f (by simp [hp]) h
theorem Br.ine {a b : Int} {A B : Prop} (h1 : a ≠ b → A) (h2 : a = b → B) : Br (a != b) A B := ⟨fun e => h1 (by simpa using e), fun e => h2 (by simpa using e)⟩
theorem Br.not {c : Bool} {A B : Prop} (h : Br c B A) : Br (!c) A B := ⟨fun e => h.no (by simpa using e), fun e => h.yes (by simpa using e)⟩
theorem Br.and {c d : Bool} {A B : Prop} (h : Br c (Br d A B) B) : Br (c && d) A B := by
  refine ⟨fun e => ?_, fun e => ?_⟩
  · simp only [Bool.and_eq_true] at e
    exact (h.yes e.1).yes e.2
  · cases c with
    | false => exact h.no rfl
    | true => exact (h.yes rfl).no (by simpa using e)
theorem Br.or {c d : Bool} {A B : Prop} (h : Br c A (Br d A B)) : Br (c || d) A B := by
  refine ⟨fun e => ?_, fun e => ?_⟩
  · cases c with
    | true => exact h.yes rfl
    | false => exact (h.no rfl).yes (by simpa using e)
  · simp only [Bool.or_eq_false_iff] at e
    exact (h.no e.1).no e.2
theorem Br.same {c : Bool} {A : Prop} (h : A) : Br c A A := ⟨fun _ => h, fun _ => h⟩

theorem len_le {a : ByteArray} (h : a.size ≤ maxLen) : a.data.toList.length ≤ 9223372036854775807 := by
  have e : a.data.toList.length = a.size := by
    rw [Array.length_toList]
    rfl
  unfold maxLen at h
  omega

/-- blocks that were there are there as they were -/
def Keeps (h h' : H) : Prop := ∀ b x, h b = some x → h' b = some x

theorem Keeps.refl (h : H) : Keeps h h := fun _ _ e => e
theorem Keeps.trans {a b c : H} (h : Keeps a b) (k : Keeps b c) : Keeps a c := fun x y e => k x y (h x y e)
theorem Keeps.upd {h h' : H} (k : Keeps h h') {b : Nat} (hb : h' b = none) (x : Blk) : Keeps h (upd h' b x) := by
  intro y z e
  have := k y z e
  have hne : y ≠ b := fun e => by subst e; rw [hb] at this; cases this
  rw [upd_ne _ _ hne]
  exact this
theorem Keeps.updNew {h h' : H} (k : Keeps h h') {b : Nat} (hb : h b = none) (x : Blk) : Keeps h (Ab.upd h' b x) := by
  intro y z e
  have hne : y ≠ b := fun e' => by subst e'; rw [hb] at e; cases e
  rw [upd_ne _ _ hne]
  exact k y z e
theorem Keeps.killNew {h h' : H} (k : Keeps h h') {b : Nat} (hb : h b = none) : Keeps h (kill h' b) := by
  intro y z e
  have hne : y ≠ b := fun e' => by subst e'; rw [hb] at e; cases e
  rw [kill_ne _ hne]
  exact k y z e
theorem Keeps.none {h h' : H} (k : Keeps h h') {b : Nat} (hb : h' b = Option.none) : h b = Option.none := by
  cases e : h b with
  | none => rfl
  | some x => rw [k b x e] at hb; cases hb

section
variable {E : Env} {n : Nat} {fr : Fr} {h : H} {Q : Exit → Fr → H → Prop} {c : Code}
theorem AW.loop1 {T0 : Type} (F : T0 → Fr) (I : T0 → H → Prop) (μ : T0 → Nat) (a0 : T0) (hl : Less fr (F a0)) (h0 : I a0 h)
    (round : ∀ a h, I a h → AW E n c (F a) h (thenK (fun fr' h' => ∃ a', Less fr' (F a') ∧ I a' h' ∧ μ a' < μ a) Q)) : AW E n (.loop c) fr h Q :=
  AW.loop (α := T0) (fun x => F x) (fun x h => I x h) (fun x => μ x) a0 hl h0 fun x h hI => (round x h hI).mono fun e fr h k => by
    cases e with
    | normal =>
      obtain ⟨a', h1, h2, h3⟩ := k
      exact ⟨a', h1, h2, h3⟩
    | _ => exact k
theorem AW.loop2 {T0 T1 : Type} (F : T0 → T1 → Fr) (I : T0 → T1 → H → Prop) (μ : T0 → T1 → Nat) (a0 : T0) (b0 : T1) (hl : Less fr (F a0 b0)) (h0 : I a0 b0 h)
    (round : ∀ a b h, I a b h → AW E n c (F a b) h (thenK (fun fr' h' => ∃ a' b', Less fr' (F a' b') ∧ I a' b' h' ∧ μ a' b' < μ a b) Q)) : AW E n (.loop c) fr h Q :=
  AW.loop (α := T0 × T1) (fun x => F x.1 x.2) (fun x h => I x.1 x.2 h) (fun x => μ x.1 x.2) (a0, b0) hl h0 fun x h hI => (round x.1 x.2 h hI).mono fun e fr h k => by
    cases e with
    | normal =>
      obtain ⟨a', b', h1, h2, h3⟩ := k
      exact ⟨(a', b'), h1, h2, h3⟩
    | _ => exact k
theorem AW.loop3 {T0 T1 T2 : Type} (F : T0 → T1 → T2 → Fr) (I : T0 → T1 → T2 → H → Prop) (μ : T0 → T1 → T2 → Nat) (a0 : T0) (b0 : T1) (c10 : T2) (hl : Less fr (F a0 b0 c10)) (h0 : I a0 b0 c10 h)
    (round : ∀ a b c1 h, I a b c1 h → AW E n c (F a b c1) h (thenK (fun fr' h' => ∃ a' b' c1', Less fr' (F a' b' c1') ∧ I a' b' c1' h' ∧ μ a' b' c1' < μ a b c1) Q)) : AW E n (.loop c) fr h Q :=
  AW.loop (α := T0 × T1 × T2) (fun x => F x.1 x.2.1 x.2.2) (fun x h => I x.1 x.2.1 x.2.2 h) (fun x => μ x.1 x.2.1 x.2.2) (a0, b0, c10) hl h0 fun x h hI => (round x.1 x.2.1 x.2.2 h hI).mono fun e fr h k => by
    cases e with
    | normal =>
      obtain ⟨a', b', c1', h1, h2, h3⟩ := k
      exact ⟨(a', b', c1'), h1, h2, h3⟩
    | _ => exact k
theorem AW.loop4 {T0 T1 T2 T3 : Type} (F : T0 → T1 → T2 → T3 → Fr) (I : T0 → T1 → T2 → T3 → H → Prop) (μ : T0 → T1 → T2 → T3 → Nat) (a0 : T0) (b0 : T1) (c10 : T2) (d0 : T3) (hl : Less fr (F a0 b0 c10 d0)) (h0 : I a0 b0 c10 d0 h)
    (round : ∀ a b c1 d h, I a b c1 d h → AW E n c (F a b c1 d) h (thenK (fun fr' h' => ∃ a' b' c1' d', Less fr' (F a' b' c1' d') ∧ I a' b' c1' d' h' ∧ μ a' b' c1' d' < μ a b c1 d) Q)) : AW E n (.loop c) fr h Q :=
  AW.loop (α := T0 × T1 × T2 × T3) (fun x => F x.1 x.2.1 x.2.2.1 x.2.2.2) (fun x h => I x.1 x.2.1 x.2.2.1 x.2.2.2 h) (fun x => μ x.1 x.2.1 x.2.2.1 x.2.2.2) (a0, b0, c10, d0) hl h0 fun x h hI => (round x.1 x.2.1 x.2.2.1 x.2.2.2 h hI).mono fun e fr h k => by
    cases e with
    | normal =>
      obtain ⟨a', b', c1', d', h1, h2, h3⟩ := k
      exact ⟨(a', b', c1', d'), h1, h2, h3⟩
    | _ => exact k
theorem AW.loop5 {T0 T1 T2 T3 T4 : Type} (F : T0 → T1 → T2 → T3 → T4 → Fr) (I : T0 → T1 → T2 → T3 → T4 → H → Prop) (μ : T0 → T1 → T2 → T3 → T4 → Nat) (a0 : T0) (b0 : T1) (c10 : T2) (d0 : T3) (e0 : T4) (hl : Less fr (F a0 b0 c10 d0 e0)) (h0 : I a0 b0 c10 d0 e0 h)
    (round : ∀ a b c1 d e h, I a b c1 d e h → AW E n c (F a b c1 d e) h (thenK (fun fr' h' => ∃ a' b' c1' d' e', Less fr' (F a' b' c1' d' e') ∧ I a' b' c1' d' e' h' ∧ μ a' b' c1' d' e' < μ a b c1 d e) Q)) : AW E n (.loop c) fr h Q :=
  AW.loop (α := T0 × T1 × T2 × T3 × T4) (fun x => F x.1 x.2.1 x.2.2.1 x.2.2.2.1 x.2.2.2.2) (fun x h => I x.1 x.2.1 x.2.2.1 x.2.2.2.1 x.2.2.2.2 h) (fun x => μ x.1 x.2.1 x.2.2.1 x.2.2.2.1 x.2.2.2.2) (a0, b0, c10, d0, e0) hl h0 fun x h hI => (round x.1 x.2.1 x.2.2.1 x.2.2.2.1 x.2.2.2.2 h hI).mono fun e fr h k => by
    cases e with
    | normal =>
      obtain ⟨a', b', c1', d', e', h1, h2, h3⟩ := k
      exact ⟨(a', b', c1', d', e'), h1, h2, h3⟩
    | _ => exact k
theorem AW.loop6 {T0 T1 T2 T3 T4 T5 : Type} (F : T0 → T1 → T2 → T3 → T4 → T5 → Fr) (I : T0 → T1 → T2 → T3 → T4 → T5 → H → Prop) (μ : T0 → T1 → T2 → T3 → T4 → T5 → Nat) (a0 : T0) (b0 : T1) (c10 : T2) (d0 : T3) (e0 : T4) (f0 : T5) (hl : Less fr (F a0 b0 c10 d0 e0 f0)) (h0 : I a0 b0 c10 d0 e0 f0 h)
    (round : ∀ a b c1 d e f h, I a b c1 d e f h → AW E n c (F a b c1 d e f) h (thenK (fun fr' h' => ∃ a' b' c1' d' e' f', Less fr' (F a' b' c1' d' e' f') ∧ I a' b' c1' d' e' f' h' ∧ μ a' b' c1' d' e' f' < μ a b c1 d e f) Q)) : AW E n (.loop c) fr h Q :=
  AW.loop (α := T0 × T1 × T2 × T3 × T4 × T5) (fun x => F x.1 x.2.1 x.2.2.1 x.2.2.2.1 x.2.2.2.2.1 x.2.2.2.2.2) (fun x h => I x.1 x.2.1 x.2.2.1 x.2.2.2.1 x.2.2.2.2.1 x.2.2.2.2.2 h) (fun x => μ x.1 x.2.1 x.2.2.1 x.2.2.2.1 x.2.2.2.2.1 x.2.2.2.2.2) (a0, b0, c10, d0, e0, f0) hl h0 fun x h hI => (round x.1 x.2.1 x.2.2.1 x.2.2.2.1 x.2.2.2.2.1 x.2.2.2.2.2 h hI).mono fun e fr h k => by
    cases e with
    | normal =>
      obtain ⟨a', b', c1', d', e', f', h1, h2, h3⟩ := k
      exact ⟨(a', b', c1', d', e', f'), h1, h2, h3⟩
    | _ => exact k
theorem AW.loop7 {T0 T1 T2 T3 T4 T5 T6 : Type} (F : T0 → T1 → T2 → T3 → T4 → T5 → T6 → Fr) (I : T0 → T1 → T2 → T3 → T4 → T5 → T6 → H → Prop) (μ : T0 → T1 → T2 → T3 → T4 → T5 → T6 → Nat) (a0 : T0) (b0 : T1) (c10 : T2) (d0 : T3) (e0 : T4) (f0 : T5) (g0 : T6) (hl : Less fr (F a0 b0 c10 d0 e0 f0 g0)) (h0 : I a0 b0 c10 d0 e0 f0 g0 h)
    (round : ∀ a b c1 d e f g h, I a b c1 d e f g h → AW E n c (F a b c1 d e f g) h (thenK (fun fr' h' => ∃ a' b' c1' d' e' f' g', Less fr' (F a' b' c1' d' e' f' g') ∧ I a' b' c1' d' e' f' g' h' ∧ μ a' b' c1' d' e' f' g' < μ a b c1 d e f g) Q)) : AW E n (.loop c) fr h Q :=
  AW.loop (α := T0 × T1 × T2 × T3 × T4 × T5 × T6) (fun x => F x.1 x.2.1 x.2.2.1 x.2.2.2.1 x.2.2.2.2.1 x.2.2.2.2.2.1 x.2.2.2.2.2.2) (fun x h => I x.1 x.2.1 x.2.2.1 x.2.2.2.1 x.2.2.2.2.1 x.2.2.2.2.2.1 x.2.2.2.2.2.2 h) (fun x => μ x.1 x.2.1 x.2.2.1 x.2.2.2.1 x.2.2.2.2.1 x.2.2.2.2.2.1 x.2.2.2.2.2.2) (a0, b0, c10, d0, e0, f0, g0) hl h0 fun x h hI => (round x.1 x.2.1 x.2.2.1 x.2.2.2.1 x.2.2.2.2.1 x.2.2.2.2.2.1 x.2.2.2.2.2.2 h hI).mono fun e fr h k => by
    cases e with
    | normal =>
      obtain ⟨a', b', c1', d', e', f', g', h1, h2, h3⟩ := k
      exact ⟨(a', b', c1', d', e', f', g'), h1, h2, h3⟩
    | _ => exact k
end

end Go.Proofs.Ytcepogfmajlcjaa.Ab
