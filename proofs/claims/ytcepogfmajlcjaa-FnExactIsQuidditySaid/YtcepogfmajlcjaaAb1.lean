/-
  The library's first text proves small laws of an abstract view of values and of memory.
  It holds no condition of its own.
-/
import Derived.WalkKit
import Derived.Orders
set_option linter.unusedVariables false
set_option linter.unusedSimpArgs false
namespace Go.Proofs.Ytcepogfmajlcjaa.Ab
open Go.RowKit

/-! Abstract values -/
inductive AV where
  | any
  | undef
  | bool (b : Bool)
  | int (k : IntKind) (n : Int)
  | str (s : List UInt8)
  | nilptr
  | ptr (b o : Nat)
  | nilslice
  | slice (b o n c : Nat)
  | empt
  | nilmap
  | map (b : Nat)
  | nilfunc
  | func (f : FuncId) (caps : List AV)
  | agg (cs : List AV)
  | tup (vs : List AV)

structure Pos where
  blk : Nat
  off : Nat
  sz : Nat
  tot : Nat

abbrev Bt := Nat → Option Pos

inductive RV (β : Bt) : AV → Value → Prop where
  | any (v : Value) : RV β .any v
  | undef : RV β .undef Go.undef
  | bool (b : Bool) : RV β (.bool b) (.bool b)
  | int (k : IntKind) (n : Int) : RV β (.int k n) (.int k n)
  | str (s : List UInt8) : RV β (.str s) (.string ⟨s.toArray⟩)
  | nilptr : RV β .nilptr (.pointer none)
  | ptr {b o : Nat} {p : Pos} (h : β b = some p) : RV β (.ptr b o) (.pointer (some ⟨p.blk, p.off + o, none⟩))
  | nilslice : RV β .nilslice (.slice none 0 0)
  | slice {b o n c : Nat} {p : Pos} {cap co : Nat} (h : β b = some p) (hc : c ≤ cap) (hn : n ≤ c) (ho : cap = 0 ∨ co = p.off + o)
      (ht : o = 0 → co + cap * p.sz ≤ p.tot) : RV β (.slice b o n c) (.slice (some ⟨p.blk, co, none⟩) n cap)
  | empt (a : Addr) (cap : Nat) : RV β .empt (.slice (some a) 0 cap)
  | nilmap : RV β .nilmap (.map none)
  | map {b : Nat} {p : Pos} (h : β b = some p) : RV β (.map b) (.map (some p.blk))
  | nilfunc : RV β .nilfunc .nilFunc
  | func {f : FuncId} {caps : List AV} {cvs : Array Value} (hl : caps.length = cvs.size)
      (hr : ∀ (i : Nat) (c : AV) (v : Value), caps[i]? = some c → cvs[i]? = some v → RV β c v) : RV β (.func f caps) (.func (.func f) #[] cvs)
  | agg {cs : List AV} {vs : Array Value} (hl : cs.length = vs.size)
      (hr : ∀ (i : Nat) (c : AV) (v : Value), cs[i]? = some c → vs[i]? = some v → RV β c v) : RV β (.agg cs) (.agg vs)
  | tup {cs : List AV} {vs : Array Value} (hl : cs.length = vs.size)
      (hr : ∀ (i : Nat) (c : AV) (v : Value), cs[i]? = some c → vs[i]? = some v → RV β c v) : RV β (.tup cs) (.tuple vs)

def Ext (β β' : Bt) : Prop := ∀ b p, β b = some p → β' b = some p

theorem Ext.refl (β : Bt) : Ext β β := fun _ _ h => h
theorem Ext.trans {a b c : Bt} (h : Ext a b) (k : Ext b c) : Ext a c := fun x p hx => k x p (h x p hx)

theorem RV.mono {β β' : Bt} (h : Ext β β') {a : AV} {v : Value} (r : RV β a v) : RV β' a v := by
  induction r with
  | any v => exact .any v
  | undef => exact .undef
  | bool b => exact .bool b
  | int k n => exact .int k n
  | str s => exact .str s
  | nilptr => exact .nilptr
  | ptr hb => exact .ptr (h _ _ hb)
  | nilslice => exact .nilslice
  | slice hb hc hn ho ht => exact .slice (h _ _ hb) hc hn ho ht
  | empt a cap => exact .empt a cap
  | nilmap => exact .nilmap
  | map hb => exact .map (h _ _ hb)
  | nilfunc => exact .nilfunc
  | func hl _ ih => exact .func hl ih
  | agg hl _ ih => exact .agg hl ih
  | tup hl _ ih => exact .tup hl ih

/-- lists of values, cell by cell -/
def RVs (β : Bt) (cs : List AV) (vs : List Value) : Prop :=
  cs.length = vs.length ∧ ∀ (i : Nat) (c : AV) (v : Value), cs[i]? = some c → vs[i]? = some v → RV β c v

theorem RVs.mono {β β' : Bt} (h : Ext β β') {a : List AV} {v : List Value} (r : RVs β a v) : RVs β' a v :=
  ⟨r.1, fun i c x hc hx => (r.2 i c x hc hx).mono h⟩

theorem RVs.nil (β : Bt) : RVs β [] [] := ⟨rfl, fun i c v h => by simp at h⟩

theorem RVs.cons {β : Bt} {c : AV} {v : Value} {cs : List AV} {vs : List Value} (h : RV β c v) (r : RVs β cs vs) : RVs β (c :: cs) (v :: vs) := by
  refine ⟨by simp [r.1], fun i c' v' hc hv => ?_⟩
  cases i with
  | zero => simp at hc hv; subst hc hv; exact h
  | succ i => exact r.2 i c' v' (by simpa using hc) (by simpa using hv)

theorem RVs.head {β : Bt} {c : AV} {v : Value} {cs : List AV} {vs : List Value} (r : RVs β (c :: cs) (v :: vs)) : RV β c v ∧ RVs β cs vs :=
  ⟨r.2 0 c v rfl rfl, by have := r.1; simpa using this, fun i c' v' hc hv => r.2 (i + 1) c' v' (by simpa using hc) (by simpa using hv)⟩

theorem RVs.append {β : Bt} {a b : List AV} {u v : List Value} (h : RVs β a u) (k : RVs β b v) : RVs β (a ++ b) (u ++ v) := by
  refine ⟨by simp [h.1, k.1], fun i c x hc hx => ?_⟩
  by_cases hi : i < a.length
  · rw [List.getElem?_append_left hi] at hc
    rw [List.getElem?_append_left (h.1 ▸ hi)] at hx
    exact h.2 i c x hc hx
  · rw [List.getElem?_append_right (by omega)] at hc
    rw [List.getElem?_append_right (by have := h.1; omega), ← h.1] at hx
    exact k.2 _ c x hc hx

theorem RVs.take {β : Bt} {a : List AV} {u : List Value} (h : RVs β a u) (n : Nat) : RVs β (a.take n) (u.take n) := by
  refine ⟨by simp [h.1], fun i c x hc hx => ?_⟩
  rw [List.getElem?_take] at hc hx
  split at hc
  · rename_i hi
    simp only [hi, if_true] at hx
    exact h.2 i c x hc hx
  · cases hc

theorem RVs.drop {β : Bt} {a : List AV} {u : List Value} (h : RVs β a u) (n : Nat) : RVs β (a.drop n) (u.drop n) := by
  refine ⟨by simp [h.1], fun i c x hc hx => ?_⟩
  rw [List.getElem?_drop] at hc hx
  exact h.2 _ c x hc hx

theorem RVs.set {β : Bt} {a : List AV} {u : List Value} (h : RVs β a u) (n : Nat) {c : AV} {v : Value} (r : RV β c v) : RVs β (a.set n c) (u.set n v) := by
  refine ⟨by simp [h.1], fun i c' x hc hx => ?_⟩
  rw [List.getElem?_set] at hc hx
  rw [← h.1] at hx
  by_cases hi : n = i
  · simp only [hi, if_true] at hc hx
    split at hc
    · rename_i hl
      simp only [hl, if_true] at hx
      injection hc with hc
      injection hx with hx
      subst hc hx
      exact r
    · cases hc
  · simp only [hi, if_false] at hc hx
    exact h.2 i c' x hc hx

theorem RVs.getD {β : Bt} {a : List AV} {u : List Value} (h : RVs β a u) (n : Nat) {c : AV} (hc : a[n]? = some c) : ∃ v, u[n]? = some v ∧ RV β c v := by
  have hn : n < a.length := (List.getElem?_eq_some_iff.1 hc).1
  have hu : n < u.length := h.1 ▸ hn
  exact ⟨u[n], List.getElem?_eq_getElem hu, h.2 n c _ hc (List.getElem?_eq_getElem hu)⟩

theorem RVs.replicate {β : Bt} {c : AV} {v : Value} (r : RV β c v) (n : Nat) : RVs β (List.replicate n c) (List.replicate n v) := by
  refine ⟨by simp, fun i c' x hc hx => ?_⟩
  rw [List.getElem?_replicate] at hc hx
  split at hc
  · rename_i hi
    simp only [hi, if_true] at hx
    injection hc with hc
    injection hx with hx
    subst hc hx
    exact r
  · cases hc

/-! Constants -/
def avScalar : Value → AV
  | .bool b => .bool b
  | .int k n => .int k n
  | .string s => .str s.data.toList
  | .pointer none => .nilptr
  | .slice none 0 0 => .nilslice
  | .map none => .nilmap
  | .nilFunc => .nilfunc
  | _ => .any

def avOf : Value → AV
  | .agg cs => .agg (cs.toList.map avScalar)
  | v => avScalar v

theorem rv_avScalar (β : Bt) (v : Value) : RV β (avScalar v) v := by
  unfold avScalar
  split <;> first
    | exact .bool _
    | exact .int _ _
    | exact .nilptr
    | exact .nilslice
    | exact .nilmap
    | exact .nilfunc
    | exact .any _
    | (rename_i s; obtain ⟨⟨l⟩⟩ := s; exact .str l)

theorem rv_avOf (β : Bt) (v : Value) : RV β (avOf v) v := by
  unfold avOf
  split
  · rename_i cs
    refine .agg (by simp) fun i c v hc hv => ?_
    simp only [List.getElem?_map] at hc
    rw [Array.getElem?_toList, hv] at hc
    simp at hc
    subst hc
    exact rv_avScalar β v
  · exact rv_avScalar β v

/-! What is asked of a value that is stored in one cell -/
def AV.one : AV → Bool
  | .any | .undef | .agg _ | .tup _ => false
  | _ => true

theorem RV.oneCell {β : Bt} {a : AV} {v : Value} (r : RV β a v) (h : a.one = true) : v.oneCell' = true := by
  cases r <;> first | (simp [AV.one] at h; done) | rfl

def AV.cells : AV → List AV
  | .agg cs => cs
  | v => [v]

theorem RV.cells {β : Bt} {a : AV} {v : Value} (r : RV β a v) (h : a ≠ .any) : RVs β a.cells v.cells.toList := by
  cases r with
  | any v => exact absurd rfl h
  | agg hl hr => exact ⟨by simpa [AV.cells, Value.cells] using hl, fun i c v hc hv => hr i c v hc (by simpa [Value.cells] using hv)⟩
  | undef => exact RVs.cons .undef (RVs.nil β)
  | bool b => exact RVs.cons (.bool b) (RVs.nil β)
  | int k n => exact RVs.cons (.int k n) (RVs.nil β)
  | str s => exact RVs.cons (.str s) (RVs.nil β)
  | nilptr => exact RVs.cons .nilptr (RVs.nil β)
  | ptr hb => exact RVs.cons (.ptr hb) (RVs.nil β)
  | nilslice => exact RVs.cons .nilslice (RVs.nil β)
  | slice hb hc hn ho ht => exact RVs.cons (.slice hb hc hn ho ht) (RVs.nil β)
  | empt a cap => exact RVs.cons (.empt a cap) (RVs.nil β)
  | nilmap => exact RVs.cons .nilmap (RVs.nil β)
  | map hb => exact RVs.cons (.map hb) (RVs.nil β)
  | nilfunc => exact RVs.cons .nilfunc (RVs.nil β)
  | func hl hr => exact RVs.cons (.func hl hr) (RVs.nil β)
  | tup hl hr => exact RVs.cons (.tup hl hr) (RVs.nil β)

/-! Types -/
structure TI where
  desc : TypeDesc
  size : Nat
  bytes : Nat
  zero : Value

abbrev TT := List (Nat × TI)

def tget : TT → Nat → Option TI
  | [], _ => none
  | (k, i) :: r, t => match Nat.beq k t with
    | true => some i
    | false => tget r t

structure TOk1 (P : Program) (t : Nat) (i : TI) : Prop where
  desc : P.underlying t = some i.desc
  info : (P.info? t).map (fun j => (j.size, j.bytes, j.zero)) = some (i.size, i.bytes, some i.zero)
  cells : i.zero.cells.size = i.size

def TOk (P : Program) (T : TT) : Prop := ∀ t i, tget T t = some i → TOk1 P t i

theorem TOk.nil (P : Program) : TOk P [] := fun _ _ h => by simp [tget] at h
theorem TOk.cons {P : Program} {T : TT} {k : Nat} {i : TI} (h : TOk1 P k i) (r : TOk P T) : TOk P ((k, i) :: T) := by
  intro t j hj
  unfold tget at hj
  split at hj
  · rename_i he
    injection hj with hj
    subst hj
    rw [← Nat.eq_of_beq_eq_true he]
    exact h
  · exact r t j hj

structure Env where
  P : Program
  T : TT
  tok : TOk P T
  mixed : P.follows .mixedOrders = true

section
variable {P : Program} {T : TT}
theorem TOk.under (h : TOk P T) {t : Nat} {i : TI} (ht : tget T t = some i) : P.underlying t = some i.desc := (h t i ht).desc
theorem TOk.infos (h : TOk P T) {t : Nat} {i : TI} (ht : tget T t = some i) : ∃ j, P.info? t = some j ∧ j.size = i.size ∧ j.bytes = i.bytes ∧ j.zero = some i.zero := by
  have := (h t i ht).info
  cases hj : P.info? t with
  | none => rw [hj] at this; simp at this
  | some j => rw [hj] at this; simp at this; exact ⟨j, rfl, this⟩
end

/-! Frames -/
abbrev Fr := List (Nat × AV)

def lget : Fr → Nat → AV
  | [], _ => .any
  | (k, v) :: r, t => match Nat.beq k t with
    | true => v
    | false => lget r t

theorem lget_hit (k : Nat) (v : AV) (r : Fr) : lget ((k, v) :: r) k = v := by
  have : Nat.beq k k = true := Nat.beq_refl k
  simp [lget, this]
theorem lget_miss {k t : Nat} (h : k ≠ t) (v : AV) (r : Fr) : lget ((k, v) :: r) t = lget r t := by
  have : Nat.beq k t = false := by
    cases hb : Nat.beq k t with
    | false => rfl
    | true => exact absurd (Nat.eq_of_beq_eq_true hb) h
  simp [lget, this]

/-- the frame's slots, each as it is known -/
def FrRel (β : Bt) (fr : Fr) (a : Act) : Prop := (∀ t, RV β (lget fr t) (a.tmps.getD t Go.undef)) ∧ a.defers = []

def ev (fr : Fr) : Operand → AV
  | .tmp t => lget fr t
  | .const v => avOf v
  | .global _ => .any
  | .func f => .func f []

theorem FrRel.ev {β : Bt} {fr : Fr} {a : Act} (h : FrRel β fr a) (x : Operand) : RV β (ev fr x) (a.eval x) := by
  cases x with
  | tmp t => exact h.1 t
  | const v => exact rv_avOf β v
  | global g => exact .any _
  | func f => exact .func rfl (fun i c v hc => by simp at hc)

theorem FrRel.mono {β β' : Bt} {fr : Fr} {a : Act} (he : Ext β β') (h : FrRel β fr a) : FrRel β' fr a := ⟨fun t => (h.1 t).mono he, h.2⟩

def put (fr : Fr) : Option Tmp → AV → Fr
  | none, _ => fr
  | some d, v => (d, v) :: fr

/-- the slot written must be one of the frame's -/
theorem FrRel.put {β : Bt} {fr : Fr} {a : Act} (h : FrRel β fr a) (dst : Option Tmp) {v : AV} {cv : Value} (hd : ∀ d, dst = some d → d < a.tmps.size) (r : RV β v cv) :
    FrRel β (put fr dst v) (a.put dst cv) := by
  cases dst with
  | none => exact h
  | some d =>
    refine ⟨fun t => ?_, h.2⟩
    have hd := hd d rfl
    by_cases ht : d = t
    · subst ht
      rw [Ab.put, lget_hit]
      simpa [Act.put, Array.getD_eq_getD_getElem?, hd] using r
    · rw [Ab.put, lget_miss ht]
      have := h.1 t
      simpa [Act.put, Array.getD_eq_getD_getElem?, Array.getElem?_setIfInBounds_ne ht] using this

theorem FrRel.less {β : Bt} {fr fr' : Fr} {a : Act} (h : FrRel β fr a) (hl : ∀ p, p ∈ fr' → lget fr p.1 = p.2) : FrRel β fr' a := by
  refine ⟨fun t => ?_, h.2⟩
  induction fr' with
  | nil => exact .any _
  | cons p r ih =>
    obtain ⟨k, v⟩ := p
    by_cases ht : k = t
    · subst ht
      have e : lget fr k = v := hl (k, v) (by simp)
      rw [lget_hit, ← e]
      exact h.1 k
    · rw [lget_miss ht]
      exact ih fun q hq => hl q (by simp [hq])

end Go.Proofs.Ytcepogfmajlcjaa.Ab
