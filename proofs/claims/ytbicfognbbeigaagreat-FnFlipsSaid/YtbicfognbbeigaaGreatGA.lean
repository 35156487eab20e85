/-
  The library's first text proves small laws of an abstract view of values and of memory.
  It holds no condition of its own.
-/
import Derived.WalkKit
import Derived.Orders
set_option linter.unusedVariables false
set_option linter.unusedSimpArgs false
namespace Go.Proofs.YtbicfognbbeigaaGreat.Ab
open Go.RowKit

/-! Abstract values -/
inductive AV where
  | any
  | undef
  | bool (b : Bool)
  | int (k : IntKind) (n : Int)
  | str (s : List UInt8)
  | nilptr
  | ptr (b o : Nat)
  | nilslice
  | slice (b o n c : Nat)
  | empt
  | nilmap
  | map (b : Nat)
  | nilfunc
  | func (f : FuncId) (caps : List AV)
  | agg (cs : List AV)
  | tup (vs : List AV)

structure Pos where
  blk : Nat
  off : Nat
  sz : Nat
  tot : Nat

abbrev Bt := Nat → Option Pos

inductive RV (β : Bt) : AV → Value → Prop where
  | any (v : Value) : RV β .any v
  | undef : RV β .undef Go.undef
  | bool (b : Bool) : RV β (.bool b) (.bool b)
  | int (k : IntKind) (n : Int) : RV β (.int k n) (.int k n)
  | str (s : List UInt8) : RV β (.str s) (.string ⟨s.toArray⟩)
  | nilptr : RV β .nilptr (.pointer none)
  | ptr {b o : Nat} {p : Pos} (h : β b = some p) : RV β (.ptr b o) (.pointer (some ⟨p.blk, p.off + o, none⟩))
  | nilslice : RV β .nilslice (.slice none 0 0)
  | slice {b o n c : Nat} {p : Pos} {cap co : Nat} (h : β b = some p) (hc : c ≤ cap) (hn : n ≤ c) (ho : cap = 0 ∨ co = p.off + o)
      (ht : o = 0 → co + cap * p.sz ≤ p.tot) : RV β (.slice b o n c) (.slice (some ⟨p.blk, co, none⟩) n cap)
  | empt (a : Addr) (cap : Nat) : RV β .empt (.slice (some a) 0 cap)
  | nilmap : RV β .nilmap (.map none)
  | map {b : Nat} {p : Pos} (h : β b = some p) : RV β (.map b) (.map (some p.blk))
  | nilfunc : RV β .nilfunc .nilFunc
  | func {f : FuncId} {caps : List AV} {cvs : Array Value} (hl : caps.length = cvs.size)
      (hr : ∀ (i : Nat) (c : AV) (v : Value), caps[i]? = some c → cvs[i]? = some v → RV β c v) : RV β (.func f caps) (.func (.func f) #[] cvs)
  | agg {cs : List AV} {vs : Array Value} (hl : cs.length = vs.size)
      (hr : ∀ (i : Nat) (c : AV) (v : Value), cs[i]? = some c → vs[i]? = some v → RV β c v) : RV β (.agg cs) (.agg vs)
  | tup {cs : List AV} {vs : Array Value} (hl : cs.length = vs.size)
      (hr : ∀ (i : Nat) (c : AV) (v : Value), cs[i]? = some c → vs[i]? = some v → RV β c v) : RV β (.tup cs) (.tuple vs)

def Ext (β β' : Bt) : Prop := ∀ b p, β b = some p → β' b = some p

theorem Ext.refl (β : Bt) : Ext β β := fun _ _ h => h
theorem Ext.trans {a b c : Bt} (h : Ext a b) (k : Ext b c) : Ext a c := fun x p hx => k x p (h x p hx)

theorem RV.mono {β β' : Bt} (h : Ext β β') {a : AV} {v : Value} (r : RV β a v) : RV β' a v := by
  induction r with
  | any v => exact .any v
  | undef => exact .undef
  | bool b => exact .bool b
  | int k n => exact .int k n
  | str s => exact .str s
  | nilptr => exact .nilptr
  | ptr hb => exact .ptr (h _ _ hb)
  | nilslice => exact .nilslice
  | slice hb hc hn ho ht => exact .slice (h _ _ hb) hc hn ho ht
  | empt a cap => exact .empt a cap
  | nilmap => exact .nilmap
  | map hb => exact .map (h _ _ hb)
  | nilfunc => exact .nilfunc
  | func hl _ ih => exact .func hl ih
  | agg hl _ ih => exact .agg hl ih
  | tup hl _ ih => exact .tup hl ih

/-- lists of values, cell by cell -/
def RVs (β : Bt) (cs : List AV) (vs : List Value) : Prop :=
  cs.length = vs.length ∧ ∀ (i : Nat) (c : AV) (v : Value), cs[i]? = some c → vs[i]? = some v → RV β c v

theorem RVs.mono {β β' : Bt} (h : Ext β β') {a : List AV} {v : List Value} (r : RVs β a v) : RVs β' a v :=
  ⟨r.1, fun i c x hc hx => (r.2 i c x hc hx).mono h⟩

theorem RVs.nil (β : Bt) : RVs β [] [] := ⟨rfl, fun i c v h => by simp at h⟩

theorem RVs.cons {β : Bt} {c : AV} {v : Value} {cs : List AV} {vs : List Value} (h : RV β c v) (r : RVs β cs vs) : RVs β (c :: cs) (v :: vs) := by
  refine ⟨by simp [r.1], fun i c' v' hc hv => ?_⟩
  cases i with
  | zero => simp at hc hv; subst hc hv; exact h
  | succ i => exact r.2 i c' v' (by simpa using hc) (by simpa using hv)

theorem RVs.head {β : Bt} {c : AV} {v : Value} {cs : List AV} {vs : List Value} (r : RVs β (c :: cs) (v :: vs)) : RV β c v ∧ RVs β cs vs :=
  ⟨r.2 0 c v rfl rfl, by have := r.1; simpa using this, fun i c' v' hc hv => r.2 (i + 1) c' v' (by simpa using hc) (by simpa using hv)⟩

theorem RVs.append {β : Bt} {a b : List AV} {u v : List Value} (h : RVs β a u) (k : RVs β b v) : RVs β (a ++ b) (u ++ v) := by
  refine ⟨by simp [h.1, k.1], fun i c x hc hx => ?_⟩
  by_cases hi : i < a.length
  · rw [List.getElem?_append_left hi] at hc
    rw [List.getElem?_append_left (h.1 ▸ hi)] at hx
    exact h.2 i c x hc hx
  · rw [List.getElem?_append_right (by omega)] at hc
    rw [List.getElem?_append_right (by have := h.1; omega), ← h.1] at hx
    exact k.2 _ c x hc hx

theorem RVs.take {β : Bt} {a : List AV} {u : List Value} (h : RVs β a u) (n : Nat) : RVs β (a.take n) (u.take n) := by
  refine ⟨by simp [h.1], fun i c x hc hx => ?_⟩
  rw [List.getElem?_take] at hc hx
  split at hc
  · rename_i hi
    simp only [hi, if_true] at hx
    exact h.2 i c x hc hx
  · cases hc

theorem RVs.drop {β : Bt} {a : List AV} {u : List Value} (h : RVs β a u) (n : Nat) : RVs β (a.drop n) (u.drop n) := by
  refine ⟨by simp [h.1], fun i c x hc hx => ?_⟩
  rw [List.getElem?_drop] at hc hx
  exact h.2 _ c x hc hx

theorem RVs.set {β : Bt} {a : List AV} {u : List Value} (h : RVs β a u) (n : Nat) {c : AV} {v : Value} (r : RV β c v) : RVs β (a.set n c) (u.set n v) := by
  refine ⟨by simp [h.1], fun i c' x hc hx => ?_⟩
  rw [List.getElem?_set] at hc hx
  rw [← h.1] at hx
  by_cases hi : n = i
  · simp only [hi, if_true] at hc hx
    split at hc
    · rename_i hl
      simp only [hl, if_true] at hx
      injection hc with hc
      injection hx with hx
      subst hc hx
      exact r
    · cases hc
  · simp only [hi, if_false] at hc hx
    exact h.2 i c' x hc hx

theorem RVs.getD {β : Bt} {a : List AV} {u : List Value} (h : RVs β a u) (n : Nat) {c : AV} (hc : a[n]? = some c) : ∃ v, u[n]? = some v ∧ RV β c v := by
  have hn : n < a.length := (List.getElem?_eq_some_iff.1 hc).1
  have hu : n < u.length := h.1 ▸ hn
  exact ⟨u[n], List.getElem?_eq_getElem hu, h.2 n c _ hc (List.getElem?_eq_getElem hu)⟩

theorem RVs.replicate {β : Bt} {c : AV} {v : Value} (r : RV β c v) (n : Nat) : RVs β (List.replicate n c) (List.replicate n v) := by
  refine ⟨by simp, fun i c' x hc hx => ?_⟩
  rw [List.getElem?_replicate] at hc hx
  split at hc
  · rename_i hi
    simp only [hi, if_true] at hx
    injection hc with hc
    injection hx with hx
    subst hc hx
    exact r
  · cases hc

/-! Constants -/
def avScalar : Value → AV
  | .bool b => .bool b
  | .int k n => .int k n
  | .string s => .str s.data.toList
  | .pointer none => .nilptr
  | .slice none 0 0 => .nilslice
  | .map none => .nilmap
  | .nilFunc => .nilfunc
  | _ => .any

def avOf : Value → AV
  | .agg cs => .agg (cs.toList.map avScalar)
  | v => avScalar v

theorem rv_avScalar (β : Bt) (v : Value) : RV β (avScalar v) v := by
  unfold avScalar
  split <;> first
    | exact .bool _
    | exact .int _ _
    | exact .nilptr
    | exact .nilslice
    | exact .nilmap
    | exact .nilfunc
    | exact .any _
    | (rename_i s; obtain ⟨⟨l⟩⟩ := s; exact .str l)

theorem rv_avOf (β : Bt) (v : Value) : RV β (avOf v) v := by
  unfold avOf
  split
  · rename_i cs
    refine .agg (by simp) fun i c v hc hv => ?_
    simp only [List.getElem?_map] at hc
    rw [Array.getElem?_toList, hv] at hc
    simp at hc
    subst hc
    exact rv_avScalar β v
  · exact rv_avScalar β v

/-! What is asked of a value that is stored in one cell -/
def AV.one : AV → Bool
  | .any | .undef | .agg _ | .tup _ => false
  | _ => true

theorem RV.oneCell {β : Bt} {a : AV} {v : Value} (r : RV β a v) (h : a.one = true) : v.oneCell' = true := by
  cases r <;> first | (simp [AV.one] at h; done) | rfl

def AV.cells : AV → List AV
  | .agg cs => cs
  | v => [v]

theorem RV.cells {β : Bt} {a : AV} {v : Value} (r : RV β a v) (h : a ≠ .any) : RVs β a.cells v.cells.toList := by
  cases r with
  | any v => exact absurd rfl h
  | agg hl hr => exact ⟨by simpa [AV.cells, Value.cells] using hl, fun i c v hc hv => hr i c v hc (by simpa [Value.cells] using hv)⟩
  | undef => exact RVs.cons .undef (RVs.nil β)
  | bool b => exact RVs.cons (.bool b) (RVs.nil β)
  | int k n => exact RVs.cons (.int k n) (RVs.nil β)
  | str s => exact RVs.cons (.str s) (RVs.nil β)
  | nilptr => exact RVs.cons .nilptr (RVs.nil β)
  | ptr hb => exact RVs.cons (.ptr hb) (RVs.nil β)
  | nilslice => exact RVs.cons .nilslice (RVs.nil β)
  | slice hb hc hn ho ht => exact RVs.cons (.slice hb hc hn ho ht) (RVs.nil β)
  | empt a cap => exact RVs.cons (.empt a cap) (RVs.nil β)
  | nilmap => exact RVs.cons .nilmap (RVs.nil β)
  | map hb => exact RVs.cons (.map hb) (RVs.nil β)
  | nilfunc => exact RVs.cons .nilfunc (RVs.nil β)
  | func hl hr => exact RVs.cons (.func hl hr) (RVs.nil β)
  | tup hl hr => exact RVs.cons (.tup hl hr) (RVs.nil β)

/-! Types -/
structure TI where
  desc : TypeDesc
  size : Nat
  bytes : Nat
  zero : Value

abbrev TT := List (Nat × TI)

def tget : TT → Nat → Option TI
  | [], _ => none
  | (k, i) :: r, t => match Nat.beq k t with
    | true => some i
    | false => tget r t

structure TOk1 (P : Program) (t : Nat) (i : TI) : Prop where
  desc : P.underlying t = some i.desc
  info : (P.info? t).map (fun j => (j.size, j.bytes, j.zero)) = some (i.size, i.bytes, some i.zero)
  cells : i.zero.cells.size = i.size

def TOk (P : Program) (T : TT) : Prop := ∀ t i, tget T t = some i → TOk1 P t i

theorem TOk.nil (P : Program) : TOk P [] := fun _ _ h => by simp [tget] at h
theorem TOk.cons {P : Program} {T : TT} {k : Nat} {i : TI} (h : TOk1 P k i) (r : TOk P T) : TOk P ((k, i) :: T) := by
  intro t j hj
  unfold tget at hj
  split at hj
  · rename_i he
    injection hj with hj
    subst hj
    rw [← Nat.eq_of_beq_eq_true he]
    exact h
  · exact r t j hj

structure Env where
  P : Program
  T : TT
  tok : TOk P T
  mixed : P.follows .mixedOrders = true

section
variable {P : Program} {T : TT}
theorem TOk.under (h : TOk P T) {t : Nat} {i : TI} (ht : tget T t = some i) : P.underlying t = some i.desc := (h t i ht).desc
theorem TOk.infos (h : TOk P T) {t : Nat} {i : TI} (ht : tget T t = some i) : ∃ j, P.info? t = some j ∧ j.size = i.size ∧ j.bytes = i.bytes ∧ j.zero = some i.zero := by
  have := (h t i ht).info
  cases hj : P.info? t with
  | none => rw [hj] at this; simp at this
  | some j => rw [hj] at this; simp at this; exact ⟨j, rfl, this⟩
end

/-! Frames -/
abbrev Fr := List (Nat × AV)

def lget : Fr → Nat → AV
  | [], _ => .any
  | (k, v) :: r, t => match Nat.beq k t with
    | true => v
    | false => lget r t

theorem lget_hit (k : Nat) (v : AV) (r : Fr) : lget ((k, v) :: r) k = v := by
  have : Nat.beq k k = true := Nat.beq_refl k
  simp [lget, this]
theorem lget_miss {k t : Nat} (h : k ≠ t) (v : AV) (r : Fr) : lget ((k, v) :: r) t = lget r t := by
  have : Nat.beq k t = false := by
    cases hb : Nat.beq k t with
    | false => rfl
    | true => exact absurd (Nat.eq_of_beq_eq_true hb) h
  simp [lget, this]

/-- the frame's slots, each as it is known -/
def FrRel (β : Bt) (fr : Fr) (a : Act) : Prop := (∀ t, RV β (lget fr t) (a.tmps.getD t Go.undef)) ∧ a.defers = []

def ev (fr : Fr) : Operand → AV
  | .tmp t => lget fr t
  | .const v => avOf v
  | .global _ => .any
  | .func f => .func f []

theorem FrRel.ev {β : Bt} {fr : Fr} {a : Act} (h : FrRel β fr a) (x : Operand) : RV β (ev fr x) (a.eval x) := by
  cases x with
  | tmp t => exact h.1 t
  | const v => exact rv_avOf β v
  | global g => exact .any _
  | func f => exact .func rfl (fun i c v hc => by simp at hc)

theorem FrRel.mono {β β' : Bt} {fr : Fr} {a : Act} (he : Ext β β') (h : FrRel β fr a) : FrRel β' fr a := ⟨fun t => (h.1 t).mono he, h.2⟩

def put (fr : Fr) : Option Tmp → AV → Fr
  | none, _ => fr
  | some d, v => (d, v) :: fr

/-- the slot written must be one of the frame's -/
theorem FrRel.put {β : Bt} {fr : Fr} {a : Act} (h : FrRel β fr a) (dst : Option Tmp) {v : AV} {cv : Value} (hd : ∀ d, dst = some d → d < a.tmps.size) (r : RV β v cv) :
    FrRel β (put fr dst v) (a.put dst cv) := by
  cases dst with
  | none => exact h
  | some d =>
    refine ⟨fun t => ?_, h.2⟩
    have hd := hd d rfl
    by_cases ht : d = t
    · subst ht
      rw [Ab.put, lget_hit]
      simpa [Act.put, Array.getD_eq_getD_getElem?, hd] using r
    · rw [Ab.put, lget_miss ht]
      have := h.1 t
      simpa [Act.put, Array.getD_eq_getD_getElem?, Array.getElem?_setIfInBounds_ne ht] using this

theorem FrRel.less {β : Bt} {fr fr' : Fr} {a : Act} (h : FrRel β fr a) (hl : ∀ p, p ∈ fr' → lget fr p.1 = p.2) : FrRel β fr' a := by
  refine ⟨fun t => ?_, h.2⟩
  induction fr' with
  | nil => exact .any _
  | cons p r ih =>
    obtain ⟨k, v⟩ := p
    by_cases ht : k = t
    · subst ht
      have e : lget fr k = v := hl (k, v) (by simp)
      rw [lget_hit, ← e]
      exact h.1 k
    · rw [lget_miss ht]
      exact ih fun q hq => hl q (by simp [hq])

end Go.Proofs.YtbicfognbbeigaaGreat.Ab

/-
  The library's second text proves laws of an abstract memory that stands for the real one.
  It holds no condition of its own.
-/
set_option linter.unusedVariables false
set_option linter.unusedSimpArgs false
namespace Go.Proofs.YtbicfognbbeigaaGreat.Ab
open Go.RowKit

inductive Blk where
  | cells (own : Bool) (sz : Nat) (cs : List AV)
  | map (es : List (AV × AV))

def Blk.own : Blk → Bool
  | .cells o _ _ => o
  | .map _ => true

abbrev H := Nat → Option Blk

def upd (h : H) (b : Nat) (x : Blk) : H := fun y => if y = b then some x else h y
def kill (h : H) (b : Nat) : H := fun y => if y = b then none else h y

theorem upd_same (h : H) (b : Nat) (x : Blk) : upd h b x b = some x := by simp [upd]
theorem upd_ne (h : H) {b y : Nat} (x : Blk) (hy : y ≠ b) : upd h b x y = h y := by simp [upd, hy]
theorem kill_same (h : H) (b : Nat) : kill h b b = none := by simp [kill]
theorem kill_ne (h : H) {b y : Nat} (hy : y ≠ b) : kill h b y = h y := by simp [kill, hy]

/-- one block as it lies -/
def BlkRel (base : Nat) (β : Bt) (p : Pos) (w : World) : Blk → Prop
  | .cells own sz cs => ∃ arr e frz, w.heap[p.blk]? = some (.cells arr e frz) ∧ p.sz = sz ∧ p.off + cs.length ≤ arr.size ∧
      RVs β cs ((arr.toList.drop p.off).take cs.length) ∧
      (own = true → base ≤ p.blk ∧ p.off = 0 ∧ arr.size = p.tot ∧ ∀ i, i < arr.size → ¬(frz.1 ≤ i ∧ i < frz.2)) ∧ (own = false → p.blk < base)
  | .map es => base ≤ p.blk ∧ ∃ ents clk, w.heap[p.blk]? = some (.map ents clk) ∧ RVs β (es.map (·.1)) (ents.toList.map (·.key)) ∧
      RVs β (es.map (·.2)) (ents.toList.map (·.val))

structure Sim (base : Nat) (W0 : World) (β : Bt) (nxt : Nat) (h : H) (w : World) : Prop where
  below : Below base W0 w
  ge : base ≤ w.heap.size
  fresh : ∀ b, nxt ≤ b → β b = none
  live : ∀ b x, h b = some x → ∃ p, β b = some p ∧ BlkRel base β p w x
  inj : ∀ b b' x x' p p', h b = some x → h b' = some x' → x.own = true → x'.own = true → β b = some p → β b' = some p' → p.blk = p'.blk → b = b'

theorem BlkRel.mono {base : Nat} {β β' : Bt} {p : Pos} {w : World} {x : Blk} (he : Ext β β') (r : BlkRel base β p w x) : BlkRel base β' p w x := by
  cases x with
  | cells own sz cs =>
    obtain ⟨arr, e, frz, h1, h2, h3, h4, h5⟩ := r
    exact ⟨arr, e, frz, h1, h2, h3, h4.mono he, h5⟩
  | map es =>
    obtain ⟨h0, ents, clk, h1, h2, h3⟩ := r
    exact ⟨h0, ents, clk, h1, h2.mono he, h3.mono he⟩

theorem BlkRel.world {base : Nat} {β : Bt} {p : Pos} {w w' : World} {x : Blk} (hw : w'.heap[p.blk]? = w.heap[p.blk]?) (r : BlkRel base β p w x) : BlkRel base β p w' x := by
  cases x with
  | cells own sz cs =>
    obtain ⟨arr, e, frz, h1, h2⟩ := r
    exact ⟨arr, e, frz, hw.trans h1, h2⟩
  | map es =>
    obtain ⟨h0, ents, clk, h1, h2⟩ := r
    exact ⟨h0, ents, clk, hw.trans h1, h2⟩

theorem BlkRel.lt {base : Nat} {β : Bt} {p : Pos} {w : World} {x : Blk} (r : BlkRel base β p w x) : p.blk < w.heap.size := by
  cases x with
  | cells own sz cs =>
    obtain ⟨arr, e, frz, h1, _⟩ := r
    exact (Array.getElem?_eq_some_iff.1 h1).1
  | map es =>
    obtain ⟨_, ents, clk, h1, _⟩ := r
    exact (Array.getElem?_eq_some_iff.1 h1).1

theorem BlkRel.ownGe {base : Nat} {β : Bt} {p : Pos} {w : World} {x : Blk} (r : BlkRel base β p w x) (ho : x.own = true) : base ≤ p.blk := by
  cases x with
  | cells own sz cs =>
    obtain ⟨arr, e, frz, _, _, _, _, h5, _⟩ := r
    exact (h5 ho).1
  | map es => exact r.1

theorem BlkRel.notOwnLt {base : Nat} {β : Bt} {p : Pos} {w : World} {x : Blk} (r : BlkRel base β p w x) (ho : x.own = false) : p.blk < base := by
  cases x with
  | cells own sz cs =>
    obtain ⟨arr, e, frz, _, _, _, _, _, h6⟩ := r
    exact h6 ho
  | map es => cases ho

section
variable {base : Nat} {W0 : World} {β : Bt} {nxt : Nat} {h : H} {w : World}

/-- a draw -/
theorem Sim.drew (s : Sim base W0 β nxt h w) : Sim base W0 β nxt h { w with drawn := w.drawn + 1 } :=
  ⟨s.below.drew, s.ge, s.fresh, fun b x hb => let ⟨p, h1, h2⟩ := s.live b x hb; ⟨p, h1, h2.world rfl⟩, s.inj⟩

/-- blocks are forgotten -/
theorem Sim.kill (s : Sim base W0 β nxt h w) (b : Nat) : Sim base W0 β nxt (kill h b) w := by
  refine ⟨s.below, s.ge, s.fresh, fun y x hy => ?_, fun y y' x x' p p' hy hy' => ?_⟩
  · unfold Ab.kill at hy
    split at hy
    · cases hy
    · exact s.live y x hy
  · unfold Ab.kill at hy hy'
    split at hy
    · cases hy
    · split at hy'
      · cases hy'
      · exact s.inj y y' x x' p p' hy hy'

/-- the place of a new block -/
def bput (β : Bt) (b : Nat) (p : Pos) : Bt := fun y => if y = b then some p else β y

theorem Ext.put {β : Bt} {b : Nat} {p : Pos} (hb : β b = none) : Ext β (bput β b p) := by
  intro y q hy
  unfold bput
  split
  · rename_i e; subst e; rw [hb] at hy; cases hy
  · exact hy

/-- a new block -/
theorem Sim.alloc (s : Sim base W0 β nxt h w) (o : Obj) (p : Pos) (hp : p.blk = w.heap.size) (x : Blk)
    (r : BlkRel base (bput β nxt p) p (w.alloc o) x) : Sim base W0 (bput β nxt p) (nxt + 1) (upd h nxt x) (w.alloc o) := by
  have hnn : β nxt = none := s.fresh nxt (Nat.le_refl _)
  have he : Ext β (bput β nxt p) := Ext.put hnn
  have hold : ∀ b x, h b = some x → b ≠ nxt := fun b x hb e => by
    obtain ⟨q, h1, _⟩ := s.live b x hb
    subst e
    rw [hnn] at h1
    cases h1
  refine ⟨s.below.alloc s.ge o, by have := s.ge; simp; omega, fun b hb => ?_, fun b y hb => ?_, fun b b' y y' q q' hb hb' ho ho' hq hq' hqq => ?_⟩
  · unfold bput
    rw [if_neg (by omega)]
    exact s.fresh b (by omega)
  · unfold upd at hb
    split at hb
    · rename_i e
      subst e
      injection hb with hb
      subst hb
      exact ⟨p, by simp [bput], r⟩
    · obtain ⟨q, h1, h2⟩ := s.live b y hb
      refine ⟨q, he _ _ h1, (h2.world ?_).mono he⟩
      exact Below.heap_alloc w o q.blk h2.lt
  · unfold upd at hb hb'
    have key : ∀ b y q, h b = some y → bput β nxt p b = some q → q.blk < w.heap.size := fun b y q hb hq => by
      obtain ⟨q0, h1, h2⟩ := s.live b y hb
      have := he _ _ h1
      rw [hq] at this
      injection this with this
      subst this
      exact h2.lt
    split at hb
    · rename_i e
      split at hb'
      · rename_i e'; exact e.trans e'.symm
      · exfalso
        subst e
        have h1 : q = p := by simpa [bput] using hq.symm
        have h2 := key b' y' q' hb' hq'
        subst h1
        omega
    · split at hb'
      · rename_i e'
        exfalso
        subst e'
        have h1 : q' = p := by simpa [bput] using hq'.symm
        have h2 := key b y q hb hq
        subst h1
        omega
      · rename_i n n'
        have hq0 : β b = some q := by simpa [bput, n] using hq
        have hq0' : β b' = some q' := by simpa [bput, n'] using hq'
        exact s.inj b b' y y' q q' hb hb' ho ho' hq0 hq0' hqq

/-- the heap's block of an own block is put anew, in place -/
theorem Sim.setOwn (s : Sim base W0 β nxt h w) {b : Nat} {x x' : Blk} {p : Pos} {w' : World} (hb : h b = some x) (ho : x.own = true) (hp : β b = some p)
    (hbl : Below base W0 w') (hsz : w.heap.size ≤ w'.heap.size) (hoth : ∀ k, k < w.heap.size → k ≠ p.blk → w'.heap[k]? = w.heap[k]?) (hx : x'.own = true) (r : BlkRel base β p w' x') :
    Sim base W0 β nxt (upd h b x') w' := by
  refine ⟨hbl, Nat.le_trans s.ge hsz, s.fresh, fun y z hy => ?_, fun y y' z z' q q' hy hy' hz hz' hq hq' hqq => ?_⟩
  · unfold upd at hy
    split at hy
    · rename_i e
      subst e
      injection hy with hy
      subst hy
      exact ⟨p, hp, r⟩
    · rename_i hne
      obtain ⟨q, h1, h2⟩ := s.live y z hy
      refine ⟨q, h1, h2.world (hoth _ h2.lt ?_)⟩
      intro e
      cases hzo : z.own with
      | true => exact hne (s.inj y b z x q p hy hb hzo ho h1 hp e)
      | false =>
        have h3 := h2.notOwnLt hzo
        obtain ⟨p1, h4, h5⟩ := s.live b x hb
        rw [hp] at h4
        injection h4 with h4
        subst h4
        have h6 := h5.ownGe ho
        omega
  · have key : ∀ y z, upd h b x' y = some z → z.own = true → ∃ z0, h y = some z0 ∧ z0.own = true := fun y z hy hz => by
      unfold upd at hy
      split at hy
      · rename_i e; subst e; exact ⟨x, hb, ho⟩
      · exact ⟨z, hy, hz⟩
    obtain ⟨z0, h1, h2⟩ := key y z hy hz
    obtain ⟨z1, h3, h4⟩ := key y' z' hy' hz'
    exact s.inj y y' z0 z1 q q' h1 h3 h2 h4 hq hq' hqq

/-- an own block goes on under a new number -/
theorem Sim.reput (s : Sim base W0 β nxt h w) {b : Nat} {x x' : Blk} {p p' : Pos} {w' : World} (hb : h b = some x) (ho : x.own = true) (hp : β b = some p)
    (hbl : Below base W0 w') (hsz : w.heap.size ≤ w'.heap.size) (hoth : ∀ k, k < w.heap.size → k ≠ p.blk → w'.heap[k]? = w.heap[k]?)
    (hpp : p'.blk = p.blk) (r : BlkRel base (bput β nxt p') p' w' x') :
    Sim base W0 (bput β nxt p') (nxt + 1) (upd (Ab.kill h b) nxt x') w' := by
  have hnn : β nxt = none := s.fresh nxt (Nat.le_refl _)
  have he : Ext β (bput β nxt p') := Ext.put hnn
  have hne : ∀ b x, h b = some x → b ≠ nxt := fun b x hb e => by
    obtain ⟨q, h1, _⟩ := s.live b x hb
    subst e
    rw [hnn] at h1
    cases h1
  have hother : ∀ y z q, h y = some z → y ≠ b → β y = some q → q.blk ≠ p.blk := fun y z q hy hyb hq e => by
    obtain ⟨q1, h1, h2⟩ := s.live y z hy
    rw [hq] at h1
    injection h1 with h1
    subst h1
    cases hzo : z.own with
    | true => exact hyb (s.inj y b z x q p hy hb hzo ho hq hp e)
    | false =>
      have h3 := h2.notOwnLt hzo
      obtain ⟨p1, h4, h5⟩ := s.live b x hb
      rw [hp] at h4
      injection h4 with h4
      subst h4
      have h6 := h5.ownGe ho
      omega
  have hkill : ∀ y z, Ab.kill h b y = some z → h y = some z ∧ y ≠ b := fun y z hy => by
    unfold Ab.kill at hy
    split at hy
    · cases hy
    · rename_i hn; exact ⟨hy, hn⟩
  have hq0 : ∀ y z q, h y = some z → bput β nxt p' y = some q → β y = some q := fun y z q hy hq => by
    have := hne y z hy
    simpa [bput, this] using hq
  refine ⟨hbl, Nat.le_trans s.ge hsz, fun y hy => ?_, fun y z hy => ?_, fun y y' z z' q q' hy hy' hz hz' hq hq' hqq => ?_⟩
  · unfold bput
    rw [if_neg (by omega)]
    exact s.fresh y (by omega)
  · unfold upd at hy
    split at hy
    · rename_i e
      subst e
      injection hy with hy
      subst hy
      exact ⟨p', by simp [bput], r⟩
    · obtain ⟨h1, h2⟩ := hkill y z hy
      obtain ⟨q, h3, h4⟩ := s.live y z h1
      exact ⟨q, he _ _ h3, (h4.world (hoth _ h4.lt (hother y z q h1 h2 h3))).mono he⟩
  · unfold upd at hy hy'
    split at hy
    · rename_i e
      split at hy'
      · rename_i e'; exact e.trans e'.symm
      · exfalso
        subst e
        have h1 : q = p' := by simpa [bput] using hq.symm
        obtain ⟨h2, h3⟩ := hkill y' z' hy'
        exact hother y' z' q' h2 h3 (hq0 y' z' q' h2 hq') (by rw [← hqq, h1, hpp])
    · split at hy'
      · rename_i e'
        exfalso
        subst e'
        have h1 : q' = p' := by simpa [bput] using hq'.symm
        obtain ⟨h2, h3⟩ := hkill y z hy
        exact hother y z q h2 h3 (hq0 y z q h2 hq) (by rw [hqq, h1, hpp])
      · obtain ⟨h2, _⟩ := hkill y z hy
        obtain ⟨h3, _⟩ := hkill y' z' hy'
        exact s.inj y y' z z' q q' h2 h3 hz hz' (hq0 y z q h2 hq) (hq0 y' z' q' h3 hq') hqq

/-- the cells of a block, read -/
theorem Sim.read (s : Sim base W0 β nxt h w) {b : Nat} {own : Bool} {sz : Nat} {cs : List AV} (hb : h b = some (.cells own sz cs)) {p : Pos} (hp : β b = some p)
    {i : Nat} {c : AV} (hc : cs[i]? = some c) : ∃ v, w.cell? ⟨p.blk, p.off + i, none⟩ = some v ∧ RV β c v := by
  obtain ⟨q, h1, arr, e, frz, h2, _, h4, h5, _⟩ := s.live b _ hb
  rw [hp] at h1
  injection h1 with h1
  subst h1
  have hi : i < cs.length := (List.getElem?_eq_some_iff.1 hc).1
  obtain ⟨v, hv, hr⟩ := h5.getD i hc
  refine ⟨v, ?_, hr⟩
  rw [List.getElem?_take, if_pos hi, List.getElem?_drop] at hv
  simpa [World.cell?, h2] using hv

end

end Go.Proofs.YtbicfognbbeigaaGreat.Ab

/-
  The library's third text proves what the operations that touch no memory give, in abstract values.
  It holds no condition of its own.
-/
set_option linter.unusedVariables false
set_option linter.unusedSimpArgs false
namespace Go.Proofs.YtbicfognbbeigaaGreat.Ab
open Go.RowKit

def ikn : IntKind → Nat
  | .i8 => 0 | .i16 => 1 | .i32 => 2 | .i64 => 3 | .u8 => 4 | .u16 => 5 | .u32 => 6 | .u64 => 7

def sameK (k k' : IntKind) : Bool := Nat.beq (ikn k) (ikn k')

theorem sameK_eq {k k' : IntKind} (h : sameK k k' = true) : k = k' := by
  cases k <;> cases k' <;> first | rfl | (exact absurd h (by decide))

/-- a whole number that fits, or its remainder -/
inductive Wr (k : IntKind) (x : Int) (K : Int → Prop) : Prop where
  | fit (h : k.wrap x = x) (hk : K x) : Wr k x K
  | wrap (hk : K (k.wrap x)) : Wr k x K

theorem Wr.out {k : IntKind} {x : Int} {K : Int → Prop} (h : Wr k x K) : K (k.wrap x) := by
  cases h with
  | fit h hk => rw [h]; exact hk
  | wrap hk => exact hk

theorem Wr.i64 {x : Int} {K : Int → Prop} (h : -9223372036854775808 ≤ x ∧ x ≤ 9223372036854775807) (hk : K x) : Wr .i64 x K := .fit (IntWalk.i64_in x h) hk

/-- two ways -/
structure Br (c : Bool) (A B : Prop) : Prop where
  yes : c = true → A
  no : c = false → B

theorem Br.tt {A B : Prop} (h : A) : Br true A B := ⟨fun _ => h, fun e => Bool.noConfusion e⟩
theorem Br.ff {A B : Prop} (h : B) : Br false A B := ⟨fun e => Bool.noConfusion e, fun _ => h⟩
theorem Br.t {c : Bool} {A B : Prop} (hc : c = true) (h : A) : Br c A B := ⟨fun _ => h, fun e => by rw [hc] at e; cases e⟩
theorem Br.f {c : Bool} {A B : Prop} (hc : c = false) (h : B) : Br c A B := ⟨fun e => (by rw [hc] at e; cases e), fun _ => h⟩
theorem Br.out {c : Bool} {A B : Prop} (h : Br c A B) : if c then A else B := by
  cases c with
  | true => exact h.yes rfl
  | false => exact h.no rfl

/-- a value is brought into its form -/
def force (v : AV) (K : AV → Prop) : Prop :=
  match v with
  | .any => K .any
  | .undef => K .undef
  | .bool b => K (.bool b)
  | .int k n => K (.int k n)
  | .str s => K (.str s)
  | .nilptr => K .nilptr
  | .ptr b o => K (.ptr b o)
  | .nilslice => K .nilslice
  | .slice b o n c => K (.slice b o n c)
  | .empt => K .empt
  | .nilmap => K .nilmap
  | .map b => K (.map b)
  | .nilfunc => K .nilfunc
  | .func f cs => K (.func f cs)
  | .agg cs => K (.agg cs)
  | .tup vs => K (.tup vs)

theorem force_eq (v : AV) (K : AV → Prop) : force v K = K v := by cases v <;> rfl

def forceL : List AV → (List AV → Prop) → Prop
  | [], K => K []
  | v :: r, K => force v fun v => forceL r fun r => K (v :: r)

theorem forceL_eq : ∀ (l : List AV) (K : List AV → Prop), forceL l K = K l
  | [], _ => rfl
  | v :: r, K => by rw [forceL, force_eq, forceL_eq]

/-- a check, and what comes behind it -/
structure Ck (p k : Prop) : Prop where
  c : p
  k : k

def vcInt (op : BinOp) (k : IntKind) (a b : Int) (K : AV → Prop) : Prop :=
  match op with
  | .add => Wr k (a + b) fun n => K (.int k n)
  | .sub => Wr k (a - b) fun n => K (.int k n)
  | .mul => Wr k (a * b) fun n => K (.int k n)
  | .quo => Ck (b ≠ 0) (Wr k (a.tdiv b) fun n => K (.int k n))
  | .rem => Ck (b ≠ 0) (K (.int k (a.tmod b)))
  | .and => K (.int k (k.wrap (BitVec.ofInt k.bits a &&& BitVec.ofInt k.bits b).toNat))
  | .or => K (.int k (k.wrap (BitVec.ofInt k.bits a ||| BitVec.ofInt k.bits b).toNat))
  | .xor => K (.int k (k.wrap (BitVec.ofInt k.bits a ^^^ BitVec.ofInt k.bits b).toNat))
  | .eql => K (.bool (a == b))
  | .neq => K (.bool (a != b))
  | .lss => K (.bool (decide (a < b)))
  | .leq => K (.bool (decide (a ≤ b)))
  | .gtr => K (.bool (decide (a > b)))
  | .geq => K (.bool (decide (a ≥ b)))
  | _ => False

def vcShift (op : BinOp) (k : IntKind) (a b : Int) (K : AV → Prop) : Prop :=
  match op with
  | .shl => Ck (0 ≤ b) (Wr k (a * 2 ^ min b.toNat k.bits) fun n => K (.int k n))
  | .shr => Ck (0 ≤ b) (K (.int k (a.fdiv (2 ^ min b.toNat k.bits))))
  | _ => False

def isShift : BinOp → Bool
  | .shl | .shr => true
  | _ => false

def vcStr (op : BinOp) (a b : List UInt8) (K : AV → Prop) : Prop :=
  match op with
  | .add => Ck (a.length + b.length ≤ 9223372036854775807) (K (.str (a ++ b)))
  | .eql => K (.bool (a == b))
  | .neq => K (.bool !(a == b))
  | .lss => K (.bool (Op.bytesLess a b))
  | .leq => K (.bool (Op.bytesLess a b || a == b))
  | .gtr => K (.bool !(Op.bytesLess a b || a == b))
  | .geq => K (.bool !Op.bytesLess a b)
  | _ => False

/-- equality beside numbers and strings: by the type -/
def vcEq (d : TypeDesc) (x y : AV) (K : Bool → Prop) : Prop :=
  match d, x, y with
  | .bool, .bool a, .bool b => K (a == b)
  | .slice _, .nilslice, .nilslice => K true
  | .slice _, .nilslice, .slice _ _ _ _ => K false
  | .slice _, .slice _ _ _ _, .nilslice => K false
  | .pointer _, .nilptr, .nilptr => K true
  | .pointer _, .nilptr, .ptr _ _ => K false
  | .pointer _, .ptr _ _, .nilptr => K false
  | .map _ _, .nilmap, .nilmap => K true
  | .map _ _, .nilmap, .map _ => K false
  | .map _ _, .map _, .nilmap => K false
  | .func _ _ _, .nilfunc, .nilfunc => K true
  | .func _ _ _, .nilfunc, .func _ _ => K false
  | .func _ _ _, .func _ _, .nilfunc => K false
  | _, _, _ => False

def vcBin (T : TT) (op : BinOp) (t : TypeId) (x y : AV) (K : AV → Prop) : Prop :=
  match x, y with
  | .int k a, .int k' b =>
    match isShift op with
    | true => vcShift op k a b K
    | false => match sameK k k' with
      | true => vcInt op k a b K
      | false => False
  | .str a, .str b => vcStr op a b K
  | x, y => match tget T t with
    | none => False
    | some i => match op with
      | .eql => vcEq i.desc x y fun r => K (.bool r)
      | .neq => vcEq i.desc x y fun r => K (.bool !r)
      | _ => False

def vcUn (op : UnOp) (x : AV) (K : AV → Prop) : Prop :=
  match op, x with
  | .neg, .int k n => Wr k (0 - n) fun n => K (.int k n)
  | .not, .bool b => K (.bool !b)
  | _, _ => False

def isAggD : TypeDesc → Bool
  | .struct _ | .array _ _ => true
  | _ => false

/-- a part of a struct or array: its cells from an offset on -/
def vcPart (T : TT) (t : TypeId) (cs : List AV) (off : Nat) (K : AV → Prop) : Prop :=
  match tget T t with
  | none => False
  | some i => match isAggD i.desc with
    | true => match Nat.ble (off + i.size) cs.length with
      | true => K (.agg ((cs.drop off).take i.size))
      | false => False
    | false => match cs[off]? with
      | some v => K v
      | none => False

/-- bounds of a slice expression, and what becomes of them -/
def vcStrSlice (s : List UInt8) (lo hi : Option AV) (K : AV → Prop) : Prop :=
  match lo, hi with
  | none, none => K (.str s)
  | some (.int _ l), none => Ck (0 ≤ l ∧ l ≤ s.length) (K (.str (s.drop l.toNat)))
  | none, some (.int _ h) => Ck (0 ≤ h ∧ h ≤ s.length) (K (.str (s.take h.toNat)))
  | some (.int _ l), some (.int _ h) => Ck (0 ≤ l ∧ l ≤ h ∧ h ≤ s.length) (K (.str ((s.take h.toNat).drop l.toNat)))
  | _, _ => False

def mulSz (n sz : Nat) : Nat := match sz with
  | 1 => n
  | sz => n * sz

theorem mulSz_eq (n sz : Nat) : mulSz n sz = n * sz := by
  unfold mulSz
  split
  · simp
  · rfl

def vcSlice (sz b o n c : Nat) (lo hi mx : Option AV) (K : AV → Prop) : Prop :=
  match lo, hi, mx with
  | none, none, none => K (.slice b o n c)
  | some (.int _ l), none, none => Ck (0 ≤ l ∧ l ≤ n) (K (.slice b (o + mulSz l.toNat sz) (n - l.toNat) (c - l.toNat)))
  | none, some (.int _ h), none => Ck (0 ≤ h ∧ h ≤ c) (K (.slice b o h.toNat c))
  | some (.int _ l), some (.int _ h), none => Ck (0 ≤ l ∧ l ≤ h ∧ h ≤ c) (K (.slice b (o + mulSz l.toNat sz) (h.toNat - l.toNat) (c - l.toNat)))
  | some (.int _ l), some (.int _ h), some (.int _ m) => Ck (0 ≤ l ∧ l ≤ h ∧ h ≤ m ∧ m ≤ c) (K (.slice b (o + mulSz l.toNat sz) (h.toNat - l.toNat) (m.toNat - l.toNat)))
  | none, some (.int _ h), some (.int _ m) => Ck (0 ≤ h ∧ h ≤ m ∧ m ≤ c) (K (.slice b o h.toNat m.toNat))
  | _, _, _ => False

def vcNilSlice (lo hi mx : Option AV) (K : AV → Prop) : Prop :=
  match lo, hi, mx with
  | none, none, none => K .nilslice
  | some (.int _ l), none, none => Ck (l = 0) (K .nilslice)
  | none, some (.int _ h), none => Ck (h = 0) (K .nilslice)
  | some (.int _ l), some (.int _ h), none => Ck (l = 0 ∧ h = 0) (K .nilslice)
  | _, _, _ => False

/-- the cells of a literal -/
def fillA (place : Nat → Option (Nat × Nat)) (cells : List AV) : List (Nat × AV) → Option (List AV)
  | [] => some cells
  | (i, v) :: rest =>
    match place i with
    | none => none
    | some (off, size) =>
      match v with
      | .any => none
      | v => match Nat.beq v.cells.length size, Nat.ble (off + size) cells.length with
        | true, true => fillA place (cells.take off ++ v.cells ++ cells.drop (off + size)) rest
        | _, _ => none

def fieldSz (T : TT) (fs : Array Field) (i : Nat) : Option (Nat × Nat) :=
  match fs.toList[i]? with
  | none => none
  | some f => match tget T f.type with
    | none => none
    | some j => some (f.offset, j.size)

def allSz (T : TT) : List Field → Bool
  | [] => true
  | f :: r => match tget T f.type with
    | none => false
    | some _ => allSz T r

def vcLen (x : AV) (K : AV → Prop) : Prop :=
  match x with
  | .str s => K (.int .i64 s.length)
  | .slice _ _ n _ => K (.int .i64 n)
  | .nilslice => K (.int .i64 0)
  | .empt => K (.int .i64 0)
  | _ => False

def lenD (d : TypeDesc) (x : AV) : Bool :=
  match d, x with
  | .string, .str _ => true
  | .slice _, .slice _ _ _ _ => true
  | .slice _, .nilslice => true
  | .slice _, .empt => true
  | _, _ => false

def vcMax (mx : Bool) : List AV → AV → (AV → Prop) → Prop
  | [], x, K => match x with
    | .int _ _ => K x
    | _ => False
  | y :: rest, x, K => match x, y with
    | .int k a, .int k' b =>
      match sameK k k' with
      | true => match mx with
        | true => vcMax mx rest (.int k (max a b)) K
        | false => vcMax mx rest (.int k (min a b)) K
      | false => False
    | _, _ => False

/-- operations without memory -/
def vcP (T : TT) (op : Op) (fr : Fr) (K : AV → Prop) : Prop :=
  match op with
  | .move x => K (ev fr x)
  | .assign x => K (ev fr x)
  | .pick c a b => match ev fr c with
    | .bool t => Br t (K (ev fr a)) (K (ev fr b))
    | _ => False
  | .binOp op t x y _ => vcBin T op t (ev fr x) (ev fr y) K
  | .unOp op _ x => vcUn op (ev fr x) K
  | .nilCheck x => match ev fr x with
    | .ptr b o => K (.ptr b o)
    | .func f cs => K (.func f cs)
    | _ => False
  | .index t x i => match tget T t with
    | none => False
    | some d => match d.desc, ev fr x, ev fr i with
      | .string, .str s, .int _ i => Ck (0 ≤ i ∧ i < s.length) (K (.int .u8 (s.getD i.toNat 0).toNat))
      | _, _, _ => False
  | .indexAddr t x i => match tget T t with
    | none => False
    | some d => match d.desc, ev fr x, ev fr i with
      | .slice e, .slice b o n _, .int _ i => match tget T e with
        | none => False
        | some j => Ck (0 ≤ i ∧ i < n) (K (.ptr b (o + mulSz i.toNat j.size)))
      | _, _, _ => False
  | .slice t x lo hi mx => match tget T t with
    | none => False
    | some d => match d.desc, ev fr x with
      | .string, .str s => match mx with
        | none => vcStrSlice s (lo.map (ev fr)) (hi.map (ev fr)) K
        | some _ => False
      | .slice e, .slice b o n c => match tget T e with
        | none => False
        | some j => vcSlice j.size b o n c (lo.map (ev fr)) (hi.map (ev fr)) (mx.map (ev fr)) K
      | .slice e, .nilslice => match tget T e with
        | none => False
        | some _ => vcNilSlice (lo.map (ev fr)) (hi.map (ev fr)) (mx.map (ev fr)) K
      | _, _ => False
  | .field t x f => match tget T t with
    | none => False
    | some d => match d.desc, ev fr x with
      | .struct fs, .agg cs => match fs.toList[f]? with
        | none => False
        | some f => vcPart T f.type cs f.offset K
      | _, _ => False
  | .fieldAddr t x f => match tget T t with
    | none => False
    | some d => match d.desc, ev fr x with
      | .struct fs, .ptr b o => match fieldSz T fs f with
        | some (off, sz + 1) => K (.ptr b (o + off))
        | _ => False
      | _, _ => False
  | .extract x i => match ev fr x with
    | .tup vs => match vs[i]? with
      | some v => K v
      | none => False
    | _ => False
  | .makeFunc fn first cap => match fn, first.toList with
    | .func f, [] => forceL (cap.toList.map (ev fr)) fun cs => K (.func f cs)
    | _, _ => False
  | .build t ps => match tget T t with
    | none => False
    | some d => match d.desc with
      | .struct fs => match allSz T fs.toList with
        | true => match fillA (fieldSz T fs) (d.zero.cells.toList.map avScalar) (ps.toList.map fun (i, x) => (i, ev fr x)) with
          | some cs => forceL cs fun cs => K (.agg cs)
          | none => False
        | false => False
      | .array _ e => match tget T e with
        | none => False
        | some j => match fillA (fun i => some (i * j.size, j.size)) (d.zero.cells.toList.map avScalar) (ps.toList.map fun (i, x) => (i, ev fr x)) with
          | some cs => forceL cs fun cs => K (.agg cs)
          | none => False
      | _ => False
  | .convert s t x => match tget T s, tget T t with
    | some _, some d => match d.desc, ev fr x with
      | .int k, .int _ n => Wr k n fun n => K (.int k n)
      | _, _ => False
    | _, _ => False
  | .call c => match c.callee with
    | .builtin .len => match c.argTypes.toList, c.args.toList with
      | [t], [x] => match tget T t with
        | none => False
        | some d => match lenD d.desc (ev fr x) with
          | true => vcLen (ev fr x) K
          | false => False
      | _, _ => False
    | .builtin .max => match c.args.toList with
      | x :: rest => vcMax true (rest.map (ev fr)) (ev fr x) K
      | [] => False
    | .builtin .min => match c.args.toList with
      | x :: rest => vcMax false (rest.map (ev fr)) (ev fr x) K
      | [] => False
    | _ => False
  | _ => False

end Go.Proofs.YtbicfognbbeigaaGreat.Ab

/-
  The library's fourth text proves that the operations that touch no memory do what their abstract view says.
  It holds no condition of its own.
-/
set_option linter.unusedVariables false
set_option linter.unusedSimpArgs false
namespace Go.Proofs.YtbicfognbbeigaaGreat.Ab
open Go.RowKit

section
variable {P : Program} {T : TT} {β : Bt}

/-- a run that yields a value in every world, and leaves the world -/
def Gives (P : Program) (s : Sem Value) (cv : Value) : Prop := ∀ w, s.run P w = .ok cv w

def Yld (P : Program) (β : Bt) (s : Sem Value) (K : AV → Prop) : Prop := ∃ v cv, RV β v cv ∧ Gives P s cv ∧ K v

theorem Yld.mk {s : Sem Value} {K : AV → Prop} {v : AV} {cv : Value} (r : RV β v cv) (g : Gives P s cv) (k : K v) : Yld P β s K := ⟨v, cv, r, g, k⟩

theorem vcInt_sound {op : BinOp} {k : IntKind} {a b : Int} {K : AV → Prop} (hs : isShift op = false) (h : vcInt op k a b K) :
    Yld P β (binOp op 0 (.int k a) (.int k b)) K ∧ ∀ t, binOp op t (.int k a) (.int k b) = binOp op 0 (.int k a) (.int k b) := by
  refine ⟨?_, fun t => by cases op <;> rfl⟩
  cases op <;> simp only [vcInt, isShift] at h hs <;> first
    | contradiction
    | exact ⟨_, _, .int _ _, fun w => by simp [binOp, Op.intArith], h.out⟩
    | exact ⟨_, _, .int _ _, fun w => by simp [binOp, Op.intDiv, h.1], h.2.out⟩
    | exact ⟨_, _, .int _ _, fun w => by simp [binOp, Op.intDiv, h.1], h.2⟩
    | exact ⟨_, _, .int _ _, fun w => by simp [binOp, Op.intBits], h⟩
    | exact ⟨_, _, .bool _, fun w => by simp [binOp, Op.intCmp], h⟩

theorem vcShift_sound {op : BinOp} {k k' : IntKind} {a b : Int} {K : AV → Prop} (t : TypeId) (h : vcShift op k a b K) :
    Yld P β (binOp op t (.int k a) (.int k' b)) K := by
  cases op <;> simp only [vcShift] at h <;> first
    | contradiction
    | (have hb : ¬ b < 0 := by have := h.1; omega
       first
         | exact ⟨_, _, .int _ _, fun w => by simp [binOp, Op.shift, hb], h.2.out⟩
         | exact ⟨_, _, .int _ _, fun w => by simp [binOp, Op.shift, hb], h.2⟩)

theorem toList_mk (l : List UInt8) : (⟨l.toArray⟩ : ByteArray).toList = l := by
  rw [ByteArray.toList_eq]

theorem append_mk (a b : List UInt8) : (⟨a.toArray⟩ : ByteArray) ++ ⟨b.toArray⟩ = ⟨(a ++ b).toArray⟩ := by
  apply ByteArray.ext
  simp

theorem vcStr_sound {op : BinOp} {a b : List UInt8} {K : AV → Prop} (t : TypeId) (h : vcStr op a b K) :
    Yld P β (binOp op t (.string ⟨a.toArray⟩) (.string ⟨b.toArray⟩)) K := by
  cases op <;> simp only [vcStr] at h <;> first
    | contradiction
    | (have h1 : ¬ ((9223372036854775807 : Int) < (a.length : Int) + (b.length : Int)) := by have := h.1; omega
       exact ⟨_, _, .str _, fun w => by
        have e : IntKind.i64.max = 9223372036854775807 := by decide
        simp [binOp, Op.stringOp, e, ByteArray.size, h1, append_mk], h.2⟩)
    | exact ⟨_, _, .bool _, fun w => by simp [binOp, Op.stringOp, toList_mk], h⟩

theorem vcEq_soundN {d : TypeDesc} {x y : AV} {vx vy : Value} {K : Bool → Prop} (n : Nat) (t : TypeId) (ht : P.underlying t = some d) (hx : RV β x vx) (hy : RV β y vy) (h : vcEq d x y K) :
    ∃ r, (∀ w, (Op.equalIn (n + 1) t vx vy).run P w = .ok r w) ∧ K r := by
  have hu := fun w => run_underlying (P := P) ht w
  unfold vcEq at h
  split at h <;> first
    | contradiction
    | (cases hx; cases hy
       exact ⟨_, fun w => by simp [Op.equalIn, hu], h⟩)

theorem vcEq_sound {d : TypeDesc} {x y : AV} {vx vy : Value} {K : Bool → Prop} (t : TypeId) (ht : P.underlying t = some d) (hx : RV β x vx) (hy : RV β y vy) (h : vcEq d x y K) :
    ∃ r, (∀ w, (Op.equal t vx vy).run P w = .ok r w) ∧ K r := vcEq_soundN 9999 t ht hx hy h

theorem eqGuard_int (op : BinOp) (t : TypeId) (x y : Operand) (k k' : IntKind) (a b : Int) (w : World) : (eqGuard op t x y (.int k a) (.int k' b)).run P w = .ok () w := by
  unfold eqGuard
  split <;> simp
end

end Go.Proofs.YtbicfognbbeigaaGreat.Ab

/-
  The library's fifth text proves that each operation without memory does what its abstract view says.
  It holds no condition of its own.
-/
set_option linter.unusedVariables false
set_option linter.unusedSimpArgs false
namespace Go.Proofs.YtbicfognbbeigaaGreat.Ab
open Go.RowKit

section
variable {P : Program} {T : TT} {β : Bt} {fr : Fr} {a : Act}

theorem vcBin_sound {op : BinOp} {t : TypeId} {x y : AV} {vx vy : Value} {K : AV → Prop} (ox oy : Operand) (tok : TOk P T) (hx : RV β x vx) (hy : RV β y vy) (h : vcBin T op t x y K) :
    Yld P β (do eqGuard op t ox oy vx vy; binOp op t vx vy) K := by
  unfold vcBin at h
  split at h
  · cases hx; cases hy
    rename_i k n k' m
    split at h
    · obtain ⟨v, cv, r, g, k⟩ := vcShift_sound (P := P) (β := β) (k' := k') t h
      exact ⟨v, cv, r, fun w => by simp [eqGuard_int, g w], k⟩
    · rename_i hs
      split at h
      · rename_i hk
        have := sameK_eq hk
        subst this
        obtain ⟨⟨v, cv, r, g, k⟩, e⟩ := vcInt_sound (P := P) (β := β) hs h
        exact ⟨v, cv, r, fun w => by simp [eqGuard_int, e t, g w], k⟩
      · contradiction
  · cases hx; cases hy
    obtain ⟨v, cv, r, g, k⟩ := vcStr_sound (P := P) (β := β) t h
    refine ⟨v, cv, r, fun w => ?_, k⟩
    have hg : ∀ (x y : ByteArray) w, (eqGuard op t ox oy (.string x) (.string y)).run P w = .ok () w := fun x y w => by unfold eqGuard; split <;> simp
    simp [hg, g w]
  · split at h
    · contradiction
    · rename_i i ht
      split at h
      · obtain ⟨r, hr, hk⟩ := vcEq_sound (P := P) t (tok.under ht) hx hy h
        refine ⟨_, _, .bool r, fun w => ?_, hk⟩
        unfold vcEq at h
        split at h <;> first
          | contradiction
          | (cases hx; cases hy; simp [eqGuard, binOp, hr w])
      · obtain ⟨r, hr, hk⟩ := vcEq_sound (P := P) t (tok.under ht) hx hy h
        refine ⟨_, _, .bool (!r), fun w => ?_, hk⟩
        unfold vcEq at h
        split at h <;> first
          | contradiction
          | (cases hx; cases hy; simp [eqGuard, binOp, hr w])
      · contradiction

theorem vcUn_sound {op : UnOp} {x : AV} {vx : Value} {K : AV → Prop} (hx : RV β x vx) (h : vcUn op x K) : Yld P β (Op.unary op vx) K := by
  unfold vcUn at h
  split at h
  · cases hx; exact ⟨_, _, .int _ _, fun w => by simp [Op.unary, Op.intArith], h.out⟩
  · cases hx; exact ⟨_, _, .bool _, fun w => by simp [Op.unary], h⟩
  · contradiction

theorem run_isAgg {t : TypeId} {d : TypeDesc} (h : P.underlying t = some d) (w : World) : (isAgg t).run P w = .ok (isAggD d) w := by
  unfold isAgg
  simp [run_underlying h]
  cases d <;> simp [isAggD]

theorem vcPart_sound {t : TypeId} {cs : List AV} {vs : Array Value} {off : Nat} {K : AV → Prop} (tok : TOk P T) (hl : RVs β cs vs.toList) (h : vcPart T t cs off K) :
    Yld P β (part t vs off) K := by
  unfold vcPart at h
  split at h
  · contradiction
  · rename_i i ht
    have ha := run_isAgg (P := P) (tok.under ht)
    obtain ⟨j, hj, hs, _, _⟩ := tok.infos ht
    split at h
    · rename_i hd
      split at h
      · rename_i hb
        refine ⟨_, _, .agg (cs := (cs.drop off).take i.size) (vs := vs.extract off (off + i.size)) ?_ ?_, fun w => ?_, h⟩
        · have := Nat.le_of_ble_eq_true hb
          have h1 := hl.1
          simp at h1 ⊢
          omega
        · intro n c v hc hv
          have := (hl.drop off).take i.size
          refine this.2 n c v hc ?_
          rw [← Array.getElem?_toList, Array.toList_extract] at hv
          simpa [List.extract] using hv
        · simp [part, ha, hd, sizeOf, typeInfo, hj, hs]
      · contradiction
    · rename_i hd
      split at h
      · rename_i v hv
        obtain ⟨cv, h1, h2⟩ := hl.getD off hv
        refine ⟨_, _, h2, fun w => ?_, h⟩
        have h3 : vs[off]? = some cv := by simpa using h1
        simp [part, ha, hd, h3]
      · contradiction

theorem Gives.value {s : Sem Value} {cv : Value} (h : Gives P s cv) (w : World) : (do pure (Next.value (← s)) : Sem Next).run P w = .ok (.value cv) w := by
  simp [h w]

/-- what a slice's bounds give -/
theorem sb_none_none (b : Bool) (len cap : Nat) (w : World) : (Instr.sliceBounds b len cap none none none).run P w = .ok (0, len, cap) w := by
  simp [Instr.sliceBounds]

theorem run_sliceBound {k : IntKind} {i : Int} {y : Nat} (code : BoundsCode) (h : 0 ≤ i ∧ i ≤ (y : Int)) (w : World) : (Instr.sliceBound (.int k i) y code).run P w = .ok i.toNat w := by
  simp [Instr.sliceBound, asIntOf, h]

theorem sb_lo {b : Bool} {len cap : Nat} {k : IntKind} {l : Int} (h : 0 ≤ l ∧ l ≤ (len : Int)) (w : World) : (Instr.sliceBounds b len cap (some (.int k l)) none none).run P w = .ok (l.toNat, len, cap) w := by
  simp [Instr.sliceBounds, run_sliceBound _ h]

theorem sb_hi {b : Bool} {len cap : Nat} {k : IntKind} {h : Int} (hh : 0 ≤ h ∧ h ≤ (cap : Int)) (w : World) : (Instr.sliceBounds b len cap none (some (.int k h)) none).run P w = .ok (0, h.toNat, cap) w := by
  simp [Instr.sliceBounds, run_sliceBound _ hh]

theorem sb_lohi {b : Bool} {len cap : Nat} {k k' : IntKind} {l h : Int} (hl : 0 ≤ l ∧ l ≤ h) (hh : h ≤ (cap : Int)) (w : World) :
    (Instr.sliceBounds b len cap (some (.int k l)) (some (.int k' h)) none).run P w = .ok (l.toNat, h.toNat, cap) w := by
  have h1 : 0 ≤ h ∧ h ≤ (cap : Int) := ⟨by omega, hh⟩
  have h2 : 0 ≤ l ∧ l ≤ (h.toNat : Int) := ⟨hl.1, by omega⟩
  simp [Instr.sliceBounds, run_sliceBound _ h1, run_sliceBound _ h2]

theorem sb_lohim {b : Bool} {len cap : Nat} {k k' k'' : IntKind} {l h m : Int} (hl : 0 ≤ l ∧ l ≤ h) (hh : h ≤ m) (hm : m ≤ (cap : Int)) (w : World) :
    (Instr.sliceBounds b len cap (some (.int k l)) (some (.int k' h)) (some (.int k'' m))).run P w = .ok (l.toNat, h.toNat, m.toNat) w := by
  have h0 : 0 ≤ m ∧ m ≤ (cap : Int) := ⟨by omega, hm⟩
  have h1 : 0 ≤ h ∧ h ≤ (m.toNat : Int) := ⟨by omega, by omega⟩
  have h2 : 0 ≤ l ∧ l ≤ (h.toNat : Int) := ⟨hl.1, by omega⟩
  simp [Instr.sliceBounds, run_sliceBound _ h0, run_sliceBound _ h1, run_sliceBound _ h2]

theorem sb_him {b : Bool} {len cap : Nat} {k' k'' : IntKind} {h m : Int} (hl : 0 ≤ h) (hh : h ≤ m) (hm : m ≤ (cap : Int)) (w : World) :
    (Instr.sliceBounds b len cap none (some (.int k' h)) (some (.int k'' m))).run P w = .ok (0, h.toNat, m.toNat) w := by
  have h0 : 0 ≤ m ∧ m ≤ (cap : Int) := ⟨by omega, hm⟩
  have h1 : 0 ≤ h ∧ h ≤ (m.toNat : Int) := ⟨by omega, by omega⟩
  simp [Instr.sliceBounds, run_sliceBound _ h0, run_sliceBound _ h1]

theorem extract_mk (l : List UInt8) (x y : Nat) : (⟨l.toArray⟩ : ByteArray).extract x y = ⟨((l.take y).drop x).toArray⟩ := by
  apply ByteArray.ext
  apply Array.ext'
  simp [ByteArray.data_extract, List.extract, List.take_drop]
  by_cases h : x ≤ y
  · rw [show x + (y - x) = y by omega]
  · rw [show x + (y - x) = x by omega]
    have h1 : List.drop x (List.take x l) = [] := by simp
    have h2 : List.drop x (List.take y l) = [] := by
      apply List.drop_eq_nil_of_le
      have := List.length_take_le y l
      omega
    rw [h1, h2]

theorem vcStrSlice_sound {t : TypeId} {s : List UInt8} {lo hi : Option AV} {vlo vhi : Option Value} {K : AV → Prop} (ht : P.underlying t = some .string)
    (hlo : ∀ x v, lo = some x → vlo = some v → RV β x v) (hhi : ∀ x v, hi = some x → vhi = some v → RV β x v) (e1 : lo.isSome = vlo.isSome) (e2 : hi.isSome = vhi.isSome)
    (h : vcStrSlice s lo hi K) : Yld P β (Instr.sliceAt t (.string ⟨s.toArray⟩) vlo vhi none) K := by
  have hz : (⟨s.toArray⟩ : ByteArray).size = s.length := by simp [ByteArray.size]
  unfold vcStrSlice at h
  split at h
  · cases vlo with
    | some _ => cases e1
    | none =>
      cases vhi with
      | some _ => cases e2
      | none =>
        refine ⟨_, _, .str s, fun w => ?_, h⟩
        simp [Instr.sliceAt, Instr.slice, run_underlying ht, sb_none_none, extract_mk, hz]
  · cases vlo with
    | none => cases e1
    | some v =>
      have r := hlo _ v rfl rfl
      cases r
      cases vhi with
      | some _ => cases e2
      | none =>
        obtain ⟨hb, hk⟩ := h
        refine ⟨_, _, .str _, fun w => ?_, hk⟩
        simp [Instr.sliceAt, Instr.slice, run_underlying ht, hz, sb_lo hb, extract_mk]
  · cases vhi with
    | none => cases e2
    | some v =>
      have r := hhi _ v rfl rfl
      cases r
      cases vlo with
      | some _ => cases e1
      | none =>
        obtain ⟨hb, hk⟩ := h
        refine ⟨_, _, .str _, fun w => ?_, hk⟩
        simp [Instr.sliceAt, Instr.slice, run_underlying ht, hz, sb_hi hb, extract_mk]
  · cases vlo with
    | none => cases e1
    | some v =>
      cases vhi with
      | none => cases e2
      | some u =>
        have r := hlo _ v rfl rfl
        have r' := hhi _ u rfl rfl
        cases r
        cases r'
        obtain ⟨hb, hk⟩ := h
        refine ⟨_, _, .str _, fun w => ?_, hk⟩
        simp [Instr.sliceAt, Instr.slice, run_underlying ht, hz, sb_lohi ⟨hb.1, hb.2.1⟩ hb.2.2, extract_mk]
  · contradiction

end
end Go.Proofs.YtbicfognbbeigaaGreat.Ab

/-
  The library's sixth text proves the abstract view of all operations without memory to be right.
  It holds no condition of its own.
-/
set_option linter.unusedVariables false
set_option linter.unusedSimpArgs false
namespace Go.Proofs.YtbicfognbbeigaaGreat.Ab
open Go.RowKit

section
variable {P : Program} {T : TT} {β : Bt} {fr : Fr} {a : Act}

/-- the address of a slice's cell -/
theorem addr_cut {p : Pos} {o cap co l sz : Nat} (ho : cap = 0 ∨ co = p.off + o) (hl : l ≤ cap) (m : Nat) (hm : m ≤ cap) (hlm : l ≤ m) :
    ∃ co', (if m = l then (some ⟨p.blk, co, none⟩ : Option Addr) else (some ⟨p.blk, co, none⟩ : Option Addr).map (·.add (l * sz))) = some ⟨p.blk, co', none⟩ ∧ (m - l = 0 ∨ co' = p.off + (o + l * sz)) ∧
      (co' = co ∨ (co' = co + l * sz ∧ l < m)) := by
  by_cases h : m = l
  · exact ⟨co, by simp [h], .inl (by omega), .inl rfl⟩
  · refine ⟨co + l * sz, by simp [h, Addr.add_lit], .inr ?_, .inr ⟨rfl, by omega⟩⟩
    rcases ho with h0 | h0
    · omega
    · omega

theorem mul_le_of {a b c : Nat} (h : a ≤ b) : a * c ≤ b * c := Nat.mul_le_mul_right c h

/-- a slice of a slice reads as it should -/
theorem rv_cut {b o : Nat} {p : Pos} {cap co : Nat} (h : β b = some p) (ho : cap = 0 ∨ co = p.off + o) (ht : o = 0 → co + cap * p.sz ≤ p.tot)
    (l m sz n' c' : Nat) (hlm : l ≤ m) (hm : m ≤ cap) (hc : c' ≤ m - l) (hn : n' ≤ c') :
    ∃ v, Value.slice (if m = l then (some ⟨p.blk, co, none⟩ : Option Addr) else (some ⟨p.blk, co, none⟩ : Option Addr).map (·.add (l * sz))) n' (m - l) = v ∧ RV β (.slice b (o + mulSz l sz) n' c') v := by
  obtain ⟨co', e, h1, h2⟩ := addr_cut (p := p) (sz := sz) (l := l) ho (by omega) m hm hlm
  refine ⟨_, rfl, ?_⟩
  rw [e, mulSz_eq]
  refine .slice h hc hn (by omega) fun h0 => ?_
  have h3 : o = 0 := by omega
  have h4 : l * sz = 0 := by omega
  have h5 := ht h3
  have h6 : (m - l) * p.sz ≤ cap * p.sz := mul_le_of (by omega)
  omega

theorem vcSlice_sound {t e : TypeId} {i j : TI} {b o n c : Nat} {vx : Value} {lo hi mx : Option AV} {vlo vhi vmx : Option Value} {K : AV → Prop} (tok : TOk P T) (ht : tget T t = some i) (hd : i.desc = .slice e) (he : tget T e = some j)
    (hx : RV β (.slice b o n c) vx)
    (hlo : ∀ x v, lo = some x → vlo = some v → RV β x v) (hhi : ∀ x v, hi = some x → vhi = some v → RV β x v) (hmx : ∀ x v, mx = some x → vmx = some v → RV β x v)
    (e1 : lo.isSome = vlo.isSome) (e2 : hi.isSome = vhi.isSome) (e3 : mx.isSome = vmx.isSome)
    (h : vcSlice j.size b o n c lo hi mx K) : Yld P β (Instr.sliceAt t vx vlo vhi vmx) K := by
  have hu := tok.under ht
  rw [hd] at hu
  obtain ⟨q, hq, hs, _, _⟩ := tok.infos he
  cases hx with
  | @slice _ _ _ _ p cap co hb hc hn ho htt =>
  have core : ∀ (l h' m : Nat) (n' c' : Nat), (∀ w, (Instr.sliceBounds true n cap vlo vhi vmx).run P w = .ok (l, h', m) w) → l ≤ m → m ≤ cap → c' ≤ m - l → n' = h' - l → n' ≤ c' →
      K (.slice b (o + mulSz l j.size) n' c') → Yld P β (Instr.sliceAt t (.slice (some ⟨p.blk, co, none⟩) n cap) vlo vhi vmx) K := by
    intro l h' m n' c' hsb hlm hm hcc hnn hnc hk
    obtain ⟨v, e, r⟩ := rv_cut (β := β) hb ho htt l m j.size n' c' hlm hm hcc hnc
    refine ⟨_, v, r, fun w => ?_, hk⟩
    subst hnn
    simp [Instr.sliceAt, Instr.slice, run_underlying hu, hsb, sizeOf, typeInfo, hq, hs] at e ⊢
    exact e
  have hm0 : mulSz 0 j.size = 0 := by rw [mulSz_eq]; omega
  unfold vcSlice at h
  split at h
  · cases vlo with
    | some _ => cases e1
    | none =>
    cases vhi with
    | some _ => cases e2
    | none =>
    cases vmx with
    | some _ => cases e3
    | none =>
    exact core 0 n cap n c (fun w => sb_none_none _ _ _ w) (by omega) (by omega) (by omega) (by omega) hn (by rw [hm0]; exact h)
  · rename_i k l
    cases vlo with
    | none => cases e1
    | some vl =>
    cases hlo _ _ rfl rfl
    cases vhi with
    | some _ => cases e2
    | none =>
    cases vmx with
    | some _ => cases e3
    | none =>
    have hc0 := h.c
    exact core l.toNat n cap (n - l.toNat) (c - l.toNat) (fun w => sb_lo h.c w) (by omega) (by omega) (by omega) rfl (by omega) h.k
  · rename_i k hh
    cases vlo with
    | some _ => cases e1
    | none =>
    cases vhi with
    | none => cases e2
    | some vh =>
    cases hhi _ _ rfl rfl
    cases vmx with
    | some _ => cases e3
    | none =>
    have hc0 := h.c
    exact core 0 hh.toNat cap hh.toNat c (fun w => sb_hi ⟨hc0.1, by omega⟩ w) (by omega) (by omega) (by omega) (by omega) (by omega) (by rw [hm0]; exact h.k)
  · rename_i k l k' hh
    cases vlo with
    | none => cases e1
    | some vl =>
    cases hlo _ _ rfl rfl
    cases vhi with
    | none => cases e2
    | some vh =>
    cases hhi _ _ rfl rfl
    cases vmx with
    | some _ => cases e3
    | none =>
    obtain ⟨⟨h1, h2, h3⟩, hk⟩ := h
    exact core l.toNat hh.toNat cap (hh.toNat - l.toNat) (c - l.toNat) (fun w => sb_lohi ⟨h1, h2⟩ (by omega) w) (by omega) (by omega) (by omega) rfl (by omega) hk
  · rename_i k l k' hh k'' m
    cases vlo with
    | none => cases e1
    | some vl =>
    cases hlo _ _ rfl rfl
    cases vhi with
    | none => cases e2
    | some vh =>
    cases hhi _ _ rfl rfl
    cases vmx with
    | none => cases e3
    | some vm =>
    cases hmx _ _ rfl rfl
    obtain ⟨⟨h1, h2, h3, h4⟩, hk⟩ := h
    exact core l.toNat hh.toNat m.toNat (hh.toNat - l.toNat) (m.toNat - l.toNat) (fun w => sb_lohim ⟨h1, h2⟩ h3 (by omega) w) (by omega) (by omega) (by omega) rfl (by omega) hk
  · rename_i k' hh k'' m
    cases vlo with
    | some _ => cases e1
    | none =>
    cases vhi with
    | none => cases e2
    | some vh =>
    cases hhi _ _ rfl rfl
    cases vmx with
    | none => cases e3
    | some vm =>
    cases hmx _ _ rfl rfl
    obtain ⟨⟨h1, h2, h3⟩, hk⟩ := h
    exact core 0 hh.toNat m.toNat hh.toNat m.toNat (fun w => sb_him h1 h2 (by omega) w) (by omega) (by omega) (by omega) (by omega) (by omega) (by rw [hm0]; exact hk)
  · contradiction

theorem vcNilSlice_sound {t e : TypeId} {i : TI} {lo hi mx : Option AV} {vlo vhi vmx : Option Value} {K : AV → Prop} (tok : TOk P T) (ht : tget T t = some i) (hd : i.desc = .slice e) {j : TI} (he : tget T e = some j)
    (hlo : ∀ x v, lo = some x → vlo = some v → RV β x v) (hhi : ∀ x v, hi = some x → vhi = some v → RV β x v)
    (e1 : lo.isSome = vlo.isSome) (e2 : hi.isSome = vhi.isSome) (e3 : mx.isSome = vmx.isSome)
    (h : vcNilSlice lo hi mx K) : Yld P β (Instr.sliceAt t (.slice none 0 0) vlo vhi vmx) K := by
  have hu := tok.under ht
  rw [hd] at hu
  obtain ⟨q, hq, hs, _, _⟩ := tok.infos he
  have core : (∀ w, (Instr.sliceBounds true 0 0 vlo vhi vmx).run P w = .ok (0, 0, 0) w) → K .nilslice → Yld P β (Instr.sliceAt t (.slice none 0 0) vlo vhi vmx) K := by
    intro hsb hk
    refine ⟨_, _, .nilslice, fun w => ?_, hk⟩
    simp [Instr.sliceAt, Instr.slice, run_underlying hu, hsb, sizeOf, typeInfo, hq, hs]
  unfold vcNilSlice at h
  split at h
  · cases vlo with
    | some _ => cases e1
    | none =>
    cases vhi with
    | some _ => cases e2
    | none =>
    cases vmx with
    | some _ => cases e3
    | none => exact core (fun w => sb_none_none _ _ _ w) h
  · rename_i k l
    cases vlo with
    | none => cases e1
    | some vl =>
    cases hlo _ _ rfl rfl
    cases vhi with
    | some _ => cases e2
    | none =>
    cases vmx with
    | some _ => cases e3
    | none =>
    obtain ⟨h1, hk⟩ := h
    subst h1
    exact core (fun w => sb_lo (l := 0) ⟨by omega, by omega⟩ w) hk
  · rename_i k l
    cases vhi with
    | none => cases e2
    | some vl =>
    cases hhi _ _ rfl rfl
    cases vlo with
    | some _ => cases e1
    | none =>
    cases vmx with
    | some _ => cases e3
    | none =>
    obtain ⟨h1, hk⟩ := h
    subst h1
    exact core (fun w => sb_hi (h := 0) ⟨by omega, by omega⟩ w) hk
  · rename_i k l k' hh
    cases vlo with
    | none => cases e1
    | some vl =>
    cases hlo _ _ rfl rfl
    cases vhi with
    | none => cases e2
    | some vh =>
    cases hhi _ _ rfl rfl
    cases vmx with
    | some _ => cases e3
    | none =>
    obtain ⟨⟨h1, h2⟩, hk⟩ := h
    subst h1 h2
    exact core (fun w => sb_lohi (l := 0) (h := 0) ⟨by omega, by omega⟩ (by omega) w) hk
  · contradiction

/-! literals -/
theorem foldl_set : ∀ (vc : List Value) (k off : Nat) (cells : Array Value), off + k + vc.length ≤ cells.size →
    ((vc.zipIdx k).foldl (fun cs (x : Value × Nat) => cs.setIfInBounds (off + x.2) x.1) cells).toList = cells.toList.take (off + k) ++ vc ++ cells.toList.drop (off + k + vc.length)
  | [], k, off, cells, _ => by simp
  | v :: r, k, off, cells, h => by
    simp only [List.length_cons] at h
    rw [List.zipIdx_cons, List.foldl_cons, foldl_set r (k + 1) off _ (by simpa using (by omega : off + (k + 1) + r.length ≤ cells.size))]
    simp only [Array.toList_setIfInBounds]
    have hl : off + k < cells.toList.length := by simp; omega
    apply List.ext_getElem?
    intro i
    simp only [List.append_assoc, List.getElem?_append, List.length_take, List.length_set, List.getElem?_take, List.getElem?_set, List.getElem?_drop, List.length_cons, Array.length_toList]
    have e1 : min (off + (k + 1)) cells.size = off + k + 1 := by omega
    have e2 : min (off + k) cells.size = off + k := by omega
    rw [e1, e2]
    by_cases h1 : i < off + k
    · have a1 : i < off + k + 1 := by omega
      have a2 : off + k ≠ i := by omega
      simp [h1, a1, a2]
      omega
    · by_cases h2 : i = off + k
      · subst h2
        simp at hl
        simp [hl]
      · have a1 : ¬ i < off + k + 1 := by omega
        simp only [a1, h1, if_false]
        by_cases h3 : i - (off + k + 1) < r.length
        · have h4 : i - (off + k) = (i - (off + k + 1)) + 1 := by omega
          have h5 : i - (off + k) < r.length + 1 := by omega
          simp [h3, h5, h4]
        · have h5 : ¬ i - (off + k) < r.length + 1 := by omega
          simp only [h3, h5, if_false]
          have h6 : off + k ≠ off + (k + 1) + r.length + (i - (off + k + 1) - r.length) := by omega
          rw [if_neg h6]
          congr 1
          omega

theorem fill_sound {place : Nat → Option (Nat × Nat)} : ∀ (ps : List (Nat × AV)) (vps : List (Nat × Value)) (cells : List AV) (vcells : Array Value) (cs : List AV),
    RVs β cells vcells.toList → ps.length = vps.length → (∀ (i : Nat) (x : Nat × AV) (y : Nat × Value), ps[i]? = some x → vps[i]? = some y → x.1 = y.1 ∧ RV β x.2 y.2) → fillA place cells ps = some cs →
    ∃ vs, Instr.fill place vcells vps = some vs ∧ RVs β cs vs.toList
  | [], [], cells, vcells, cs, hc, _, _, h => by
    simp only [fillA] at h
    injection h with h
    subst h
    exact ⟨vcells, rfl, hc⟩
  | (i, v) :: r, (i', v') :: r', cells, vcells, cs, hc, hl, hr, h => by
    obtain ⟨e1, hv⟩ := hr 0 _ _ rfl rfl
    have e1 : i = i' := e1
    have hv : RV β v v' := hv
    subst e1
    unfold fillA at h
    split at h
    · cases h
    · rename_i off size hp
      split at h
      · cases h
      · rename_i hany
        split at h
        · rename_i hb1 hb2
          have s1 := Nat.eq_of_beq_eq_true hb1
          have s2 := Nat.le_of_ble_eq_true hb2
          have hvc := hv.cells (fun e => hany e)
          have s3 : v'.cells.size = size := by have := hvc.1; simp at this; omega
          have s4 : vcells.size = cells.length := by have := hc.1; simp at this; omega
          have key := foldl_set v'.cells.toList 0 off vcells (by simp; omega)
          simp only [Nat.add_zero, Array.length_toList] at key
          rw [s3] at key
          have hc' : RVs β (cells.take off ++ v.cells ++ cells.drop (off + size)) ((v'.cells.toList.zipIdx 0).foldl (fun cs (x : Value × Nat) => cs.setIfInBounds (off + x.2) x.1) vcells).toList := by
            rw [key]
            exact ((hc.take off).append hvc).append (hc.drop (off + size))
          obtain ⟨vs, h1, h2⟩ := fill_sound r r' _ _ cs hc' (by simpa using hl) (fun k x y hx hy => hr (k + 1) x y (by simpa using hx) (by simpa using hy)) h
          refine ⟨vs, ?_, h2⟩
          unfold Instr.fill
          simp only [hp, s3, ne_eq, not_true_eq_false, decide_false, Bool.false_or]
          rw [if_neg (by simp; omega)]
          rw [← h1]
          congr 1
          rw [← Array.foldl_toList, Array.toList_zipIdx]
        · cases h
  | [], _ :: _, _, _, _, _, hl, _, _ => by simp at hl
  | _ :: _, [], _, _, _, _, hl, _, _ => by simp at hl

theorem run_places (tok : TOk P T) : ∀ (l : List Field) (w : World), allSz T l = true →
    ∃ pl, (l.mapM fun f => (do pure (f.offset, ← sizeOf f.type) : Sem (Nat × Nat))).run P w = .ok pl w ∧ pl.length = l.length ∧ ∀ (i : Nat) (f : Field), l[i]? = some f → pl[i]? = (match tget T f.type with | none => none | some j => some (f.offset, j.size))
  | [], w, _ => ⟨[], by simp, rfl, fun i f h => by simp at h⟩
  | f :: r, w, h => by
    unfold allSz at h
    split at h
    · cases h
    · rename_i j hj
      obtain ⟨q, hq, hs, _, _⟩ := tok.infos hj
      obtain ⟨pl, h1, h2, h3⟩ := run_places tok r w h
      refine ⟨(f.offset, j.size) :: pl, ?_, by simp [h2], fun i g hg => ?_⟩
      · simp [List.mapM_cons, sizeOf, typeInfo, hq, hs] at h1 ⊢
        simp [h1]
      · cases i with
        | zero => simp at hg; subst hg; simp [hj]
        | succ i => simpa using h3 i g (by simpa using hg)

end
end Go.Proofs.YtbicfognbbeigaaGreat.Ab

/-
  The library's seventh text proves that whatever the abstract view of an operation without memory promises comes about.
  It holds no condition of its own.
-/
set_option linter.unusedVariables false
set_option linter.unusedSimpArgs false
namespace Go.Proofs.YtbicfognbbeigaaGreat.Ab
open Go.RowKit

section
variable {P : Program} {T : TT} {β : Bt} {fr : Fr} {a : Act}

def YldN (P : Program) (β : Bt) (s : Sem Next) (K : AV → Prop) : Prop := ∃ v cv, RV β v cv ∧ (∀ w, s.run P w = .ok (.value cv) w) ∧ K v

theorem YldN.of {s : Sem Value} {K : AV → Prop} (h : Yld P β s K) : YldN P β (do pure (Next.value (← s))) K :=
  let ⟨v, cv, r, g, k⟩ := h
  ⟨v, cv, r, fun w => g.value w, k⟩

theorem YldN.pure {v : AV} {cv : Value} {K : AV → Prop} (r : RV β v cv) (k : K v) : YldN P β (Pure.pure (Next.value cv)) K := ⟨v, cv, r, fun _ => rfl, k⟩

theorem optMap_isSome (f : Operand → AV) (g : Operand → Value) (x : Option Operand) : (x.map f).isSome = (x.map g).isSome := by cases x <;> rfl

theorem optMap_rv (hf : FrRel β fr a) (x : Option Operand) : ∀ u v, x.map (ev fr) = some u → x.map a.eval = some v → RV β u v := by
  intro u v hu hv
  cases x with
  | none => cases hu
  | some x =>
    injection hu with hu
    injection hv with hv
    subst hu hv
    exact hf.ev x

theorem rvs_map (hf : FrRel β fr a) (l : List Operand) : RVs β (l.map (ev fr)) (l.map a.eval) := by
  induction l with
  | nil => exact RVs.nil β
  | cons x r ih => exact RVs.cons (hf.ev x) ih

theorem vcMax_sound (mx : Bool) : ∀ (l : List AV) (vl : List Value) (x : AV) (vx : Value) (K : AV → Prop), RV β x vx → RVs β l vl → vcMax mx l x K →
    Yld P β (vl.foldlM (if mx then Builtin.max2 else Builtin.min2) vx) K
  | [], [], x, vx, K, hx, _, h => by
    unfold vcMax at h
    split at h
    · exact ⟨_, _, hx, fun w => by simp, h⟩
    · contradiction
  | y :: l, vy :: vl, x, vx, K, hx, hl, h => by
    obtain ⟨hy, hl'⟩ := hl.head
    unfold vcMax at h
    split at h
    · rename_i k n k' m
      split at h
      · rename_i hk
        have := sameK_eq hk
        subst this
        cases hx
        cases hy
        cases mx with
        | true =>
          obtain ⟨v, cv, r, g, hk⟩ := vcMax_sound true l vl _ _ K (.int k _) hl' h
          have e : (if n < m then m else n) = max n m := by omega
          exact ⟨v, cv, r, fun w => by simpa [Builtin.max2, e] using g w, hk⟩
        | false =>
          obtain ⟨v, cv, r, g, hk⟩ := vcMax_sound false l vl _ _ K (.int k _) hl' h
          have e : (if m < n then m else n) = min n m := by omega
          exact ⟨v, cv, r, fun w => by simpa [Builtin.min2, e] using g w, hk⟩
      · contradiction
    · contradiction
  | [], _ :: _, _, _, _, _, hl, _ => by have := hl.1; simp at this
  | _ :: _, [], _, _, _, _, hl, _ => by have := hl.1; simp at this

theorem vcLen_sound {t : TypeId} {i : TI} {x : AV} {vx : Value} {ty : TypeId} {K : AV → Prop} (tok : TOk P T) (ht : tget T t = some i) (hx : RV β x vx) (hd : lenD i.desc x = true) (h : vcLen x K) :
    Yld P β (Builtin.len_ #[t] ty #[vx]) K := by
  have hu := tok.under ht
  unfold vcLen at h
  split at h
  · cases hx
    have : i.desc = .string := by
      unfold lenD at hd
      split at hd <;> first | assumption | (simp at *; done) | cases hd
    rw [this] at hu
    rename_i s
    have hz : (⟨s.toArray⟩ : ByteArray).size = s.length := by simp [ByteArray.size]
    exact ⟨_, _, .int _ _, fun w => by simp [Builtin.len_, run_underlying hu, goInt, hz], h⟩
  · cases hx
    have : ∃ e, i.desc = .slice e := by
      unfold lenD at hd
      split at hd <;> first | exact ⟨_, by assumption⟩ | (simp at *; done) | cases hd
    obtain ⟨e, this⟩ := this
    rw [this] at hu
    exact ⟨_, _, .int _ _, fun w => by simp [Builtin.len_, run_underlying hu, goInt], h⟩
  · cases hx
    have : ∃ e, i.desc = .slice e := by
      unfold lenD at hd
      split at hd <;> first | exact ⟨_, by assumption⟩ | (simp at *; done) | cases hd
    obtain ⟨e, this⟩ := this
    rw [this] at hu
    exact ⟨_, _, .int _ _, fun w => by simp [Builtin.len_, run_underlying hu, goInt], h⟩
  · cases hx
    have : ∃ e, i.desc = .slice e := by
      unfold lenD at hd
      split at hd <;> first | exact ⟨_, by assumption⟩ | (simp at *; done) | cases hd
    obtain ⟨e, this⟩ := this
    rw [this] at hu
    exact ⟨_, _, .int _ _, fun w => by simp [Builtin.len_, run_underlying hu, goInt], h⟩
  · contradiction

theorem zero_rvs {t : TypeId} {i : TI} (ht : tget T t = some i) : RVs β (i.zero.cells.toList.map avScalar) i.zero.cells.toList := by
  refine ⟨by simp, fun n c v hc hv => ?_⟩
  rw [List.getElem?_map, hv] at hc
  simp at hc
  subst hc
  exact rv_avScalar β v

theorem parts_rel (hf : FrRel β fr a) (ps : List (Nat × Operand)) : ∀ (i : Nat) (x : Nat × AV) (y : Nat × Value), (ps.map fun (i, x) => (i, ev fr x))[i]? = some x → (ps.map fun (i, x) => (i, a.eval x))[i]? = some y → x.1 = y.1 ∧ RV β x.2 y.2 := by
  intro i x y hx hy
  rw [List.getElem?_map] at hx hy
  cases h : ps[i]? with
  | none => rw [h] at hx; cases hx
  | some p =>
    rw [h] at hx hy
    simp at hx hy
    subst hx hy
    exact ⟨rfl, hf.ev p.2⟩

theorem run_zero {t : TypeId} {i : TI} (tok : TOk P T) (ht : tget T t = some i) (w : World) : (zeroValue t).run P w = .ok i.zero w := by
  obtain ⟨q, hq, _, _, hz⟩ := tok.infos ht
  simp [zeroValue, typeInfo, hq, hz]

theorem run_size {t : TypeId} {i : TI} (tok : TOk P T) (ht : tget T t = some i) (w : World) : (sizeOf t).run P w = .ok i.size w := by
  obtain ⟨q, hq, hs, _, _⟩ := tok.infos ht
  simp [sizeOf, typeInfo, hq, hs]

theorem build_struct {t : TypeId} {d : TI} {fs : Array Field} {ps : List (Nat × Operand)} {cs : List AV} (tok : TOk P T) (hf : FrRel β fr a) (ht : tget T t = some d) (hd : d.desc = .struct fs) (ha : allSz T fs.toList = true)
    (h : fillA (fieldSz T fs) (d.zero.cells.toList.map avScalar) (ps.map fun (i, x) => (i, ev fr x)) = some cs) :
    ∃ vs, RVs β cs vs.toList ∧ ∀ w, (Instr.build t (ps.map fun (i, x) => (i, a.eval x)).toArray).run P w = .ok (.agg vs) w := by
  have hu := tok.under ht
  rw [hd] at hu
  obtain ⟨vs, h1, h2⟩ := fill_sound (β := β) _ (ps.map fun (i, x) => (i, a.eval x)) _ d.zero.cells cs (zero_rvs ht) (by simp) (parts_rel hf ps) h
  refine ⟨vs, h2, fun w => ?_⟩
  obtain ⟨pl, h3, h4, h5⟩ := run_places tok fs.toList w ha
  have h6 : (fs.mapM fun f => (do pure (f.offset, ← sizeOf f.type) : Sem (Nat × Nat))).run P w = .ok pl.toArray w := by
    rw [Array.mapM_eq_mapM_toList]
    simp only [Sem.run_map, h3, Result.andThen_ok]
  have h7 : (fun x : Nat => pl.toArray[x]?) = fieldSz T fs := by
    funext i
    unfold fieldSz
    cases hg : fs.toList[i]? with
    | none =>
      have : fs.toList.length ≤ i := List.getElem?_eq_none_iff.1 hg
      simp
      omega
    | some f =>
      have := h5 i f hg
      simp only [List.getElem?_toArray]
      rw [this]
      try (cases tget T f.type <;> rfl)
  simp only [Instr.build, Sem.run_bind, run_zero tok ht, run_underlying hu, Result.andThen_ok, h6]
  rw [h7]
  simp [h1]

theorem build_array {t e : TypeId} {d j : TI} {n : Nat} {ps : List (Nat × Operand)} {cs : List AV} (tok : TOk P T) (hf : FrRel β fr a) (ht : tget T t = some d) (hd : d.desc = .array n e) (he : tget T e = some j)
    (h : fillA (fun i => some (i * j.size, j.size)) (d.zero.cells.toList.map avScalar) (ps.map fun (i, x) => (i, ev fr x)) = some cs) :
    ∃ vs, RVs β cs vs.toList ∧ ∀ w, (Instr.build t (ps.map fun (i, x) => (i, a.eval x)).toArray).run P w = .ok (.agg vs) w := by
  have hu := tok.under ht
  rw [hd] at hu
  obtain ⟨vs, h1, h2⟩ := fill_sound (β := β) _ (ps.map fun (i, x) => (i, a.eval x)) _ d.zero.cells cs (zero_rvs ht) (by simp) (parts_rel hf ps) h
  refine ⟨vs, h2, fun w => ?_⟩
  simp only [Instr.build, Sem.run_bind, run_zero tok ht, run_underlying hu, run_size tok he, Result.andThen_ok]
  simp [h1]

theorem rvs_agg {cs : List AV} {vs : Array Value} (h : RVs β cs vs.toList) : RV β (.agg cs) (.agg vs) :=
  .agg (by have := h.1; simpa using this) fun i c v hc hv => h.2 i c v hc (by simpa using hv)

theorem ba_get (s : List UInt8) (i : Nat) (h : i < s.length) : (⟨s.toArray⟩ : ByteArray)[i]? = some s[i] := by
  have hz : (⟨s.toArray⟩ : ByteArray).size = s.length := by simp [ByteArray.size]
  rw [getElem?_pos _ _ (by rw [hz]; exact h)]
  rfl

theorem vcP_sound {o : Oper} {K : AV → Prop} (tok : TOk P T) (hf : FrRel β fr a) (h : vcP T o.op fr K) : YldN P β (execOp a.eval o) K := by
  obtain ⟨dst, op, ty, pos, after, guard⟩ := o
  cases op <;> simp only [vcP] at h
  case move x => exact .pure (hf.ev x) h
  case assign x => exact .pure (hf.ev x) h
  case pick c x y =>
    have hc := hf.ev c
    split at h
    · rename_i t ht
      rw [ht] at hc
      have h := h.out
      dsimp only [execOp]
      generalize a.eval c = vc at hc ⊢
      cases hc
      cases t with
      | true => exact ⟨_, _, hf.ev x, fun w => by simp [asBool], h⟩
      | false => exact ⟨_, _, hf.ev y, fun w => by simp [asBool], h⟩
    · contradiction
  case binOp op t x y yt => exact .of (vcBin_sound x y tok (hf.ev x) (hf.ev y) h)
  case unOp op t x => exact .of (vcUn_sound (hf.ev x) h)
  case nilCheck x =>
    have hx := hf.ev x
    dsimp only [execOp]
    generalize a.eval x = vx at hx ⊢
    split at h
    · rename_i b o e
      rw [e] at hx
      cases hx with
      | ptr hb => exact ⟨_, _, .ptr hb, fun w => by simp, h⟩
    · rename_i f cs e
      rw [e] at hx
      cases hx with
      | func hl hr => exact ⟨_, _, .func hl hr, fun w => by simp, h⟩
    · contradiction
  case index t x i =>
    split at h
    · contradiction
    · rename_i d ht
      have hx := hf.ev x
      have hi := hf.ev i
      refine .of ?_
      generalize a.eval x = vx at hx ⊢
      generalize a.eval i = vi at hi ⊢
      split at h
      · rename_i s k n hd ex ei
        rw [ex] at hx
        rw [ei] at hi
        cases hx
        cases hi
        have hu := tok.under ht
        rw [hd] at hu
        obtain ⟨⟨h1, h2⟩, hk⟩ := h
        have h3 : n.toNat < s.length := by omega
        refine ⟨_, _, .int _ _, fun w => ?_, hk⟩
        have h4 := ba_get s n.toNat h3
        simp [Instr.index, asIntOf, run_underlying hu, h1, h4, List.getD, h3]
      · contradiction
  case indexAddr t x i =>
    split at h
    · contradiction
    · rename_i d ht
      have hx := hf.ev x
      have hi := hf.ev i
      refine .of ?_
      generalize a.eval x = vx at hx ⊢
      generalize a.eval i = vi at hi ⊢
      split at h
      · rename_i e b o n c k m hd ex ei
        rw [ex] at hx
        rw [ei] at hi
        split at h
        · contradiction
        · rename_i j he
          cases hi
          cases hx with
          | @slice _ _ _ _ p cap co hb hc hn ho htt =>
          have hu := tok.under ht
          rw [hd] at hu
          obtain ⟨q, hq, hs, _, _⟩ := tok.infos he
          obtain ⟨⟨h1, h2⟩, hk⟩ := h
          have hco : co = p.off + o := by omega
          subst hco
          refine ⟨_, _, .ptr hb, fun w => ?_, hk⟩
          have h3 : (m.toNat : Int) = m := Int.toNat_of_nonneg h1
          simp [Instr.indexAt, asIntOf, run_underlying hu, h1, h2, sizeOf, typeInfo, hq, hs, Addr.add_lit, mulSz_eq, Nat.add_assoc]
      · contradiction
  case slice t x lo hi mx =>
    split at h
    · contradiction
    · rename_i d ht
      have hx := hf.ev x
      refine .of ?_
      generalize a.eval x = vx at hx ⊢
      split at h
      · rename_i s hd ex
        rw [ex] at hx
        cases hx
        have hu := tok.under ht
        rw [hd] at hu
        split at h
        · exact vcStrSlice_sound hu (optMap_rv hf lo) (optMap_rv hf hi) (optMap_isSome _ _ lo) (optMap_isSome _ _ hi) h
        · contradiction
      · rename_i e b o n c hd ex
        rw [ex] at hx
        split at h
        · contradiction
        · rename_i j he
          exact vcSlice_sound tok ht hd he hx (optMap_rv hf lo) (optMap_rv hf hi) (optMap_rv hf mx) (optMap_isSome _ _ lo) (optMap_isSome _ _ hi) (optMap_isSome _ _ mx) h
      · rename_i e hd ex
        rw [ex] at hx
        cases hx
        split at h
        · contradiction
        · rename_i j he
          exact vcNilSlice_sound tok ht hd he (optMap_rv hf lo) (optMap_rv hf hi) (optMap_isSome _ _ lo) (optMap_isSome _ _ hi) (optMap_isSome _ _ mx) h
      · contradiction
  case field t x f =>
    split at h
    · contradiction
    · rename_i d ht
      have hx := hf.ev x
      refine .of ?_
      generalize a.eval x = vx at hx ⊢
      split at h
      · rename_i fs cs hd ex
        rw [ex] at hx
        have hu := tok.under ht
        rw [hd] at hu
        split at h
        · contradiction
        · rename_i g hg
          have hg' : fs[f]? = some g := by simpa using hg
          cases hx with
          | @agg _ vs hl hr =>
          obtain ⟨v, cv, r, gv, k⟩ := vcPart_sound (P := P) (β := β) (vs := vs) tok ⟨by simpa using hl, fun i c v hc hv => hr i c v hc (by simpa using hv)⟩ h
          exact ⟨v, cv, r, fun w => by simp [Instr.field, run_underlying hu, hg', asAgg, gv w], k⟩
      · contradiction
  case fieldAddr t x f =>
    split at h
    · contradiction
    · rename_i d ht
      have hx := hf.ev x
      refine .of ?_
      generalize a.eval x = vx at hx ⊢
      split at h
      · rename_i fs b o hd ex
        rw [ex] at hx
        have hu := tok.under ht
        rw [hd] at hu
        split at h
        · rename_i off sz hs
          unfold fieldSz at hs
          split at hs
          · cases hs
          · rename_i g hg
            have hg' : fs[f]? = some g := by simpa using hg
            split at hs
            · cases hs
            · rename_i j hj
              injection hs with hs
              injection hs with h1 h2
              subst h1
              cases hx with
              | ptr hb =>
              have h3 := run_size (P := P) tok hj
              refine ⟨_, _, .ptr hb, fun w => ?_, h⟩
              simp [Instr.fieldAt, run_underlying hu, hg', Instr.sureAddr, fieldPlace, h3, h2, Addr.add_lit, Nat.add_assoc]
        · contradiction
      · contradiction
  case extract x i =>
    have hx := hf.ev x
    refine .of ?_
    generalize a.eval x = vx at hx ⊢
    split at h
    · rename_i vs ex
      rw [ex] at hx
      split at h
      · rename_i v hv
        cases hx with
        | @tup _ cvs hl hr =>
          have hi : i < vs.length := (List.getElem?_eq_some_iff.1 hv).1
          have hi' : i < cvs.size := by omega
          exact ⟨_, cvs[i], hr i _ _ hv (by simp [hi']), fun w => by simp [Instr.extract, hi'], h⟩
      · contradiction
    · contradiction
  case makeFunc fn first cap =>
    split at h
    · rename_i f hfirst
      have : first = #[] := by simpa using hfirst
      subst this
      rw [forceL_eq] at h
      have hm := rvs_map hf cap.toList
      refine .of ⟨_, _, .func (f := f) (caps := cap.toList.map (ev fr)) (cvs := cap.map a.eval) (by simp) (fun i c v hc hv => hm.2 i c v hc ?_), fun w => by simp [Instr.makeFunc], h⟩
      rw [← Array.getElem?_toList, Array.toList_map] at hv
      exact hv
    · contradiction
  case build t ps =>
    split at h
    · contradiction
    · rename_i d ht
      have hps : (ps.map fun (i, x) => (i, a.eval x)) = (ps.toList.map fun (i, x) => (i, a.eval x)).toArray := by apply Array.ext'; simp
      split at h
      · rename_i fs hd
        split at h
        · rename_i ha
          split at h
          · rename_i cs hc
            obtain ⟨vs, h1, h2⟩ := build_struct (P := P) tok hf ht hd ha hc
            rw [forceL_eq] at h
            exact .of ⟨_, _, rvs_agg h1, fun w => by dsimp only; rw [hps]; exact h2 w, h⟩
          · contradiction
        · contradiction
      · rename_i n e hd
        split at h
        · contradiction
        · rename_i j he
          split at h
          · rename_i cs hc
            obtain ⟨vs, h1, h2⟩ := build_array (P := P) tok hf ht hd he hc
            rw [forceL_eq] at h
            exact .of ⟨_, _, rvs_agg h1, fun w => by dsimp only; rw [hps]; exact h2 w, h⟩
          · contradiction
      · contradiction
  case convert s t x =>
    split at h
    · rename_i d0 d hs ht
      have hx := hf.ev x
      refine .of ?_
      generalize a.eval x = vx at hx ⊢
      split at h
      · rename_i k k' n hd ex
        rw [ex] at hx
        cases hx
        have hu := tok.under ht
        rw [hd] at hu
        have hu0 := tok.under hs
        exact ⟨_, _, .int _ _, fun w => by simp [convert, run_underlying hu, run_underlying hu0, Conv.intToInt], h.out⟩
      · contradiction
    · contradiction
  case call c =>
    obtain ⟨callee, args, argTypes⟩ := c
    dsimp only at h
    split at h
    · split at h
      · rename_i t x h1 h2
        have e1 : argTypes = #[t] := Array.ext' h1
        have e2 : args = #[x] := Array.ext' h2
        subst e1 e2
        split at h
        · contradiction
        · rename_i d ht
          split at h
          · rename_i hd
            obtain ⟨v, cv, r, g, k⟩ := vcLen_sound (P := P) (ty := ty) tok ht (hf.ev x) hd h
            exact ⟨v, cv, r, fun w => by simp [execOp, resolve, invoke, builtin, g w], k⟩
          · contradiction
      · contradiction
    · split at h
      · rename_i x rest h2
        have e2 : args = (x :: rest).toArray := by rw [← h2]
        subst e2
        obtain ⟨v, cv, r, g, k⟩ := vcMax_sound (P := P) true (rest.map (ev fr)) (rest.map a.eval) _ _ K (hf.ev x) (rvs_map hf rest) h
        refine ⟨v, cv, r, fun w => ?_, k⟩
        have g := g w
        simp at g
        simp [execOp, resolve, invoke, builtin, Builtin.max_, g]
      · contradiction
    · split at h
      · rename_i x rest h2
        have e2 : args = (x :: rest).toArray := by rw [← h2]
        subst e2
        obtain ⟨v, cv, r, g, k⟩ := vcMax_sound (P := P) false (rest.map (ev fr)) (rest.map a.eval) _ _ K (hf.ev x) (rvs_map hf rest) h
        refine ⟨v, cv, r, fun w => ?_, k⟩
        have g := g w
        simp at g
        simp [execOp, resolve, invoke, builtin, Builtin.min_, g]
      · contradiction
    · contradiction

end
end Go.Proofs.YtbicfognbbeigaaGreat.Ab

/-
  The library's eighth text says in abstract values what the operations on memory give, and proves the reads.
  It holds no condition of its own.
-/
set_option linter.unusedVariables false
set_option linter.unusedSimpArgs false
namespace Go.Proofs.YtbicfognbbeigaaGreat.Ab
open Go.RowKit

/-! Reads -/
inductive LoadG (h : H) (b o : Nat) (K : AV → Prop) : Prop where
  | mk (own : Bool) (sz : Nat) (cs : List AV) (v : AV) (hb : h b = some (.cells own sz cs)) (hv : cs[o]? = some v) (hk : K v) : LoadG h b o K

inductive LoadsG (h : H) (b o n : Nat) (K : List AV → Prop) : Prop where
  | mk (own : Bool) (sz : Nat) (cs : List AV) (hb : h b = some (.cells own sz cs)) (hn : o + n ≤ cs.length) (hk : K ((cs.drop o).take n)) : LoadsG h b o n K

def bytesAV (s : List UInt8) : List AV := s.map fun c => .int .u8 c.toNat

inductive TextG (h : H) (b o n : Nat) (K : AV → Prop) : Prop where
  | mk (own : Bool) (sz : Nat) (cs : List AV) (s : List UInt8) (hb : h b = some (.cells own sz cs)) (hn : o + n ≤ cs.length) (hs : (cs.drop o).take n = bytesAV s) (hk : K (.str s)) : TextG h b o n K

def textD (T : TT) (s t : TypeId) : Bool :=
  match tget T s, tget T t with
  | some d, some d' => match d.desc, d'.desc with
    | .slice e, .string => match tget T e with
      | some j => match j.desc with
        | .int .u8 => true
        | _ => false
      | none => false
    | _, _ => false
  | _, _ => false

/-! Maps: keys that can be held side by side -/
def listEq : List AV → List AV → Option Bool
  | [], [] => some true
  | .int k a :: r, .int k' b :: r' => match sameK k k', listEq r r' with
    | true, some t => some (a == b && t)
    | _, _ => none
  | _, _ => none

def keyEq : AV → AV → Option Bool
  | .int k a, .int k' b => match sameK k k' with
    | true => some (a == b)
    | false => none
  | .str a, .str b => some (a == b)
  | .agg a, .agg b => listEq a b
  | _, _ => none

/-- the place of a key -/
def findA (k : AV) : List (AV × AV) → Option (Option Nat)
  | [] => some none
  | (k', _) :: r => match keyEq k k' with
    | some true => some (some 0)
    | some false => match findA k r with
      | some (some n) => some (some (n + 1))
      | some none => some none
      | none => none
    | none => none

/-- operations that read memory -/
def vcR (T : TT) (op : Op) (fr : Fr) (h : H) (K : AV → Prop) : Prop :=
  match op with
  | .load t x => match tget T t with
    | none => False
    | some d => match ev fr x with
      | .ptr b o => match isAggD d.desc with
        | false => LoadG h b o K
        | true => LoadsG h b o d.size fun cs => K (.agg cs)
      | _ => False
  | .convert s t x => match textD T s t with
    | true => match ev fr x with
      | .nilslice => K (.str [])
      | .slice b o n _ => TextG h b o n K
      | _ => False
    | false => False
  | _ => False

section
variable {P : Program} {T : TT} {base : Nat} {W0 : World} {β : Bt} {nxt : Nat} {h : H} {w : World} {fr : Fr} {a : Act}

def YldR (P : Program) (β : Bt) (s : Sem Next) (w : World) (K : AV → Prop) : Prop := ∃ v cv, RV β v cv ∧ s.run P w = .ok (.value cv) w ∧ K v

theorem Sim.cell (s : Sim base W0 β nxt h w) {b o : Nat} {own : Bool} {sz : Nat} {cs : List AV} {v : AV} {p : Pos} (hb : h b = some (.cells own sz cs)) (hv : cs[o]? = some v) (hp : β b = some p) :
    ∃ cv, w.cell? ⟨p.blk, p.off + o, none⟩ = some cv ∧ RV β v cv := s.read hb hp hv

theorem getElem?_take_drop (cs : List AV) (o n j : Nat) (v : AV) (h : ((cs.drop o).take n)[j]? = some v) : cs[o + j]? = some v ∧ j < n := by
  rw [List.getElem?_take] at h
  split at h
  · rename_i hj
    rw [List.getElem?_drop] at h
    exact ⟨h, hj⟩
  · cases h

/-- cells of a block as a list of values -/
theorem Sim.cells (s : Sim base W0 β nxt h w) {b o n : Nat} {own : Bool} {sz : Nat} {cs : List AV} {p : Pos} (hb : h b = some (.cells own sz cs)) (hp : β b = some p) (hn : o + n ≤ cs.length) :
    ∃ vs : List Value, vs.length = n ∧ RVs β ((cs.drop o).take n) vs ∧ ∀ j v, vs[j]? = some v → w.cell? ⟨p.blk, p.off + o + j, none⟩ = some v := by
  obtain ⟨q, h1, arr, e, frz, h2, _, h4, h5, _⟩ := s.live b _ hb
  rw [hp] at h1
  injection h1 with h1
  subst h1
  refine ⟨((arr.toList.drop (p.off + o)).take n), by simp; omega, ?_, fun j v hj => ?_⟩
  · have := (h5.drop o).take n
    have e1 : (((arr.toList.drop p.off).take cs.length).drop o).take n = (arr.toList.drop (p.off + o)).take n := by
      rw [List.drop_take, List.take_take, List.drop_drop]
      congr 1
      omega
    rwa [e1] at this
  · rw [List.getElem?_take] at hj
    split at hj
    · rw [List.getElem?_drop] at hj
      simp only [Array.getElem?_toList] at hj
      simp [World.cell?, h2, hj, Nat.add_assoc]
      simpa [Nat.add_assoc] using hj
    · cases hj

theorem bytes_back (s : List UInt8) : (s.map fun c : UInt8 => (c.toNat : Int)).foldl (fun (r : ByteArray) n => r.push (UInt8.ofNat n.toNat)) ByteArray.empty = ⟨s.toArray⟩ := by
  have key : ∀ (s : List UInt8) (acc : ByteArray), (s.map fun c : UInt8 => (c.toNat : Int)).foldl (fun (r : ByteArray) n => r.push (UInt8.ofNat n.toNat)) acc = ⟨(acc.data.toList ++ s).toArray⟩ := by
    intro s
    induction s with
    | nil => intro acc; simp
    | cons c r ih =>
      intro acc
      rw [List.map_cons, List.foldl_cons, ih]
      simp
  simpa using key s ByteArray.empty

theorem rvs_bytes {s : List UInt8} {vs : List Value} (r : RVs β (bytesAV s) vs) : vs = (s.map fun c : UInt8 => (c.toNat : Int)).map (Value.int .u8) := by
  induction s generalizing vs with
  | nil => exact List.eq_nil_of_length_eq_zero r.1.symm
  | cons c s ih =>
    cases vs with
    | nil => have := r.1; simp [bytesAV] at this
    | cons v vs =>
      obtain ⟨h1, h2⟩ := RVs.head (c := .int .u8 c.toNat) (cs := bytesAV s) r
      cases h1
      rw [ih h2]
      rfl

theorem vcR_sound {o : Oper} {K : AV → Prop} (tok : TOk P T) (s : Sim base W0 β nxt h w) (hf : FrRel β fr a) (hk : vcR T o.op fr h K) : YldR P β (execOp a.eval o) w K := by
  obtain ⟨dst, op, ty, pos, after, guard⟩ := o
  cases op <;> simp only [vcR] at hk
  case load t x =>
    split at hk
    · contradiction
    · rename_i d ht
      have hx := hf.ev x
      have hu := run_isAgg (P := P) (tok.under ht)
      dsimp only [execOp]
      generalize a.eval x = vx at hx ⊢
      split at hk
      · rename_i b o ex
        rw [ex] at hx
        cases hx with
        | @ptr _ _ p hb =>
        split at hk
        · rename_i hd
          obtain ⟨own, sz, cs, v, h1, h2, h3⟩ := hk
          obtain ⟨cv, h4, h5⟩ := s.cell h1 h2 hb
          exact ⟨v, cv, h5, by simp [Instr.loadAt, Instr.sureAddr, loadVar, hu, hd, h4], h3⟩
        · rename_i hd
          obtain ⟨own, sz, cs, h1, h2, h3⟩ := hk
          obtain ⟨vs, h4, h5, h6⟩ := s.cells h1 hb h2
          have h7 := run_loadCells_list (P := P) w ⟨p.blk, p.off + o, none⟩ vs (fun j v hj => by rw [Addr.add_lit]; exact h6 j v hj)
          rw [h4] at h7
          exact ⟨_, .agg vs.toArray, rvs_agg (by simpa using h5), by simp [Instr.loadAt, Instr.sureAddr, loadVar, hu, hd, run_size tok ht, h7], h3⟩
      · contradiction
  case convert sT t x =>
    split at hk
    · rename_i htx
      have hx := hf.ev x
      dsimp only [execOp]
      generalize a.eval x = vx at hx ⊢
      unfold textD at htx
      split at htx
      · rename_i d d' hs ht
        split at htx
        · rename_i e hd hd'
          split at htx
          · rename_i j he
            split at htx
            · rename_i hj
              have hu1 := tok.under hs
              have hu2 := tok.under ht
              have hu3 := tok.under he
              rw [hd] at hu1
              rw [hd'] at hu2
              rw [hj] at hu3
              split at hk
              · rename_i ex
                rw [ex] at hx
                cases hx
                refine ⟨_, _, .str [], ?_, hk⟩
                simp [convert, run_underlying hu1, run_underlying hu2, run_underlying hu3, Conv.bytesToString]
                rfl
              · rename_i b o n c ex
                rw [ex] at hx
                obtain ⟨own, sz, cs, str, h1, h2, h3, h4⟩ := hk
                cases hx with
                | @slice _ _ _ _ p cap co hb hc hn ho htt =>
                by_cases hn0 : n = 0
                · subst hn0
                  simp at h3
                  have hstr : str = [] := by cases str with
                    | nil => rfl
                    | cons c r => simp [bytesAV] at h3
                  subst hstr
                  refine ⟨_, _, .str [], ?_, h4⟩
                  have h7 := run_bytesToString (P := P) w ⟨p.blk, co, none⟩ 0 cap [] (by simp [loadCells, loadCellsFrom])
                  simp [run_convert_bytes_string w sT t e _ 0 cap hu1 hu3 hu2, h7]
                  rfl
                · obtain ⟨vs, h5, h6, h7⟩ := s.cells h1 hb h2
                  rw [h3] at h6
                  have h8 := rvs_bytes h6
                  have hco : co = p.off + o := by omega
                  subst hco
                  have h9 := run_loadCells_list (P := P) w ⟨p.blk, p.off + o, none⟩ vs (fun j v hj => by rw [Addr.add_lit]; exact h7 j v hj)
                  rw [h5, h8] at h9
                  have h10 := run_bytesToString (P := P) w ⟨p.blk, p.off + o, none⟩ n cap _ h9
                  rw [bytes_back] at h10
                  refine ⟨_, _, .str str, ?_, h4⟩
                  simp [run_convert_bytes_string w sT t e _ n cap hu1 hu3 hu2, h10]
              · contradiction
            · cases htx
          · cases htx
        · cases htx
      · cases htx
    · contradiction

end
end Go.Proofs.YtbicfognbbeigaaGreat.Ab
