/-
  The library's second text proves laws of an abstract memory that stands for the real one.
  It holds no condition of its own.
-/
import Derived.Test.YtcepogfmajlcjaaAb1
set_option linter.unusedVariables false
set_option linter.unusedSimpArgs false
namespace Go.Proofs.Ytcepogfmajlcjaa.Ab
open Go.RowKit

inductive Blk where
  | cells (own : Bool) (sz : Nat) (cs : List AV)
  | map (es : List (AV × AV))

def Blk.own : Blk → Bool
  | .cells o _ _ => o
  | .map _ => true

abbrev H := Nat → Option Blk

def upd (h : H) (b : Nat) (x : Blk) : H := fun y => if y = b then some x else h y
def kill (h : H) (b : Nat) : H := fun y => if y = b then none else h y

theorem upd_same (h : H) (b : Nat) (x : Blk) : upd h b x b = some x := by simp [upd]
theorem upd_ne (h : H) {b y : Nat} (x : Blk) (hy : y ≠ b) : upd h b x y = h y := by simp [upd, hy]
theorem kill_same (h : H) (b : Nat) : kill h b b = none := by simp [kill]
theorem kill_ne (h : H) {b y : Nat} (hy : y ≠ b) : kill h b y = h y := by simp [kill, hy]

/-- one block as it lies -/
def BlkRel (base : Nat) (β : Bt) (p : Pos) (w : World) : Blk → Prop
  | .cells own sz cs => ∃ arr e frz, w.heap[p.blk]? = some (.cells arr e frz) ∧ p.sz = sz ∧ p.off + cs.length ≤ arr.size ∧
      RVs β cs ((arr.toList.drop p.off).take cs.length) ∧
      (own = true → base ≤ p.blk ∧ p.off = 0 ∧ arr.size = p.tot ∧ ∀ i, i < arr.size → ¬(frz.1 ≤ i ∧ i < frz.2)) ∧ (own = false → p.blk < base)
  | .map es => base ≤ p.blk ∧ ∃ ents clk, w.heap[p.blk]? = some (.map ents clk) ∧ RVs β (es.map (·.1)) (ents.toList.map (·.key)) ∧
      RVs β (es.map (·.2)) (ents.toList.map (·.val))

structure Sim (base : Nat) (W0 : World) (β : Bt) (nxt : Nat) (h : H) (w : World) : Prop where
  below : Below base W0 w
  ge : base ≤ w.heap.size
  fresh : ∀ b, nxt ≤ b → β b = none
  live : ∀ b x, h b = some x → ∃ p, β b = some p ∧ BlkRel base β p w x
  inj : ∀ b b' x x' p p', h b = some x → h b' = some x' → x.own = true → x'.own = true → β b = some p → β b' = some p' → p.blk = p'.blk → b = b'

theorem BlkRel.mono {base : Nat} {β β' : Bt} {p : Pos} {w : World} {x : Blk} (he : Ext β β') (r : BlkRel base β p w x) : BlkRel base β' p w x := by
  cases x with
  | cells own sz cs =>
    obtain ⟨arr, e, frz, h1, h2, h3, h4, h5⟩ := r
    exact ⟨arr, e, frz, h1, h2, h3, h4.mono he, h5⟩
  | map es =>
    obtain ⟨h0, ents, clk, h1, h2, h3⟩ := r
    exact ⟨h0, ents, clk, h1, h2.mono he, h3.mono he⟩

theorem BlkRel.world {base : Nat} {β : Bt} {p : Pos} {w w' : World} {x : Blk} (hw : w'.heap[p.blk]? = w.heap[p.blk]?) (r : BlkRel base β p w x) : BlkRel base β p w' x := by
  cases x with
  | cells own sz cs =>
    obtain ⟨arr, e, frz, h1, h2⟩ := r
    exact ⟨arr, e, frz, hw.trans h1, h2⟩
  | map es =>
    obtain ⟨h0, ents, clk, h1, h2⟩ := r
    exact ⟨h0, ents, clk, hw.trans h1, h2⟩

theorem BlkRel.lt {base : Nat} {β : Bt} {p : Pos} {w : World} {x : Blk} (r : BlkRel base β p w x) : p.blk < w.heap.size := by
  cases x with
  | cells own sz cs =>
    obtain ⟨arr, e, frz, h1, _⟩ := r
    exact (Array.getElem?_eq_some_iff.1 h1).1
  | map es =>
    obtain ⟨_, ents, clk, h1, _⟩ := r
    exact (Array.getElem?_eq_some_iff.1 h1).1

theorem BlkRel.ownGe {base : Nat} {β : Bt} {p : Pos} {w : World} {x : Blk} (r : BlkRel base β p w x) (ho : x.own = true) : base ≤ p.blk := by
  cases x with
  | cells own sz cs =>
    obtain ⟨arr, e, frz, _, _, _, _, h5, _⟩ := r
    exact (h5 ho).1
  | map es => exact r.1

theorem BlkRel.notOwnLt {base : Nat} {β : Bt} {p : Pos} {w : World} {x : Blk} (r : BlkRel base β p w x) (ho : x.own = false) : p.blk < base := by
  cases x with
  | cells own sz cs =>
    obtain ⟨arr, e, frz, _, _, _, _, _, h6⟩ := r
    exact h6 ho
  | map es => cases ho

section
variable {base : Nat} {W0 : World} {β : Bt} {nxt : Nat} {h : H} {w : World}

/-- a draw -/
theorem Sim.drew (s : Sim base W0 β nxt h w) : Sim base W0 β nxt h { w with drawn := w.drawn + 1 } :=
  ⟨s.below.drew, s.ge, s.fresh, fun b x hb => let ⟨p, h1, h2⟩ := s.live b x hb; ⟨p, h1, h2.world rfl⟩, s.inj⟩

/-- blocks are forgotten -/
theorem Sim.kill (s : Sim base W0 β nxt h w) (b : Nat) : Sim base W0 β nxt (kill h b) w := by
  refine ⟨s.below, s.ge, s.fresh, fun y x hy => ?_, fun y y' x x' p p' hy hy' => ?_⟩
  · unfold Ab.kill at hy
    split at hy
    · cases hy
    · exact s.live y x hy
  · unfold Ab.kill at hy hy'
    split at hy
    · cases hy
    · split at hy'
      · cases hy'
      · exact s.inj y y' x x' p p' hy hy'

/-- the place of a new block -/
def bput (β : Bt) (b : Nat) (p : Pos) : Bt := fun y => if y = b then some p else β y

theorem Ext.put {β : Bt} {b : Nat} {p : Pos} (hb : β b = none) : Ext β (bput β b p) := by
  intro y q hy
  unfold bput
  split
  · rename_i e; subst e; rw [hb] at hy; cases hy
  · exact hy

/-- a new block -/
theorem Sim.alloc (s : Sim base W0 β nxt h w) (o : Obj) (p : Pos) (hp : p.blk = w.heap.size) (x : Blk)
    (r : BlkRel base (bput β nxt p) p (w.alloc o) x) : Sim base W0 (bput β nxt p) (nxt + 1) (upd h nxt x) (w.alloc o) := by
  have hnn : β nxt = none := s.fresh nxt (Nat.le_refl _)
  have he : Ext β (bput β nxt p) := Ext.put hnn
  have hold : ∀ b x, h b = some x → b ≠ nxt := fun b x hb e => by
    obtain ⟨q, h1, _⟩ := s.live b x hb
    subst e
    rw [hnn] at h1
    cases h1
  refine ⟨s.below.alloc s.ge o, by have := s.ge; simp; omega, fun b hb => ?_, fun b y hb => ?_, fun b b' y y' q q' hb hb' ho ho' hq hq' hqq => ?_⟩
  · unfold bput
    rw [if_neg (by omega)]
    exact s.fresh b (by omega)
  · unfold upd at hb
    split at hb
    · rename_i e
      subst e
      injection hb with hb
      subst hb
      exact ⟨p, by simp [bput], r⟩
    · obtain ⟨q, h1, h2⟩ := s.live b y hb
      refine ⟨q, he _ _ h1, (h2.world ?_).mono he⟩
      exact Below.heap_alloc w o q.blk h2.lt
  · unfold upd at hb hb'
    have key : ∀ b y q, h b = some y → bput β nxt p b = some q → q.blk < w.heap.size := fun b y q hb hq => by
      obtain ⟨q0, h1, h2⟩ := s.live b y hb
      have := he _ _ h1
      rw [hq] at this
      injection this with this
      subst this
      exact h2.lt
    split at hb
    · rename_i e
      split at hb'
      · rename_i e'; exact e.trans e'.symm
      · exfalso
        subst e
        have h1 : q = p := by simpa [bput] using hq.symm
        have h2 := key b' y' q' hb' hq'
        subst h1
        omega
    · split at hb'
      · rename_i e'
        exfalso
        subst e'
        have h1 : q' = p := by simpa [bput] using hq'.symm
        have h2 := key b y q hb hq
        subst h1
        omega
      · rename_i n n'
        have hq0 : β b = some q := by simpa [bput, n] using hq
        have hq0' : β b' = some q' := by simpa [bput, n'] using hq'
        exact s.inj b b' y y' q q' hb hb' ho ho' hq0 hq0' hqq

/-- the heap's block of an own block is put anew, in place -/
theorem Sim.setOwn (s : Sim base W0 β nxt h w) {b : Nat} {x x' : Blk} {p : Pos} {w' : World} (hb : h b = some x) (ho : x.own = true) (hp : β b = some p)
    (hbl : Below base W0 w') (hsz : w.heap.size ≤ w'.heap.size) (hoth : ∀ k, k < w.heap.size → k ≠ p.blk → w'.heap[k]? = w.heap[k]?) (hx : x'.own = true) (r : BlkRel base β p w' x') :
    Sim base W0 β nxt (upd h b x') w' := by
  refine ⟨hbl, Nat.le_trans s.ge hsz, s.fresh, fun y z hy => ?_, fun y y' z z' q q' hy hy' hz hz' hq hq' hqq => ?_⟩
  · unfold upd at hy
    split at hy
    · rename_i e
      subst e
      injection hy with hy
      subst hy
      exact ⟨p, hp, r⟩
    · rename_i hne
      obtain ⟨q, h1, h2⟩ := s.live y z hy
      refine ⟨q, h1, h2.world (hoth _ h2.lt ?_)⟩
      intro e
      cases hzo : z.own with
      | true => exact hne (s.inj y b z x q p hy hb hzo ho h1 hp e)
      | false =>
        have h3 := h2.notOwnLt hzo
        obtain ⟨p1, h4, h5⟩ := s.live b x hb
        rw [hp] at h4
        injection h4 with h4
        subst h4
        have h6 := h5.ownGe ho
        omega
  · have key : ∀ y z, upd h b x' y = some z → z.own = true → ∃ z0, h y = some z0 ∧ z0.own = true := fun y z hy hz => by
      unfold upd at hy
      split at hy
      · rename_i e; subst e; exact ⟨x, hb, ho⟩
      · exact ⟨z, hy, hz⟩
    obtain ⟨z0, h1, h2⟩ := key y z hy hz
    obtain ⟨z1, h3, h4⟩ := key y' z' hy' hz'
    exact s.inj y y' z0 z1 q q' h1 h3 h2 h4 hq hq' hqq

/-- an own block goes on under a new number -/
theorem Sim.reput (s : Sim base W0 β nxt h w) {b : Nat} {x x' : Blk} {p p' : Pos} {w' : World} (hb : h b = some x) (ho : x.own = true) (hp : β b = some p)
    (hbl : Below base W0 w') (hsz : w.heap.size ≤ w'.heap.size) (hoth : ∀ k, k < w.heap.size → k ≠ p.blk → w'.heap[k]? = w.heap[k]?)
    (hpp : p'.blk = p.blk) (r : BlkRel base (bput β nxt p') p' w' x') :
    Sim base W0 (bput β nxt p') (nxt + 1) (upd (Ab.kill h b) nxt x') w' := by
  have hnn : β nxt = none := s.fresh nxt (Nat.le_refl _)
  have he : Ext β (bput β nxt p') := Ext.put hnn
  have hne : ∀ b x, h b = some x → b ≠ nxt := fun b x hb e => by
    obtain ⟨q, h1, _⟩ := s.live b x hb
    subst e
    rw [hnn] at h1
    cases h1
  have hother : ∀ y z q, h y = some z → y ≠ b → β y = some q → q.blk ≠ p.blk := fun y z q hy hyb hq e => by
    obtain ⟨q1, h1, h2⟩ := s.live y z hy
    rw [hq] at h1
    injection h1 with h1
    subst h1
    cases hzo : z.own with
    | true => exact hyb (s.inj y b z x q p hy hb hzo ho hq hp e)
    | false =>
      have h3 := h2.notOwnLt hzo
      obtain ⟨p1, h4, h5⟩ := s.live b x hb
      rw [hp] at h4
      injection h4 with h4
      subst h4
      have h6 := h5.ownGe ho
      omega
  have hkill : ∀ y z, Ab.kill h b y = some z → h y = some z ∧ y ≠ b := fun y z hy => by
    unfold Ab.kill at hy
    split at hy
    · cases hy
    · rename_i hn; exact ⟨hy, hn⟩
  have hq0 : ∀ y z q, h y = some z → bput β nxt p' y = some q → β y = some q := fun y z q hy hq => by
    have := hne y z hy
    simpa [bput, this] using hq
  refine ⟨hbl, Nat.le_trans s.ge hsz, fun y hy => ?_, fun y z hy => ?_, fun y y' z z' q q' hy hy' hz hz' hq hq' hqq => ?_⟩
  · unfold bput
    rw [if_neg (by omega)]
    exact s.fresh y (by omega)
  · unfold upd at hy
    split at hy
    · rename_i e
      subst e
      injection hy with hy
      subst hy
      exact ⟨p', by simp [bput], r⟩
    · obtain ⟨h1, h2⟩ := hkill y z hy
      obtain ⟨q, h3, h4⟩ := s.live y z h1
      exact ⟨q, he _ _ h3, (h4.world (hoth _ h4.lt (hother y z q h1 h2 h3))).mono he⟩
  · unfold upd at hy hy'
    split at hy
    · rename_i e
      split at hy'
      · rename_i e'; exact e.trans e'.symm
      · exfalso
        subst e
        have h1 : q = p' := by simpa [bput] using hq.symm
        obtain ⟨h2, h3⟩ := hkill y' z' hy'
        exact hother y' z' q' h2 h3 (hq0 y' z' q' h2 hq') (by rw [← hqq, h1, hpp])
    · split at hy'
      · rename_i e'
        exfalso
        subst e'
        have h1 : q' = p' := by simpa [bput] using hq'.symm
        obtain ⟨h2, h3⟩ := hkill y z hy
        exact hother y z q h2 h3 (hq0 y z q h2 hq) (by rw [hqq, h1, hpp])
      · obtain ⟨h2, _⟩ := hkill y z hy
        obtain ⟨h3, _⟩ := hkill y' z' hy'
        exact s.inj y y' z z' q q' h2 h3 hz hz' (hq0 y z q h2 hq) (hq0 y' z' q' h3 hq') hqq

/-- the cells of a block, read -/
theorem Sim.read (s : Sim base W0 β nxt h w) {b : Nat} {own : Bool} {sz : Nat} {cs : List AV} (hb : h b = some (.cells own sz cs)) {p : Pos} (hp : β b = some p)
    {i : Nat} {c : AV} (hc : cs[i]? = some c) : ∃ v, w.cell? ⟨p.blk, p.off + i, none⟩ = some v ∧ RV β c v := by
  obtain ⟨q, h1, arr, e, frz, h2, _, h4, h5, _⟩ := s.live b _ hb
  rw [hp] at h1
  injection h1 with h1
  subst h1
  have hi : i < cs.length := (List.getElem?_eq_some_iff.1 hc).1
  obtain ⟨v, hv, hr⟩ := h5.getD i hc
  refine ⟨v, ?_, hr⟩
  rw [List.getElem?_take, if_pos hi, List.getElem?_drop] at hv
  simpa [World.cell?, h2] using hv

end

end Go.Proofs.Ytcepogfmajlcjaa.Ab
