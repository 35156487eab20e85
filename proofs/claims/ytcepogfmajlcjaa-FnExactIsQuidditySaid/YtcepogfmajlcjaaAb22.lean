/-
  The library's twenty-second text proves how rows among a law's arguments are opened.
  It holds no condition of its own.
-/
import Derived.Test.YtcepogfmajlcjaaAb21
import Derived.ChangeSlices
import Derived.SliceStrings
import Derived.ChangeShapes
set_option linter.unusedVariables false
set_option linter.unusedSimpArgs false
namespace Go.Proofs.Ytcepogfmajlcjaa.Ab
open Go.RowKit

/-- cells that a slice shows -/
def CellsAt (h : H) (v : AV) (cs : List AV) : Prop := (v = .nilslice ∧ cs = []) ∨ ∃ b c, v = .slice b 0 cs.length c ∧ Has h b cs
theorem CellsAt.keep {h h' : H} {v : AV} {cs : List AV} (m : CellsAt h v cs) (k : Keeps h h') : CellsAt h' v cs := by
  rcases m with m | ⟨b, c, e, m⟩
  · exact .inl m
  · exact .inr ⟨b, c, e, m.keep k⟩

def bdI (l : List Int) : Prop := ∀ x ∈ l, -9223372036854775808 ≤ x ∧ x ≤ 9223372036854775807
def IntsArg (h : H) (v : AV) : Prop := ∃ l, bdI l ∧ l.length ≤ 9223372036854775807 ∧ CellsAt h v (ints l)
theorem IntsArg.keep {h h' : H} {v : AV} (m : IntsArg h v) (k : Keeps h h') : IntsArg h' v := by
  obtain ⟨l, h1, h2, h3⟩ := m
  exact ⟨l, h1, h2, h3.keep k⟩
def StrsArg (h : H) (v : AV) : Prop := ∃ l, (∀ s ∈ l, s.length ≤ 9223372036854775807) ∧ l.length ≤ 9223372036854775807 ∧ CellsAt h v (strs l)
theorem StrsArg.keep {h h' : H} {v : AV} (m : StrsArg h v) (k : Keeps h h') : StrsArg h' v := by
  obtain ⟨l, h1, h2, h3⟩ := m
  exact ⟨l, h1, h2, h3.keep k⟩

/-- values that a slice shows in a world -/
def CellsIn (w : World) (v : Value) (vs : List Value) : Prop :=
  (v = .slice none 0 0 ∧ vs = []) ∨ ∃ blk off cap arr e frz, v = .slice (some ⟨blk, off, none⟩) vs.length cap ∧ vs.length ≤ cap ∧ w.heap[blk]? = some (.cells arr e frz) ∧
    (cap = 0 ∨ off + vs.length ≤ arr.size) ∧ ∀ i x, vs[i]? = some x → arr[off + i]? = some x

theorem CellsIn.enter {w : World} {v : Value} {vs : List Value} {cs : List AV} {β : Bt} {nxt : Nat} {h : H} (c : CellsIn w v vs) (s : Sim w.heap.size w β nxt h w) (r : RVs β cs vs) :
    ∃ β' nxt' h' a, Ext β β' ∧ Sim w.heap.size w β' nxt' h' w ∧ RV β' a v ∧ Keeps h h' ∧ CellsAt h' a cs := by
  rcases c with ⟨rfl, rfl⟩ | ⟨blk, off, cap, arr, e, frz, rfl, hl, hh, hsz, hcell⟩
  · have : cs = [] := List.eq_nil_of_length_eq_zero r.1
    exact ⟨β, nxt, h, .nilslice, Ext.refl β, s, .nilslice, Keeps.refl h, .inl ⟨rfl, this⟩⟩
  · have hb : blk < w.heap.size := (Array.getElem?_eq_some_iff.1 hh).1
    have hlen := r.1
    have hnn : β nxt = none := s.fresh nxt (Nat.le_refl _)
    let p : Pos := ⟨blk, if cap = 0 then 0 else off, 1, off + cap⟩
    have he : Ext β (bput β nxt p) := Ext.put hnn
    have hr : RVs (bput β nxt p) cs ((arr.toList.drop p.off).take cs.length) := by
      have e1 : (arr.toList.drop p.off).take cs.length = vs := by
        rw [hlen]
        by_cases hc : cap = 0
        · have : vs = [] := List.eq_nil_of_length_eq_zero (by omega)
          rw [this]
          simp
        · have h3 : off + vs.length ≤ arr.size := by rcases hsz with h | h; exact absurd h hc; exact h
          have e2 : p.off = off := by simp [p, hc]
          rw [e2]
          apply List.ext_getElem?
          intro i
          by_cases hi : i < vs.length
          · rw [List.getElem?_take, if_pos hi, List.getElem?_drop]
            have := hcell i _ (List.getElem?_eq_getElem hi)
            rw [List.getElem?_eq_getElem hi, ← this]
            simp
          · rw [List.getElem?_eq_none (by simp; omega), List.getElem?_eq_none (by omega)]
      rw [e1]
      exact r.mono he
    have hbr : BlkRel w.heap.size (bput β nxt p) p w (.cells false 1 cs) := by
      refine ⟨arr, e, frz, hh, rfl, ?_, hr, fun h => (by cases h), fun _ => hb⟩
      rw [hlen]
      by_cases hc : cap = 0
      · simp [p, hc]; omega
      · rcases hsz with h | h
        · exact absurd h hc
        · simpa [p, hc] using h
    refine ⟨bput β nxt p, nxt + 1, upd h nxt (.cells false 1 cs), .slice nxt 0 cs.length cs.length, he, s.addRo p 1 cs hbr, ?_, (Keeps.refl h).upd s.freshNone _, .inr ⟨nxt, cs.length, rfl, false, 1, upd_same _ _ _⟩⟩
    rw [← hlen]
    exact .slice (bput_at nxt p) (by omega) (Nat.le_refl _) (by
      by_cases hc : cap = 0
      · exact .inl hc
      · exact .inr (by simp [p, hc])) (by intro _; simp [p])

theorem rvs_ints (β : Bt) : ∀ l : List Int, RVs β (ints l) (l.map (Value.int .i64))
  | [] => RVs.nil β
  | x :: l => RVs.cons (.int _ _) (rvs_ints β l)
theorem rvs_strs (β : Bt) : ∀ l : List ByteArray, RVs β (strs (l.map fun s => s.data.toList)) (l.map Value.string)
  | [] => RVs.nil β
  | x :: l => RVs.cons (rv_string β x) (rvs_strs β l)

def IntsIn (w : World) (v : Value) : Prop := ∃ l : List Int, bdI l ∧ l.length ≤ 9223372036854775807 ∧ CellsIn w v (l.map (Value.int .i64))
theorem IntsIn.enter {w : World} {v : Value} {β : Bt} {nxt : Nat} {h : H} (c : IntsIn w v) (s : Sim w.heap.size w β nxt h w) :
    ∃ β' nxt' h' a, Ext β β' ∧ Sim w.heap.size w β' nxt' h' w ∧ RV β' a v ∧ Keeps h h' ∧ IntsArg h' a := by
  obtain ⟨l, h1, h2, h3⟩ := c
  obtain ⟨β', nxt', h', a, g1, g2, g3, g4, g5⟩ := h3.enter s (rvs_ints β l)
  exact ⟨β', nxt', h', a, g1, g2, g3, g4, l, h1, h2, g5⟩
def StrsIn (w : World) (v : Value) : Prop := ∃ l : List ByteArray, (∀ s ∈ l, s.size ≤ maxLen) ∧ l.length ≤ 9223372036854775807 ∧ CellsIn w v (l.map Value.string)
theorem StrsIn.enter {w : World} {v : Value} {β : Bt} {nxt : Nat} {h : H} (c : StrsIn w v) (s : Sim w.heap.size w β nxt h w) :
    ∃ β' nxt' h' a, Ext β β' ∧ Sim w.heap.size w β' nxt' h' w ∧ RV β' a v ∧ Keeps h h' ∧ StrsArg h' a := by
  obtain ⟨l, h1, h2, h3⟩ := c
  obtain ⟨β', nxt', h', a, g1, g2, g3, g4, g5⟩ := h3.enter s (rvs_strs β l)
  refine ⟨β', nxt', h', a, g1, g2, g3, g4, _, ?_, by simpa using h2, g5⟩
  intro s hs
  obtain ⟨x, hx, rfl⟩ := List.mem_map.1 hs
  exact len_le (h1 x hx)

section
variable {H : Type} {enc : TypeId × Value → H} {P : Program} {w : World} {base : Nat} {held : Bool}

theorem cell_arr {a : Addr} {v : Value} (h : w.cell? a = some v) : ∃ arr e frz, w.heap[a.block]? = some (.cells arr e frz) ∧ arr[a.off]? = some v ∧ a.spot = none := by
  unfold World.cell? at h
  split at h
  · rename_i c e frz hc
    split at h
    · cases h
    · rename_i hs
      refine ⟨c, e, frz, hc, h, ?_⟩
      cases hx : a.spot with
      | none => rfl
      | some x => rw [hx] at hs; simp at hs
  · cases h

/-- cells read one by one are a row -/
theorem cellsIn_of {a : Addr} {len cap : Nat} {vs : List Value} (hl : len ≤ cap) (hz : vs.length = cap) (hsp : a.spot = none) (hblk : ∃ arr e frz, w.heap[a.block]? = some (.cells arr e frz))
    (hc : ∀ i x, vs[i]? = some x → w.cell? (a.add i) = some x) : CellsIn w (.slice (some a) len cap) (vs.take len) := by
  obtain ⟨b, o, sp⟩ := a
  dsimp only at hsp
  subst hsp
  obtain ⟨arr, e, frz, hh⟩ := hblk
  dsimp only at hh
  have e1 : (vs.take len).length = len := by simp; omega
  have key : ∀ i x, vs[i]? = some x → arr[o + i]? = some x := fun i x hx => by
    have := hc i x hx
    rw [Addr.add_lit] at this
    simpa [World.cell?, hh] using this
  refine .inr ⟨b, o, cap, arr, e, frz, by rw [e1], by omega, hh, ?_, fun i x hx => ?_⟩
  · by_cases h0 : cap = 0
    · exact .inl h0
    · right
      have hi : cap - 1 < vs.length := by omega
      have := key (cap - 1) _ (List.getElem?_eq_getElem hi)
      have := (Array.getElem?_eq_some_iff.1 this).1
      omega
  · rw [List.getElem?_take] at hx
    split at hx
    · exact key i x hx
    · cases hx

theorem has_of {t e : TypeId} {a : Addr} {len cap : Nat} (ht : P.underlying t = some (.slice e)) (hv : Value.okWide P w .any base t (.slice (some a) len cap)) :
    a.spot = none ∧ ∃ arr e frz, w.heap[a.block]? = some (.cells arr e frz) := by
  simp only [Value.okWide, ht, Cell.okWide, Cell.ok] at hv
  obtain ⟨_, _, _, h1, row, cells, h2, _⟩ := hv
  refine ⟨h1, ?_⟩
  unfold World.shape? at h2
  split at h2
  · rename_i c e frz hc
    exact ⟨c, e, frz, hc⟩
  · cases h2

theorem ints_in {t e : TypeId} {v : Value} {d : DataW H} {ps : List MemPlace} (ht : P.underlying t = some (.slice e)) (he : P.underlying e = some (.int .i64)) (hc : P.cellsOf e = 1)
    (hv : Value.okWide P w .any base t v) (hd : DataW.Trod enc P w 0 (fun _ => true) held t v d ps) : IntsIn w v := by
  obtain ⟨a0, len, cap, rfl⟩ := Go.WideShapes.okWide_slice ht hv
  obtain ⟨fuel, hf⟩ := hd
  rcases Go.ChangeShapes.open_ints ht he hc hf with ⟨hcs, hx⟩ | ⟨a, len', cap', zs, hcs, _, hl, hm, hz, hx, hcell, hwf⟩
  · simp [Value.cells] at hcs
    obtain ⟨rfl, rfl, rfl⟩ := hcs
    exact ⟨[], fun x hx => (nomatch hx), by simp, .inl ⟨rfl, rfl⟩⟩
  · simp [Value.cells] at hcs
    obtain ⟨rfl, rfl, rfl⟩ := hcs
    simp only [if_true] at hz
    obtain ⟨hsp, hblk⟩ := has_of ht hv
    unfold maxLen at hm
    refine ⟨zs.take len, fun x hx => bounds_i64 (hwf x (List.mem_of_mem_take hx)), by simp; omega, ?_⟩
    rw [List.map_take]
    refine cellsIn_of hl (by simpa using hz) hsp hblk fun i x hx => ?_
    rw [List.getElem?_map] at hx
    cases hzi : zs[i]? with
    | none => rw [hzi] at hx; cases hx
    | some z =>
      rw [hzi] at hx
      injection hx with hx
      subst hx
      have hi := (List.getElem?_eq_some_iff.1 hzi).1
      have := hcell i hi
      rw [this]
      simp [List.getD, hzi]

theorem strs_in {t e : TypeId} {v : Value} {d : DataW H} {ps : List MemPlace} (ht : P.underlying t = some (.slice e)) (he : P.underlying e = some .string) (hc : P.cellsOf e = 1)
    (hv : Value.okWide P w .any base t v) (hd : DataW.Trod enc P w 0 (fun _ => true) held t v d ps) : StrsIn w v := by
  obtain ⟨a0, len, cap, rfl⟩ := Go.WideShapes.okWide_slice ht hv
  obtain ⟨fuel, hf⟩ := hd
  rcases Go.ChangeShapes.open_strings ht he hc hf with ⟨hcs, hx⟩ | ⟨a, len', cap', ss, hcs, _, hl, hm, hz, hx, hcell, hwf⟩
  · simp [Value.cells] at hcs
    obtain ⟨rfl, rfl, rfl⟩ := hcs
    exact ⟨[], fun x hx => (nomatch hx), by simp, .inl ⟨rfl, rfl⟩⟩
  · simp [Value.cells] at hcs
    obtain ⟨rfl, rfl, rfl⟩ := hcs
    simp only [if_true] at hz
    obtain ⟨hsp, hblk⟩ := has_of ht hv
    unfold maxLen at hm
    refine ⟨ss.take len, fun x hx => hwf x (List.mem_of_mem_take hx), by simp; omega, ?_⟩
    rw [List.map_take]
    refine cellsIn_of hl (by simpa using hz) hsp hblk fun i x hx => ?_
    rw [List.getElem?_map] at hx
    cases hzi : ss[i]? with
    | none => rw [hzi] at hx; cases hx
    | some z =>
      rw [hzi] at hx
      injection hx with hx
      subst hx
      have hi := (List.getElem?_eq_some_iff.1 hzi).1
      have := hcell i hi
      rw [this]
      simp [List.getD, hzi]

end

end Go.Proofs.Ytcepogfmajlcjaa.Ab
