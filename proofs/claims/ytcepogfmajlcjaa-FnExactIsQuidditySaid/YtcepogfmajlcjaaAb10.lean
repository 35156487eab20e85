/-
  The library's tenth text proves what the operations that write or make memory do.
  It holds no condition of its own.
-/
import Derived.Test.YtcepogfmajlcjaaAb9
set_option linter.unusedVariables false
set_option linter.unusedSimpArgs false
namespace Go.Proofs.Ytcepogfmajlcjaa.Ab
open Go.RowKit

section
variable {E : Env} {P : Program} {T : TT} {base : Nat} {W0 : World} {β : Bt} {nxt : Nat} {h : H} {w : World} {fr : Fr} {a : Act}

theorem setCell_block {b o : Nat} {arr : Array Value} {e : TypeId} {frz : Nat × Nat} (v : Value) (hw : w.heap[b]? = some (.cells arr e frz)) :
    (w.setCell ⟨b, o, none⟩ v).heap[b]? = some (.cells (arr.setIfInBounds o v) e frz) := by
  unfold World.setCell
  simp [Array.getElem?_modify, hw]

theorem setCell_other {b o k : Nat} (v : Value) (hk : k ≠ b) : (w.setCell ⟨b, o, none⟩ v).heap[k]? = w.heap[k]? := Below.heap_setCell w _ v k hk

theorem setCell_size {b o : Nat} (v : Value) : (w.setCell ⟨b, o, none⟩ v).heap.size = w.heap.size := by simp [World.setCell]

theorem setCells_facts (b : Nat) (e : TypeId) (frz : Nat × Nat) (B : Nat) (W : World) (hB : B ≤ b) : ∀ (vs : List Value) (o : Nat) (w : World) (arr : Array Value), w.heap[b]? = some (.cells arr e frz) → o + vs.length ≤ arr.size → Below B W w →
    ∃ arr', (w.setCells b o vs).heap[b]? = some (.cells arr' e frz) ∧ arr'.toList = arr.toList.take o ++ vs ++ arr.toList.drop (o + vs.length) ∧ (w.setCells b o vs).heap.size = w.heap.size ∧
      (∀ k, k ≠ b → (w.setCells b o vs).heap[k]? = w.heap[k]?) ∧ Below B W (w.setCells b o vs)
  | [], o, w, arr, hw, _, hbel => ⟨arr, hw, by simp, rfl, fun _ _ => rfl, hbel⟩
  | v :: r, o, w, arr, hw, hl, hbel => by
    simp only [List.length_cons] at hl
    obtain ⟨arr', h1, h2, h3, h4, h5⟩ := setCells_facts b e frz B W hB r (o + 1) (w.setCell ⟨b, o, none⟩ v) (arr.setIfInBounds o v) (setCell_block v hw) (by simp; omega) (hbel.setCell hB v)
    refine ⟨arr', h1, ?_, h3.trans (setCell_size v), fun k hk => (h4 k hk).trans (setCell_other v hk), h5⟩
    rw [h2, Array.toList_setIfInBounds]
    have hlt : o < arr.toList.length := by simp; omega
    apply List.ext_getElem?
    intro i
    simp only [List.append_assoc, List.getElem?_append, List.length_take, List.length_set, List.getElem?_take, List.getElem?_set, List.getElem?_drop, List.length_cons, Array.length_toList]
    have e1 : min (o + 1) arr.size = o + 1 := by omega
    have e2 : min o arr.size = o := by omega
    rw [e1, e2]
    by_cases c1 : i < o
    · have a1 : i < o + 1 := by omega
      have a2 : o ≠ i := by omega
      simp [c1, a1, a2]
    · by_cases c2 : i = o
      · subst c2
        simp at hlt
        simp [hlt]
      · have a1 : ¬ i < o + 1 := by omega
        simp only [a1, c1, if_false]
        by_cases c3 : i - (o + 1) < r.length
        · have c4 : i - o = (i - (o + 1)) + 1 := by omega
          have c5 : i - o < r.length + 1 := by omega
          simp [c3, c5, c4]
        · have c5 : ¬ i - o < r.length + 1 := by omega
          simp only [c3, c5, if_false]
          have c6 : o ≠ o + 1 + r.length + (i - (o + 1) - r.length) := by omega
          rw [if_neg c6]
          congr 1
          omega

theorem Sim.ownBlock (s : Sim base W0 β nxt h w) {b : Nat} {sz : Nat} {cs : List AV} {p : Pos} (hb : h b = some (.cells true sz cs)) (hp : β b = some p) :
    ∃ arr e frz, w.heap[p.blk]? = some (.cells arr e frz) ∧ p.sz = sz ∧ cs.length ≤ arr.size ∧ RVs β cs (arr.toList.take cs.length) ∧ base ≤ p.blk ∧ p.off = 0 ∧ arr.size = p.tot ∧ ∀ i, i < arr.size → ¬(frz.1 ≤ i ∧ i < frz.2) := by
  obtain ⟨q, h1, arr, e, frz, h2, h3, h4, h5, h6, _⟩ := s.live b _ hb
  rw [hp] at h1
  injection h1 with h1
  subst h1
  obtain ⟨h7, h8, h9, h10⟩ := h6 rfl
  rw [h8] at h5
  exact ⟨arr, e, frz, h2, h3, by omega, by simpa using h5, h7, h8, h9, h10⟩

/-- the cells of an own block are put anew from a place on -/
theorem Sim.storeCells (s : Sim base W0 β nxt h w) {b o : Nat} {sz : Nat} {cs vs : List AV} {cvs : List Value} {p : Pos} (hb : h b = some (.cells true sz cs)) (hp : β b = some p) (ho : o + vs.length ≤ cs.length) (r : RVs β vs cvs) :
    Sim base W0 β nxt (upd h b (.cells true sz (cs.take o ++ vs ++ cs.drop (o + vs.length)))) (w.setCells p.blk o cvs) := by
  obtain ⟨arr, e, frz, h1, h2, h3, h4, h5, h6, h7, h8⟩ := s.ownBlock hb hp
  have hl := r.1
  obtain ⟨arr', g1, g2, g3, g4, g5⟩ := setCells_facts p.blk e frz base W0 h5 cvs o w arr h1 (by omega) s.below
  have hsz : arr'.size = arr.size := by
    have := congrArg List.length g2
    simp at this
    omega
  refine s.setOwn hb rfl hp g5 (by omega) (fun k _ hk => g4 k hk) rfl ⟨arr', e, frz, g1, h2, by simp; omega, ?_, fun _ => ⟨h5, h6, by omega, fun i hi => h8 i (by omega)⟩, fun hh => by cases hh⟩
  have e1 : (cs.take o ++ vs ++ cs.drop (o + vs.length)).length = cs.length := by simp; omega
  rw [e1, h6, List.drop_zero, g2]
  have key := ((h4.take o).append r).append (h4.drop (o + vs.length))
  have e2 : (arr.toList.take o ++ cvs ++ arr.toList.drop (o + cvs.length)).take cs.length = (arr.toList.take cs.length).take o ++ cvs ++ (arr.toList.take cs.length).drop (o + vs.length) := by
    rw [List.take_append, List.take_append, List.take_take, List.take_take]
    simp only [List.length_append, List.length_take, Array.length_toList]
    rw [show min cs.length o = o by omega, show min o cs.length = o by omega, show min o arr.size = o by omega, List.drop_take, ← hl]
    congr 1
    congr 1
    apply List.take_of_length_le
    omega
  rwa [e2]

theorem run_isAggD {t : TypeId} {d : TI} (tok : TOk P T) (ht : tget T t = some d) (w : World) : (isAgg t).run P w = .ok (isAggD d.desc) w := run_isAgg (tok.under ht) w

theorem cells_one {β : Bt} {x : AV} {v : Value} (r : RV β x v) (h : x.one = true) : v.cells = #[v] ∧ x.cells = [x] := by
  cases r <;> first | (simp [AV.one] at h; done) | exact ⟨rfl, rfl⟩

/-- cells that are there and may be written -/
theorem Sim.mayWrite (s : Sim base W0 β nxt h w) {b : Nat} {sz : Nat} {cs : List AV} {p : Pos} (hb : h b = some (.cells true sz cs)) (hp : β b = some p) :
    ∀ i, i < p.tot → (w.cell? ⟨p.blk, i, none⟩).isSome = true ∧ w.frozen? ⟨p.blk, i, none⟩ = false := by
  obtain ⟨arr, e, frz, h1, h2, h3, h4, h5, h6, h7, h8⟩ := s.ownBlock hb hp
  intro i hi
  have hi' : i < arr.size := by omega
  have := h8 i hi'
  obtain ⟨lo, hi2⟩ := frz
  refine ⟨by simp [World.cell?, h1, hi'], ?_⟩
  simp [World.frozen?, h1]
  simp at this
  omega

theorem ownTot (s : Sim base W0 β nxt h w) {b : Nat} {sz : Nat} {cs : List AV} {p : Pos} (hb : h b = some (.cells true sz cs)) (hp : β b = some p) : cs.length ≤ p.tot := by
  obtain ⟨arr, e, frz, h1, h2, h3, h4, h5, h6, h7, h8⟩ := s.ownBlock hb hp
  omega

theorem vcStore_sound {t : TypeId} {p x : Operand} {K : AV → H → Prop} {o : Oper} (ho : o.op = .store t p x) (tok : TOk E.P E.T) (s : Sim base W0 β nxt h w) (hf : FrRel β fr a) (hk : vcW E (.store t p x) fr h K) :
    Lands E.P base W0 β nxt o a w K := by
  obtain ⟨dst, op, ty, pos, after, guard⟩ := o
  dsimp only at ho
  subst ho
  simp only [vcW] at hk
  split at hk
  · contradiction
  · rename_i d ht
    have hp := hf.ev p
    have hx := hf.ev x
    have hu := run_isAggD (P := E.P) tok ht
    split at hk
    · rename_i b of ep
      rw [ep] at hp
      split at hk
      · rename_i hd
        split at hk
        · rename_i hsz
          rw [force_eq] at hk
          obtain ⟨sz, cs, h1, h2, h3, h4⟩ := hk
          generalize hvp : a.eval p = vp at hp
          generalize hvx : a.eval x = vx at hx
          cases hp with
          | @ptr _ _ q hb =>
          obtain ⟨hc1, hc2⟩ := cells_one hx h3
          have hw := s.mayWrite h1 hb of (by have := ownTot s h1 hb; omega)
          have hq0 : q.off = 0 := by obtain ⟨_, _, _, _, _, _, _, _, h6, _⟩ := s.ownBlock h1 hb; exact h6
          have hst := s.storeCells (o := of) (vs := [ev fr x]) (cvs := [vx]) h1 hb (by simp; omega) (RVs.cons hx (RVs.nil β))
          have hset : cs.take of ++ [ev fr x] ++ cs.drop (of + [ev fr x].length) = cs.set of (ev fr x) := by
            rw [List.set_eq_take_append_cons_drop, if_pos h2]
            simp
          rw [hset] at hst
          have z1 : ∀ j, j < [vx].length → (w.cell? ⟨q.blk, of + 0 + j, none⟩).isSome = true := by
            intro j hj
            have h0 : j = 0 := by simpa using hj
            subst h0
            simpa using hw.1
          have z2 : ∀ j, j < [vx].length → w.frozen? ⟨q.blk, of + 0 + j, none⟩ = false := by
            intro j hj
            have h0 : j = 0 := by simpa using hj
            subst h0
            simpa using hw.2
          have z3 : ∀ v ∈ [vx], v.oneCell' = true := by
            intro v hv
            have h0 : v = vx := by simpa using hv
            subst h0
            exact hx.oneCell h3
          have hrc := run_storeCells_cells (P := E.P) q.blk of [vx] 0 w z1 z2 z3
          refine .skip (w' := w.setCells q.blk of [vx]) ?_ (Ext.refl β) (Nat.le_refl _) hst h4
          simp only [execOp, hvp, hvx, Instr.storeAt, Instr.sureAddr, storeVar, hc1, hq0, Nat.zero_add]
          simp only [Nat.add_zero] at hrc
          simp [run_size tok ht, hsz, hrc]
        · contradiction
      · rename_i hd
        split at hk
        · rename_i vs evx
          split at hk
          · rename_i hsz
            have hsz := Nat.eq_of_beq_eq_true hsz
            obtain ⟨sz, cs, h1, h2, h3, h4⟩ := hk
            generalize hvp : a.eval p = vp at hp
            generalize hvx : a.eval x = vx at hx
            rw [evx] at hx
            cases hp with
            | @ptr _ _ q hb =>
            cases hx with
            | @agg _ cvs hl hr =>
            have hrv : RVs β vs cvs.toList := ⟨by simpa using hl, fun i c v hc hv => hr i c v hc (by simpa using hv)⟩
            have htot := ownTot s h1 hb
            have hq0 : q.off = 0 := by obtain ⟨_, _, _, _, _, _, _, _, h6, _⟩ := s.ownBlock h1 hb; exact h6
            have hst := s.storeCells (o := of) h1 hb h2 hrv
            have hone : ∀ v ∈ cvs.toList, v.oneCell' = true := by
              intro v hv
              obtain ⟨i, hi⟩ := List.getElem?_of_mem hv
              have hlt : i < vs.length := by have := (List.getElem?_eq_some_iff.1 hi).1; simp at this; omega
              exact (hr i vs[i] v (by simp [hlt]) (by simpa using hi)).oneCell (h3 _ (List.getElem_mem hlt))
            have hrc := run_storeCells_cells (P := E.P) q.blk of cvs.toList 0 w
              (fun j hj => by simpa using (s.mayWrite h1 hb (of + j) (by simp at hj; omega)).1)
              (fun j hj => by simpa using (s.mayWrite h1 hb (of + j) (by simp at hj; omega)).2) hone
            refine .skip (w' := w.setCells q.blk of cvs.toList) ?_ (Ext.refl β) (Nat.le_refl _) hst h4
            have hcs : cvs.size = d.size := by omega
            simp only [execOp, hvp, hvx, Instr.storeAt, Instr.sureAddr, storeVar, Value.cells, hq0, Nat.zero_add]
            simp only [Nat.add_zero] at hrc
            simp [run_size tok ht, hcs, hrc]
          · contradiction
        · contradiction
    · contradiction

end
end Go.Proofs.Ytcepogfmajlcjaa.Ab
