/-
  The library's twenty-second text proves how rows among a law's arguments are opened.
  It holds no condition of its own.
-/
import Derived.Test.YtbicfognbbeigaaGreatGX
import Derived.ChangeSlices
import Derived.SliceStrings
import Derived.ChangeShapes
import Derived.Deep.Matrix
set_option linter.unusedVariables false
set_option linter.unusedSimpArgs false
namespace Go.Proofs.YtbicfognbbeigaaGreat.Ab
open Go.RowKit

/-- cells that a slice shows -/
def CellsAt (h : H) (v : AV) (cs : List AV) : Prop := (v = .nilslice ∧ cs = []) ∨ ∃ b c, v = .slice b 0 cs.length c ∧ Has h b cs
theorem CellsAt.keep {h h' : H} {v : AV} {cs : List AV} (m : CellsAt h v cs) (k : Keeps h h') : CellsAt h' v cs := by
  rcases m with m | ⟨b, c, e, m⟩
  · exact .inl m
  · exact .inr ⟨b, c, e, m.keep k⟩

def bdI (l : List Int) : Prop := ∀ x ∈ l, -9223372036854775808 ≤ x ∧ x ≤ 9223372036854775807
def IntsArg (h : H) (v : AV) : Prop := ∃ l, bdI l ∧ l.length ≤ 9223372036854775807 ∧ CellsAt h v (ints l)
theorem IntsArg.keep {h h' : H} {v : AV} (m : IntsArg h v) (k : Keeps h h') : IntsArg h' v := by
  obtain ⟨l, h1, h2, h3⟩ := m
  exact ⟨l, h1, h2, h3.keep k⟩
def StrsArg (h : H) (v : AV) : Prop := ∃ l, (∀ s ∈ l, s.length ≤ 9223372036854775807) ∧ l.length ≤ 9223372036854775807 ∧ CellsAt h v (strs l)
theorem StrsArg.keep {h h' : H} {v : AV} (m : StrsArg h v) (k : Keeps h h') : StrsArg h' v := by
  obtain ⟨l, h1, h2, h3⟩ := m
  exact ⟨l, h1, h2, h3.keep k⟩

/-- values that a slice shows in a world -/
def CellsIn (w : World) (v : Value) (vs : List Value) : Prop :=
  (v = .slice none 0 0 ∧ vs = []) ∨ ∃ blk off cap arr e frz, v = .slice (some ⟨blk, off, none⟩) vs.length cap ∧ vs.length ≤ cap ∧ w.heap[blk]? = some (.cells arr e frz) ∧
    (cap = 0 ∨ off + vs.length ≤ arr.size) ∧ ∀ i x, vs[i]? = some x → arr[off + i]? = some x

theorem CellsIn.enter {w : World} {v : Value} {vs : List Value} {cs : List AV} {β : Bt} {nxt : Nat} {h : H} (c : CellsIn w v vs) (s : Sim w.heap.size w β nxt h w) (r : RVs β cs vs) :
    ∃ β' nxt' h' a, Ext β β' ∧ Sim w.heap.size w β' nxt' h' w ∧ RV β' a v ∧ Keeps h h' ∧ CellsAt h' a cs := by
  rcases c with ⟨rfl, rfl⟩ | ⟨blk, off, cap, arr, e, frz, rfl, hl, hh, hsz, hcell⟩
  · have : cs = [] := List.eq_nil_of_length_eq_zero r.1
    exact ⟨β, nxt, h, .nilslice, Ext.refl β, s, .nilslice, Keeps.refl h, .inl ⟨rfl, this⟩⟩
  · have hb : blk < w.heap.size := (Array.getElem?_eq_some_iff.1 hh).1
    have hlen := r.1
    have hnn : β nxt = none := s.fresh nxt (Nat.le_refl _)
    let p : Pos := ⟨blk, if cap = 0 then 0 else off, 1, off + cap⟩
    have he : Ext β (bput β nxt p) := Ext.put hnn
    have hr : RVs (bput β nxt p) cs ((arr.toList.drop p.off).take cs.length) := by
      have e1 : (arr.toList.drop p.off).take cs.length = vs := by
        rw [hlen]
        by_cases hc : cap = 0
        · have : vs = [] := List.eq_nil_of_length_eq_zero (by omega)
          rw [this]
          simp
        · have h3 : off + vs.length ≤ arr.size := by rcases hsz with h | h; exact absurd h hc; exact h
          have e2 : p.off = off := by simp [p, hc]
          rw [e2]
          apply List.ext_getElem?
          intro i
          by_cases hi : i < vs.length
          · rw [List.getElem?_take, if_pos hi, List.getElem?_drop]
            have := hcell i _ (List.getElem?_eq_getElem hi)
            rw [List.getElem?_eq_getElem hi, ← this]
            simp
          · rw [List.getElem?_eq_none (by simp; omega), List.getElem?_eq_none (by omega)]
      rw [e1]
      exact r.mono he
    have hbr : BlkRel w.heap.size (bput β nxt p) p w (.cells false 1 cs) := by
      refine ⟨arr, e, frz, hh, rfl, ?_, hr, fun h => (by cases h), fun _ => hb⟩
      rw [hlen]
      by_cases hc : cap = 0
      · simp [p, hc]; omega
      · rcases hsz with h | h
        · exact absurd h hc
        · simpa [p, hc] using h
    refine ⟨bput β nxt p, nxt + 1, upd h nxt (.cells false 1 cs), .slice nxt 0 cs.length cs.length, he, s.addRo p 1 cs hbr, ?_, (Keeps.refl h).upd s.freshNone _, .inr ⟨nxt, cs.length, rfl, false, 1, upd_same _ _ _⟩⟩
    rw [← hlen]
    exact .slice (bput_at nxt p) (by omega) (Nat.le_refl _) (by
      by_cases hc : cap = 0
      · exact .inl hc
      · exact .inr (by simp [p, hc])) (by intro _; simp [p])

theorem rvs_ints (β : Bt) : ∀ l : List Int, RVs β (ints l) (l.map (Value.int .i64))
  | [] => RVs.nil β
  | x :: l => RVs.cons (.int _ _) (rvs_ints β l)
theorem rvs_strs (β : Bt) : ∀ l : List ByteArray, RVs β (strs (l.map fun s => s.data.toList)) (l.map Value.string)
  | [] => RVs.nil β
  | x :: l => RVs.cons (rv_string β x) (rvs_strs β l)

def IntsIn (w : World) (v : Value) : Prop := ∃ l : List Int, bdI l ∧ l.length ≤ 9223372036854775807 ∧ CellsIn w v (l.map (Value.int .i64))
theorem IntsIn.enter {w : World} {v : Value} {β : Bt} {nxt : Nat} {h : H} (c : IntsIn w v) (s : Sim w.heap.size w β nxt h w) :
    ∃ β' nxt' h' a, Ext β β' ∧ Sim w.heap.size w β' nxt' h' w ∧ RV β' a v ∧ Keeps h h' ∧ IntsArg h' a := by
  obtain ⟨l, h1, h2, h3⟩ := c
  obtain ⟨β', nxt', h', a, g1, g2, g3, g4, g5⟩ := h3.enter s (rvs_ints β l)
  exact ⟨β', nxt', h', a, g1, g2, g3, g4, l, h1, h2, g5⟩
def StrsIn (w : World) (v : Value) : Prop := ∃ l : List ByteArray, (∀ s ∈ l, s.size ≤ maxLen) ∧ l.length ≤ 9223372036854775807 ∧ CellsIn w v (l.map Value.string)
theorem StrsIn.enter {w : World} {v : Value} {β : Bt} {nxt : Nat} {h : H} (c : StrsIn w v) (s : Sim w.heap.size w β nxt h w) :
    ∃ β' nxt' h' a, Ext β β' ∧ Sim w.heap.size w β' nxt' h' w ∧ RV β' a v ∧ Keeps h h' ∧ StrsArg h' a := by
  obtain ⟨l, h1, h2, h3⟩ := c
  obtain ⟨β', nxt', h', a, g1, g2, g3, g4, g5⟩ := h3.enter s (rvs_strs β l)
  refine ⟨β', nxt', h', a, g1, g2, g3, g4, _, ?_, by simpa using h2, g5⟩
  intro s hs
  obtain ⟨x, hx, rfl⟩ := List.mem_map.1 hs
  exact len_le (h1 x hx)

section
variable {H : Type} {enc : TypeId × Value → H} {P : Program} {w : World} {base : Nat} {held : Bool}

theorem cell_arr {a : Addr} {v : Value} (h : w.cell? a = some v) : ∃ arr e frz, w.heap[a.block]? = some (.cells arr e frz) ∧ arr[a.off]? = some v ∧ a.spot = none := by
  unfold World.cell? at h
  split at h
  · rename_i c e frz hc
    split at h
    · cases h
    · rename_i hs
      refine ⟨c, e, frz, hc, h, ?_⟩
      cases hx : a.spot with
      | none => rfl
      | some x => rw [hx] at hs; simp at hs
  · cases h

/-- cells read one by one are a row -/
theorem cellsIn_of {a : Addr} {len cap : Nat} {vs : List Value} (hl : len ≤ cap) (hz : vs.length = cap) (hsp : a.spot = none) (hblk : ∃ arr e frz, w.heap[a.block]? = some (.cells arr e frz))
    (hc : ∀ i x, vs[i]? = some x → w.cell? (a.add i) = some x) : CellsIn w (.slice (some a) len cap) (vs.take len) := by
  obtain ⟨b, o, sp⟩ := a
  dsimp only at hsp
  subst hsp
  obtain ⟨arr, e, frz, hh⟩ := hblk
  dsimp only at hh
  have e1 : (vs.take len).length = len := by simp; omega
  have key : ∀ i x, vs[i]? = some x → arr[o + i]? = some x := fun i x hx => by
    have := hc i x hx
    rw [Addr.add_lit] at this
    simpa [World.cell?, hh] using this
  refine .inr ⟨b, o, cap, arr, e, frz, by rw [e1], by omega, hh, ?_, fun i x hx => ?_⟩
  · by_cases h0 : cap = 0
    · exact .inl h0
    · right
      have hi : cap - 1 < vs.length := by omega
      have := key (cap - 1) _ (List.getElem?_eq_getElem hi)
      have := (Array.getElem?_eq_some_iff.1 this).1
      omega
  · rw [List.getElem?_take] at hx
    split at hx
    · exact key i x hx
    · cases hx

theorem has_of {t e : TypeId} {a : Addr} {len cap : Nat} (ht : P.underlying t = some (.slice e)) (hv : Value.okWide P w .any base t (.slice (some a) len cap)) :
    a.spot = none ∧ ∃ arr e frz, w.heap[a.block]? = some (.cells arr e frz) := by
  simp only [Value.okWide, ht, Cell.okWide, Cell.ok] at hv
  obtain ⟨_, _, _, h1, row, cells, h2, _⟩ := hv
  refine ⟨h1, ?_⟩
  unfold World.shape? at h2
  split at h2
  · rename_i c e frz hc
    exact ⟨c, e, frz, hc⟩
  · cases h2

theorem ints_in {t e : TypeId} {v : Value} {d : DataW H} {ps : List MemPlace} (ht : P.underlying t = some (.slice e)) (he : P.underlying e = some (.int .i64)) (hc : P.cellsOf e = 1)
    (hv : Value.okWide P w .any base t v) (hd : DataW.Trod enc P w 0 (fun _ => true) held t v d ps) : IntsIn w v := by
  obtain ⟨a0, len, cap, rfl⟩ := Go.WideShapes.okWide_slice ht hv
  obtain ⟨fuel, hf⟩ := hd
  rcases Go.ChangeShapes.open_ints ht he hc hf with ⟨hcs, hx⟩ | ⟨a, len', cap', zs, hcs, _, hl, hm, hz, hx, hcell, hwf⟩
  · simp [Value.cells] at hcs
    obtain ⟨rfl, rfl, rfl⟩ := hcs
    exact ⟨[], fun x hx => (nomatch hx), by simp, .inl ⟨rfl, rfl⟩⟩
  · simp [Value.cells] at hcs
    obtain ⟨rfl, rfl, rfl⟩ := hcs
    simp only [if_true] at hz
    obtain ⟨hsp, hblk⟩ := has_of ht hv
    unfold maxLen at hm
    refine ⟨zs.take len, fun x hx => bounds_i64 (hwf x (List.mem_of_mem_take hx)), by simp; omega, ?_⟩
    rw [List.map_take]
    refine cellsIn_of hl (by simpa using hz) hsp hblk fun i x hx => ?_
    rw [List.getElem?_map] at hx
    cases hzi : zs[i]? with
    | none => rw [hzi] at hx; cases hx
    | some z =>
      rw [hzi] at hx
      injection hx with hx
      subst hx
      have hi := (List.getElem?_eq_some_iff.1 hzi).1
      have := hcell i hi
      rw [this]
      simp [List.getD, hzi]

theorem strs_in {t e : TypeId} {v : Value} {d : DataW H} {ps : List MemPlace} (ht : P.underlying t = some (.slice e)) (he : P.underlying e = some .string) (hc : P.cellsOf e = 1)
    (hv : Value.okWide P w .any base t v) (hd : DataW.Trod enc P w 0 (fun _ => true) held t v d ps) : StrsIn w v := by
  obtain ⟨a0, len, cap, rfl⟩ := Go.WideShapes.okWide_slice ht hv
  obtain ⟨fuel, hf⟩ := hd
  rcases Go.ChangeShapes.open_strings ht he hc hf with ⟨hcs, hx⟩ | ⟨a, len', cap', ss, hcs, _, hl, hm, hz, hx, hcell, hwf⟩
  · simp [Value.cells] at hcs
    obtain ⟨rfl, rfl, rfl⟩ := hcs
    exact ⟨[], fun x hx => (nomatch hx), by simp, .inl ⟨rfl, rfl⟩⟩
  · simp [Value.cells] at hcs
    obtain ⟨rfl, rfl, rfl⟩ := hcs
    simp only [if_true] at hz
    obtain ⟨hsp, hblk⟩ := has_of ht hv
    unfold maxLen at hm
    refine ⟨ss.take len, fun x hx => hwf x (List.mem_of_mem_take hx), by simp; omega, ?_⟩
    rw [List.map_take]
    refine cellsIn_of hl (by simpa using hz) hsp hblk fun i x hx => ?_
    rw [List.getElem?_map] at hx
    cases hzi : ss[i]? with
    | none => rw [hzi] at hx; cases hx
    | some z =>
      rw [hzi] at hx
      injection hx with hx
      subst hx
      have hi := (List.getElem?_eq_some_iff.1 hzi).1
      have := hcell i hi
      rw [this]
      simp [List.getD, hzi]

end

end Go.Proofs.YtbicfognbbeigaaGreat.Ab

/-
  The library's twenty-third text proves laws of rows of rows, of cells written all at once, and of maps among one's own blocks.
  It holds no condition of its own.
-/
set_option linter.unusedVariables false
set_option linter.unusedSimpArgs false
namespace Go.Proofs.YtbicfognbbeigaaGreat.Ab
open Go.RowKit

/-! rows of rows: each row a block of its own -/
abbrev RL := List (Nat × List Int)
def slcs (R : RL) : List AV := R.map fun r => .slice r.1 0 r.2.length r.2.length
def blks (R : RL) : List (Nat × Blk) := R.map fun r => (r.1, row (ints r.2))
def rws (R : RL) : List (List Int) := R.map (·.2)
def rb (R : RL) (i : Nat) : Nat := (R.getD i (0, [])).1
def rl (R : RL) (i : Nat) : List Int := (R.getD i (0, [])).2
@[simp] theorem slcs_length (R : RL) : (slcs R).length = R.length := List.length_map _
@[simp] theorem rws_length (R : RL) : (rws R).length = R.length := List.length_map _
@[simp] theorem blks_length (R : RL) : (blks R).length = R.length := List.length_map _
theorem slcs_append (A B : RL) : slcs (A ++ B) = slcs A ++ slcs B := List.map_append
theorem blks_append (A B : RL) : blks (A ++ B) = blks A ++ blks B := List.map_append
theorem rws_append (A B : RL) : rws (A ++ B) = rws A ++ rws B := List.map_append
theorem rl_rws (R : RL) (i : Nat) : rl R i = (rws R).getD i [] := by
  unfold rl rws
  simp only [List.getD, List.getElem?_map]
  cases R[i]? <;> rfl
theorem slcs_get (R : RL) (i : Nat) (h : i < R.length) : (slcs R)[i]? = some (.slice (rb R i) 0 (rl R i).length (rl R i).length) := by
  unfold slcs rb rl
  rw [List.getElem?_map, List.getElem?_eq_getElem h]
  simp [List.getD, h]
theorem rl_mem (R : RL) (i : Nat) (h : i < R.length) : (rb R i, rl R i) ∈ R := by
  unfold rb rl
  simp only [List.getD, List.getElem?_eq_getElem h, Option.getD_some]
  exact List.getElem_mem h
theorem slcs_one (R : RL) : ∀ v ∈ slcs R, v.one = true := by
  intro v hv
  obtain ⟨r, _, rfl⟩ := List.mem_map.1 hv
  rfl

/-- the outer row lies at a block, and all its rows are there -/
structure Grid (h : H) (b : Nat) (R : RL) : Prop where
  out : Has h b (slcs R)
  inn : ∀ r ∈ R, Has h r.1 (ints r.2)
theorem Grid.keep {h h' : H} {b : Nat} {R : RL} (m : Grid h b R) (k : Keeps h h') : Grid h' b R := ⟨m.out.keep k, fun r hr => (m.inn r hr).keep k⟩
theorem Grid.at {h : H} {b : Nat} {R : RL} (m : Grid h b R) {i : Nat} (hi : i < R.length) : Has h (rb R i) (ints (rl R i)) := m.inn _ (rl_mem R i hi)
theorem Grid.load {h : H} {b : Nat} {R : RL} (m : Grid h b R) {n sz : Nat} (hs : sz = 1) {K : AV → Prop} (ho : n < R.length) (hk : K (.slice (rb R n) 0 (rl R n).length (rl R n).length)) : LoadG h b (0 + mulSz n sz) K := by
  rw [off1 hs]
  exact m.out.load (slcs_get R n ho) hk
theorem St.rowsIn {h0 h : H} {L : List (Nat × Blk)} {b : Nat} {R : RL} (s : St h0 h L) (m : (b, row (slcs R)) ∈ L) (mm : ∀ p ∈ blks R, p ∈ L) : Grid h b R :=
  ⟨s.has m, fun r hr => s.has (mm (r.1, row (ints r.2)) (List.mem_map.2 ⟨r, hr, rfl⟩))⟩
theorem St.rows {h0 h : H} {L : List (Nat × Blk)} {b : Nat} {R : RL} (s : St h0 h ((b, row (slcs R)) :: (blks R ++ L))) : Grid h b R :=
  s.rowsIn (.head _) fun p hp => .tail _ (List.mem_append_left _ hp)
theorem Grid.arg {h0 h : H} {L : List (Nat × Blk)} {b : Nat} {R : RL} (m : Grid h0 b R) (s : St h0 h L) : Grid h b R := m.keep s.keeps

section
variable {h0 h h' : H} {L : List (Nat × Blk)} {b b' : Nat}

/-- all cells of a block are written -/
theorem StoresG.st {K : H → Prop} {sz : Nat} {cs vs : List AV} {L' : List (Nat × Blk)} (s : St h0 h L) (sp : Spot L (b, .cells true sz cs) (b, .cells true sz vs) L') (hl : vs.length = cs.length) (h1 : ∀ v ∈ vs, v.one = true)
    (hk : ∀ h', St h0 h' L' → K h') : StoresG h b 0 vs K := by
  refine .mk sz cs (s.is _ sp.mem) (by omega) h1 ?_
  have e : cs.take 0 ++ vs ++ cs.drop (0 + vs.length) = vs := by
    rw [List.drop_eq_nil_of_le (by omega)]
    simp
  rw [e]
  exact hk _ (s.setAt sp)

/-- a new row is put behind the rows -/
theorem AppG.stR {K : AV → H → Prop} {bytes N C c n' : Nat} {R : RL} {l : List Int} (s : St h0 h ((c, row (ints l)) :: (b, row (slcs R)) :: (blks R ++ L))) (hN : N = R.length) (hl : n' = l.length) (hb : R.length + 1 ≤ 1000000000) (hy : bytes ≤ 1000)
    (hk : ∀ b' h', St h0 h' ((b', row (slcs (R ++ [(c, l)]))) :: (blks (R ++ [(c, l)]) ++ L)) → K (.slice b' 0 (N + 1) (N + 1)) h') : AppG h (.slice b 0 N C) bytes [.slice c 0 n' n'] 1 K := by
  subst hl
  refine AppG.st (L' := fun b' => (c, row (ints l)) :: (b', row (slcs R ++ [.slice c 0 l.length l.length])) :: (blks R ++ L)) s (fun b' => .there .here) (by simpa using hN) (by
    have e : (R.length + 1) * bytes ≤ 1000000000 * 1000 := Nat.mul_le_mul hb hy
    rw [slcs_length]
    omega) (by simp [AV.one]) fun b' h' s' => hk b' h' ?_
  rw [slcs_append, blks_append]
  refine s'.perm ?_
  rw [List.append_assoc]
  refine (List.Perm.swap _ _ _).trans (.cons _ ?_)
  exact (List.perm_middle (l₁ := blks R) (l₂ := L) (a := (c, row (ints l)))).symm

/-- a number of one of the rows is written -/
theorem split_rl : ∀ {R : RL} {i : Nat}, i < R.length → ∃ A B, R = A ++ (rb R i, rl R i) :: B ∧ A.length = i
  | [], i, h => by simp at h
  | r :: R, 0, h => ⟨[], R, rfl, rfl⟩
  | r :: R, i + 1, h => by
    obtain ⟨A, B, e, el⟩ := split_rl (R := R) (i := i) (by simpa using h)
    refine ⟨r :: A, B, ?_, by simp [el]⟩
    have e1 : rb (r :: R) (i + 1) = rb R i := rfl
    have e2 : rl (r :: R) (i + 1) = rl R i := rfl
    rw [e1, e2]
    conv => lhs; rw [e]
    rfl
theorem StoreG.stR {K : H → Prop} {n sz i : Nat} {R : RL} {y : Int} (s : St h0 h ((b, row (slcs R)) :: (blks R ++ L))) (hi : i < R.length) (hs : sz = 1) (ho : n < (rl R i).length)
    (hk : ∀ h', St h0 h' ((b, row (slcs (R.set i (rb R i, (rl R i).set n y)))) :: (blks (R.set i (rb R i, (rl R i).set n y)) ++ L)) → K h') : StoreG h (rb R i) (0 + mulSz n sz) (.int .i64 y) K := by
  obtain ⟨A, B, e, el⟩ := split_rl hi
  have sp : Spot ((b, row (slcs R)) :: (blks R ++ L)) (rb R i, row (ints (rl R i))) (rb R i, row (ints ((rl R i).set n y))) ((b, row (slcs (R.set i (rb R i, (rl R i).set n y)))) :: (blks (R.set i (rb R i, (rl R i).set n y)) ++ L)) := by
    have e3 : R.set i (rb R i, (rl R i).set n y) = A ++ (rb R i, (rl R i).set n y) :: B := by
      generalize rb R i = c at e ⊢
      generalize (rl R i).set n y = q
      generalize rl R i = l at e
      subst e el
      exact set_mid A B _ _
    have e4 : slcs (R.set i (rb R i, (rl R i).set n y)) = slcs R := by
      rw [e3]
      conv => rhs; rw [e]
      simp [slcs]
    rw [e4, e3]
    refine .there ?_
    have e5 : blks R ++ L = blks A ++ (rb R i, row (ints (rl R i))) :: (blks B ++ L) := by
      conv => lhs; rw [e]
      simp [blks]
    have e6 : blks (A ++ (rb R i, (rl R i).set n y) :: B) ++ L = blks A ++ (rb R i, row (ints ((rl R i).set n y))) :: (blks B ++ L) := by simp [blks]
    rw [e5, e6]
    generalize blks A = X
    induction X with
    | nil => exact .here
    | cons x X ih => exact .there ih
  exact .stZ s sp hs ho hk
where
  set_mid {α : Type} (A B : List α) (p q : α) : (A ++ p :: B).set A.length q = A ++ q :: B := by
    rw [List.set_append_right _ _ (Nat.le_refl _), Nat.sub_self, List.set_cons_zero]

/-! places in the code's own form, with plain numbers for them -/
def ent (f : List (List Int)) (r i : Nat) : Int := (f.getD r []).getD i 0
theorem Has.loadAt {cs : List AV} {v : AV} {n sz : Nat} {K : AV → Prop} (m : Has h b cs) (hs : sz = 1) (hv : cs[n]? = some v) (hk : K v) : LoadG h b (0 + mulSz n sz) K := by
  rw [off1 hs]
  exact m.load hv hk
theorem NewG.stN {K : Nat → H → Prop} {n m : Nat} {z : AV} (s : St h0 h L) (hz : z = .nilslice) (hm : n = m) (hk : ∀ b h', St h0 h' ((b, row (List.replicate m AV.nilslice)) :: L) → K b h') : NewG h (.cells true 1 (List.replicate n z)) K := by
  subst hz hm
  exact .st s hk
theorem StoreG.stV {K : H → Prop} {n sz : Nat} {cs : List AV} {v : AV} {L' : List (Nat × Blk)} (s : St h0 h L) (sp : Spot L (b, row cs) (b, row (cs.set n v)) L') (hs : sz = 1) (ho : n < cs.length) (h1 : v.one = true)
    (hk : ∀ h', St h0 h' L' → K h') : StoreG h b (0 + mulSz n sz) v K := by
  rw [off1 hs]
  exact .st s sp ho h1 hk
theorem AppG.stV {K : AV → H → Prop} {bytes N C : Nat} {cs : List AV} {v : AV} {L' : Nat → List (Nat × Blk)} (s : St h0 h L) (sp : ∀ b', Spot L (b, row cs) (b', row (cs ++ [v])) (L' b')) (hN : N = cs.length) (hb : cs.length + 1 ≤ 1000000000) (hy : bytes ≤ 1000) (h1 : v.one = true)
    (hk : ∀ b' h', St h0 h' (L' b') → K (.slice b' 0 (N + 1) (N + 1)) h') : AppG h (.slice b 0 N C) bytes [v] 1 K :=
  .st s sp hN (by
    have e : (cs.length + 1) * bytes ≤ 1000000000 * 1000 := Nat.mul_le_mul hb hy
    omega) (by intro u hu; cases List.mem_singleton.1 hu; exact h1) hk
theorem AppG.stT {K : AV → H → Prop} {bytes N C : Nat} {cs : List AV} {v : AV} {L' : Nat → List (Nat × Blk)} (s : St h0 h L) (sp : ∀ b', Spot L (b, row cs) (b', row (cs.take N ++ [v])) (L' b')) (hN : N ≤ cs.length) (hb : cs.length + 1 ≤ 1000000000) (hy : bytes ≤ 1000) (h1 : v.one = true)
    (hk : ∀ b' h', St h0 h' (L' b') → K (.slice b' 0 (N + 1) (N + 1)) h') : AppG h (.slice b 0 N C) bytes [v] 1 K := by
  have e : (N + 1) * bytes ≤ 1000000000 * 1000 := Nat.mul_le_mul (by omega) hy
  exact .grow b N C cs rfl (s.is _ (sp 0).mem) hN (by omega) (by intro u hu; cases List.mem_singleton.1 hu; exact h1) fun b' hb' => hk b' _ (s.moveAt (sp b') hb')
theorem Grid.rowAt {R : RL} {f : List (List Int)} (m : Grid h b R) (hf : rws R = f) (r : Nat) {n sz q : Nat} (hs : sz = 1) {K : AV → Prop} (e : n = r) (ho : r < R.length) (hl : (f.getD r []).length = q) (hk : K (.slice (rb R r) 0 q q)) : LoadG h b (0 + mulSz n sz) K := by
  subst e hf
  rw [← rl_rws] at hl
  subst hl
  exact m.load hs ho hk
theorem Grid.numAt {R : RL} {f : List (List Int)} (m : Grid h b R) (hf : rws R = f) (r i : Nat) {n sz : Nat} (hs : sz = 1) {K : AV → Prop} (e : n = i) (hr : r < R.length) (ho : i < (f.getD r []).length) (hk : K (.int .i64 (ent f r i))) : LoadG h (rb R r) (0 + mulSz n sz) K := by
  subst e hf
  rw [← rl_rws] at ho
  refine (m.at hr).loadZ hs ho ?_
  rw [rl_rws]
  exact hk
theorem St.callR {R : RL} (s : St h0 h L) (t : St h h' ((b, row (slcs R)) :: (blks R ++ []))) : St h0 h' ((b, row (slcs R)) :: (blks R ++ L)) := by
  have := s.call t
  simpa using this

/-! maps among one's own blocks -/
theorem LookG.hitSt {P : Program} {k : TypeId} {a z v : AV} {es : List (AV × AV)} {K : AV → Bool → Prop} (s : St h0 h L) (m : (b, .map es) ∈ L) (law : Go.WideMaps.KeyLaw P k) (ok : ∀ p ∈ es, KOk P k p.1) (ka : KOk P k a) (hm : (a, v) ∈ es) (hu : ∀ u, (a, u) ∈ es → u = v) (hk : K v true) : LookG P k h b a z K :=
  .hit es v law (s.is _ m) ok ka hm hu hk
theorem LookG.missSt {P : Program} {k : TypeId} {a z : AV} {es : List (AV × AV)} {K : AV → Bool → Prop} (s : St h0 h L) (m : (b, .map es) ∈ L) (law : Go.WideMaps.KeyLaw P k) (ok : ∀ p ∈ es, KOk P k p.1) (ka : KOk P k a) (hno : ∀ u, (a, u) ∉ es) (hk : K z false) : LookG P k h b a z K :=
  .miss es law (s.is _ m) ok ka hno hk
theorem MapSetG.putSt {P : Program} {k : TypeId} {a v : AV} {es : List (AV × AV)} {K : H → Prop} {L' : List (Nat × Blk)} (s : St h0 h L) (sp : Spot L (b, .map es) (b, .map (es ++ [(a, v)])) L') (law : Go.WideMaps.KeyLaw P k) (ok : ∀ p ∈ es, KOk P k p.1) (ka : KOk P k a) (hno : ∀ u, (a, u) ∉ es) (hk : ∀ h', St h0 h' L' → K h') : MapSetG P k h b a v K :=
  .put es law (s.is _ sp.mem) ok ka hno (hk _ (s.setAt sp))
theorem MapSetG.setSt {P : Program} {k : TypeId} {a u v : AV} {n : Nat} {es : List (AV × AV)} {K : H → Prop} {L' : List (Nat × Blk)} (s : St h0 h L) (sp : Spot L (b, .map es) (b, .map (es.set n (a, v))) L') (law : Go.WideMaps.KeyLaw P k) (ok : ∀ p ∈ es, KOk P k p.1) (ka : KOk P k a) (hn : es[n]? = some (a, u)) (hu : ∀ j w, es[j]? = some (a, w) → j = n) (hk : ∀ h', St h0 h' L' → K h') : MapSetG P k h b a v K :=
  .set es n u law (s.is _ sp.mem) ok ka hn hu (hk _ (s.setAt sp))
theorem rl_set {R : RL} {i : Nat} (h : i < R.length) (p : Nat × List Int) : rl (R.set i p) i = p.2 := by
  unfold rl
  simp [List.getD, h]
theorem rl_set_ne {R : RL} {i j : Nat} (h : j ≠ i) (p : Nat × List Int) : rl (R.set i p) j = rl R j := by
  unfold rl
  simp only [List.getD, List.getElem?_set_ne (Ne.symm h)]
theorem ent_rws {R : RL} {f : List (List Int)} (hf : rws R = f) (r i : Nat) : ent f r i = (rl R r).getD i 0 := by
  subst hf
  rw [rl_rws]
  rfl
theorem rws_at {R : RL} {f : List (List Int)} (hf : rws R = f) (r : Nat) : f.getD r [] = rl R r := by
  subst hf
  rw [rl_rws]
theorem rb_last (R : RL) (c : Nat) (l : List Int) : rb (R ++ [(c, l)]) R.length = c := by simp [rb]
theorem rl_last (R : RL) (c : Nat) (l : List Int) : rl (R ++ [(c, l)]) R.length = l := by simp [rl]
theorem rl_before (R S : RL) {i : Nat} (h : i < R.length) : rl (R ++ S) i = rl R i := by
  unfold rl
  rw [List.getD, List.getD, List.getElem?_append_left h]
theorem set_last (R : RL) (p q : Nat × List Int) : (R ++ [p]).set R.length q = R ++ [q] := by
  rw [List.set_append_right _ _ (Nat.le_refl _), Nat.sub_self]
  rfl
end

/-! rows among a law's arguments -/
def ShowsI (h : H) (v : AV) (l : List Int) : Prop := CellsAt h v (ints l) ∨ (v = .empt ∧ l = [])
theorem ShowsI.keep {h h' : H} {v : AV} {l : List Int} (m : ShowsI h v l) (k : Keeps h h') : ShowsI h' v l := m.imp (fun m => m.keep k) id
/-- the rows that a slice of slices shows -/
def RowsAt (h : H) (v : AV) (ls : List (List Int)) : Prop := ∃ vs, CellsAt h v vs ∧ vs.length = ls.length ∧ ∀ (i : Nat) (w : AV) (l : List Int), vs[i]? = some w → ls[i]? = some l → ShowsI h w l
theorem RowsAt.keep {h h' : H} {v : AV} {ls : List (List Int)} (m : RowsAt h v ls) (k : Keeps h h') : RowsAt h' v ls := by
  obtain ⟨vs, h1, h2, h3⟩ := m
  exact ⟨vs, h1.keep k, h2, fun i w l a b => (h3 i w l a b).keep k⟩
def RowsArg (h : H) (v : AV) : Prop := ∃ ls, (∀ l ∈ ls, bdI l ∧ l.length ≤ 9223372036854775807) ∧ ls.length ≤ 9223372036854775807 ∧ RowsAt h v ls
theorem RowsArg.keep {h h' : H} {v : AV} (m : RowsArg h v) (k : Keeps h h') : RowsArg h' v := by
  obtain ⟨ls, h1, h2, h3⟩ := m
  exact ⟨ls, h1, h2, h3.keep k⟩

/-- a law's rows, in their two forms -/
theorem rowsArg_two {h : H} {v : AV} (m : RowsArg h v) : ∃ ls, (∀ l ∈ ls, bdI l ∧ l.length ≤ 9223372036854775807) ∧ ls.length ≤ 9223372036854775807 ∧ RowsAt h v ls ∧ ((v = .nilslice ∧ ls = []) ∨ ∃ b c, v = .slice b 0 ls.length c) := by
  obtain ⟨ls, h1, h2, vs, h3, h4, h5⟩ := m
  refine ⟨ls, h1, h2, ⟨vs, h3, h4, h5⟩, ?_⟩
  rcases h3 with ⟨rfl, e⟩ | ⟨b, c, rfl, hb⟩
  · subst e
    exact .inl ⟨rfl, List.eq_nil_of_length_eq_zero h4.symm⟩
  · exact .inr ⟨b, c, by rw [h4]⟩

/-- one inner row, as it lies -/
def RowIn (w : World) (v : Value) (l : List Int) : Prop := CellsIn w v (l.map (Value.int .i64)) ∨ (l = [] ∧ ∃ a cap, v = .slice (some a) 0 cap)
def RowsIn (w : World) (v : Value) : Prop := ∃ (vs : List Value) (ls : List (List Int)), CellsIn w v vs ∧ vs.length = ls.length ∧ (∀ l ∈ ls, bdI l ∧ l.length ≤ 9223372036854775807) ∧ ls.length ≤ 9223372036854775807 ∧ ∀ (i : Nat) (x : Value) (l : List Int), vs[i]? = some x → ls[i]? = some l → RowIn w x l

theorem rows_enter {w : World} : ∀ (vs : List Value) (ls : List (List Int)) {β : Bt} {nxt : Nat} {h : H}, Sim w.heap.size w β nxt h w → vs.length = ls.length → (∀ (i : Nat) (x : Value) (l : List Int), vs[i]? = some x → ls[i]? = some l → RowIn w x l) →
    ∃ β' nxt' h' as, Ext β β' ∧ Sim w.heap.size w β' nxt' h' w ∧ RVs β' as vs ∧ Keeps h h' ∧ ∀ (i : Nat) (a : AV) (l : List Int), as[i]? = some a → ls[i]? = some l → ShowsI h' a l
  | [], ls, β, nxt, h, s, hl, hr => ⟨β, nxt, h, [], Ext.refl β, s, RVs.nil β, Keeps.refl h, fun i a l ha => by simp at ha⟩
  | x :: vs, [], β, nxt, h, s, hl, hr => by simp at hl
  | x :: vs, l :: ls, β, nxt, h, s, hl, hr => by
    have h0 := hr 0 x l rfl rfl
    have key : ∃ β' nxt' h' a, Ext β β' ∧ Sim w.heap.size w β' nxt' h' w ∧ RV β' a x ∧ Keeps h h' ∧ ShowsI h' a l := by
      rcases h0 with h0 | ⟨rfl, a, cap, rfl⟩
      · obtain ⟨β', nxt', h', a, g1, g2, g3, g4, g5⟩ := h0.enter s (rvs_ints β l)
        exact ⟨β', nxt', h', a, g1, g2, g3, g4, .inl g5⟩
      · exact ⟨β, nxt, h, .empt, Ext.refl β, s, .empt a cap, Keeps.refl h, .inr ⟨rfl, rfl⟩⟩
    obtain ⟨β1, n1, h1, a, e1, s1, r1, k1, m1⟩ := key
    obtain ⟨β2, n2, h2, as, e2, s2, r2, k2, m2⟩ := rows_enter vs ls s1 (by simpa using hl) (fun i y l' h3 h4 => hr (i + 1) y l' (by simpa using h3) (by simpa using h4))
    refine ⟨β2, n2, h2, a :: as, e1.trans e2, s2, RVs.cons (r1.mono e2) r2, k1.trans k2, fun i b l' h3 h4 => ?_⟩
    cases i with
    | zero =>
      simp only [List.getElem?_cons_zero, Option.some.injEq] at h3 h4
      subst h3 h4
      exact m1.keep k2
    | succ i => exact m2 i b l' (by simpa using h3) (by simpa using h4)

theorem RowsIn.enter {w : World} {v : Value} {β : Bt} {nxt : Nat} {h : H} (c : RowsIn w v) (s : Sim w.heap.size w β nxt h w) :
    ∃ β' nxt' h' a, Ext β β' ∧ Sim w.heap.size w β' nxt' h' w ∧ RV β' a v ∧ Keeps h h' ∧ RowsArg h' a := by
  obtain ⟨vs, ls, h1, h2, h3, h4, h5⟩ := c
  obtain ⟨β1, n1, g1, as, e1, s1, r1, k1, m1⟩ := rows_enter vs ls s h2 h5
  obtain ⟨β2, n2, g2, a, e2, s2, r2, k2, m2⟩ := h1.enter s1 r1
  exact ⟨β2, n2, g2, a, e1.trans e2, s2, r2, k1.trans k2, ls, h3, h4, as, m2, by rw [r1.1, h2], fun i b l ha hl => (m1 i b l ha hl).keep k2⟩

section
variable {H : Type} {enc : TypeId × Value → H} {P : Program} {w : World} {base : Nat} {held : Bool}

theorem rows_in {t e q : TypeId} {v : Value} {d : DataW H} {ps : List MemPlace} (ht : P.underlying t = some (.slice e)) (he : P.underlying e = some (.slice q)) (hq : P.underlying q = some (.int .i64)) (ce : P.cellsOf e = 1) (cq : P.cellsOf q = 1)
    (hv : Value.okWide P w .any base t v) (hd : DataW.Trod enc P w 0 (fun _ => true) held t v d ps) : RowsIn w v := by
  obtain ⟨a0, len, cap, rfl⟩ := Go.WideShapes.okWide_slice ht hv
  obtain ⟨fuel, hf⟩ := hd
  rcases Go.Deep.open_int_rows ht he hq ce cq hf with ⟨hcs, hx⟩ | ⟨a, len', cap', A, Ls, C, Z, hcs, _, hl, hm, hx, hr⟩
  · simp [Value.cells] at hcs
    obtain ⟨rfl, rfl, rfl⟩ := hcs
    exact ⟨[], [], .inl ⟨rfl, rfl⟩, rfl, fun l hl => (nomatch hl), by simp, fun i x l h => by simp at h⟩
  · simp [Value.cells] at hcs
    obtain ⟨rfl, rfl, rfl⟩ := hcs
    obtain ⟨hsp, hblk⟩ := has_of ht hv
    unfold maxLen at hm
    let V : List Value := (List.range cap).map fun r => .slice (A r) (Ls r) (C r)
    let Y : List (List Int) := (List.range len).map fun r => (Z r).take (Ls r)
    have hV : ∀ i x, V[i]? = some x → i < cap ∧ x = .slice (A i) (Ls i) (C i) := fun i x h => by
      simp only [V, List.getElem?_map, Option.map_eq_some_iff] at h
      obtain ⟨j, h1, h2⟩ := h
      have h3 := (List.getElem?_eq_some_iff.1 h1).1
      simp only [List.length_range] at h3
      rw [List.getElem?_range h3] at h1
      injection h1 with h1
      subst h1
      exact ⟨h3, h2.symm⟩
    have hY : ∀ i l, Y[i]? = some l → i < len ∧ l = (Z i).take (Ls i) := fun i l h => by
      simp only [Y, List.getElem?_map, Option.map_eq_some_iff] at h
      obtain ⟨j, h1, h2⟩ := h
      have h3 := (List.getElem?_eq_some_iff.1 h1).1
      simp only [List.length_range] at h3
      rw [List.getElem?_range h3] at h1
      injection h1 with h1
      subst h1
      exact ⟨h3, h2.symm⟩
    refine ⟨V.take len, Y, cellsIn_of hl (by simp [V]) hsp hblk fun i x h => ?_, by simp [V, Y]; omega, fun l hl2 => ?_, by simp [Y]; omega, fun i x l h1 h2 => ?_⟩
    · obtain ⟨h1, rfl⟩ := hV i x h
      exact (hr i h1).1
    · obtain ⟨i, hi⟩ := List.getElem?_of_mem hl2
      obtain ⟨h1, rfl⟩ := hY i l hi
      obtain ⟨g1, g2, g3, g4, g5, g6, g7⟩ := hr i (by omega)
      unfold maxLen at g3
      exact ⟨fun x hx => bounds_i64 (g5 x (List.mem_of_mem_take hx)), by simp; omega⟩
    · rw [List.getElem?_take] at h1
      split at h1
      · obtain ⟨c1, rfl⟩ := hV i x h1
        obtain ⟨c2, rfl⟩ := hY i l h2
        obtain ⟨g1, g2, g3, g4, g5, g6, g7⟩ := hr i c1
        cases hA : A i with
        | none =>
          have hc0 := g6 hA
          have hl0 : Ls i = 0 := by omega
          left
          left
          rw [hc0, hl0]
          exact ⟨rfl, by simp⟩
        | some a' =>
          by_cases hc0 : C i = 0
          · right
            have hl0 : Ls i = 0 := by omega
            rw [hl0]
            exact ⟨by simp, a', C i, rfl⟩
          · left
            obtain ⟨g8, g9⟩ := g7 a' hA
            have first := g9 0 (by omega)
            have e0 : a'.add 0 = a' := by simp [Addr.add]
            rw [e0] at first
            obtain ⟨arr, ee, frz, q1, q2, q3⟩ := cell_arr first
            rw [List.map_take]
            refine cellsIn_of g2 (by simpa using g4) q3 ⟨arr, ee, frz, q1⟩ fun j y hy => ?_
            rw [List.getElem?_map] at hy
            cases hz : (Z i)[j]? with
            | none => rw [hz] at hy; cases hy
            | some z =>
              rw [hz] at hy
              injection hy with hy
              subst hy
              have hj := (List.getElem?_eq_some_iff.1 hz).1
              rw [g9 j (by omega)]
              simp [List.getD, hz]
      · cases h1
end

end Go.Proofs.YtbicfognbbeigaaGreat.Ab

/-
  The library's twenty-fourth text proves laws of rows of bytes among a law's arguments.
  It holds no condition of its own.
-/
set_option linter.unusedVariables false
set_option linter.unusedSimpArgs false
namespace Go.Proofs.YtbicfognbbeigaaGreat.Ab
open Go.RowKit
open Go.ChangeShapes Go.WideShapes

def BytesArg (h : H) (v : AV) : Prop := ∃ l : List UInt8, l.length ≤ 9223372036854775807 ∧ CellsAt h v (bytesAV l)
theorem BytesArg.keep {h h' : H} {v : AV} (m : BytesArg h v) (k : Keeps h h') : BytesArg h' v := by
  obtain ⟨l, h1, h2⟩ := m
  exact ⟨l, h1, h2.keep k⟩
theorem rvs_bys (β : Bt) : ∀ l : List UInt8, RVs β (bytesAV l) (l.map fun c : UInt8 => Value.int .u8 c.toNat)
  | [] => RVs.nil β
  | x :: l => RVs.cons (.int _ _) (rvs_bys β l)
def BytesIn (w : World) (v : Value) : Prop := ∃ l : List UInt8, l.length ≤ 9223372036854775807 ∧ CellsIn w v (l.map fun c : UInt8 => Value.int .u8 c.toNat)
theorem BytesIn.enter {w : World} {v : Value} {β : Bt} {nxt : Nat} {h : H} (c : BytesIn w v) (s : Sim w.heap.size w β nxt h w) :
    ∃ β' nxt' h' a, Ext β β' ∧ Sim w.heap.size w β' nxt' h' w ∧ RV β' a v ∧ Keeps h h' ∧ BytesArg h' a := by
  obtain ⟨l, h1, h2⟩ := c
  obtain ⟨β', nxt', h', a, g1, g2, g3, g4, g5⟩ := h2.enter s (rvs_bys β l)
  exact ⟨β', nxt', h', a, g1, g2, g3, g4, l, h1, g5⟩
theorem u8_of {n : Int} (h : 0 ≤ n ∧ n ≤ 255) : ((UInt8.ofNat n.toNat).toNat : Int) = n := by
  rw [UInt8.toNat_ofNat']
  omega
theorem bys_of : ∀ zs : List Int, (∀ n ∈ zs, 0 ≤ n ∧ n ≤ 255) → zs.map (Value.int .u8) = (zs.map fun n => UInt8.ofNat n.toNat).map fun c : UInt8 => Value.int .u8 c.toNat
  | [], _ => rfl
  | x :: l, h => by
    rw [List.map_cons, List.map_cons, List.map_cons, bys_of l fun n hn => h n (.tail _ hn), u8_of (h x (.head _))]
section
variable {H : Type} {enc : TypeId × Value → H} {P : Program} {w : World} {base : Nat} {held : Bool}
theorem bytes_in {t e : TypeId} {v : Value} {d : DataW H} {ps : List MemPlace} (ht : P.underlying t = some (.slice e)) (he : P.underlying e = some (.int .u8)) (hc : P.cellsOf e = 1)
    (hv : Value.okWide P w .any base t v) (hd : DataW.Trod enc P w 0 (fun _ => true) held t v d ps) : BytesIn w v := by
  obtain ⟨a0, len, cap, rfl⟩ := Go.WideShapes.okWide_slice ht hv
  obtain ⟨fuel, hf⟩ := hd
  rcases Go.ChangeShapes.open_ints ht he hc hf with ⟨hcs, hx⟩ | ⟨a, len', cap', zs, hcs, _, hl, hm, hz, hx, hcell, hwf⟩
  · simp [Value.cells] at hcs
    obtain ⟨rfl, rfl, rfl⟩ := hcs
    exact ⟨[], by simp, .inl ⟨rfl, rfl⟩⟩
  · simp [Value.cells] at hcs
    obtain ⟨rfl, rfl, rfl⟩ := hcs
    simp only [if_true] at hz
    obtain ⟨hsp, hblk⟩ := has_of ht hv
    unfold maxLen at hm
    have bd : ∀ n ∈ zs, 0 ≤ n ∧ n ≤ 255 := fun n hn => by
      have := hwf n hn
      simp [Lit.wf, IntKind.min, IntKind.max, IntKind.signed, IntKind.bits] at this
      omega
    refine ⟨(zs.take len).map fun n => UInt8.ofNat n.toNat, by simp; omega, ?_⟩
    rw [← bys_of _ fun n hn => bd n (List.mem_of_mem_take hn), List.map_take]
    refine cellsIn_of hl (by simpa using hz) hsp hblk fun i x hx => ?_
    rw [List.getElem?_map] at hx
    cases hzi : zs[i]? with
    | none => rw [hzi] at hx; cases hx
    | some z =>
      rw [hzi] at hx
      injection hx with hx
      subst hx
      have hi := (List.getElem?_eq_some_iff.1 hzi).1
      have := hcell i hi
      rw [this]
      simp [List.getD, hzi]
end

theorem bytesAV_length (s : List UInt8) : (bytesAV s).length = s.length := List.length_map _
theorem bytesAV_get (s : List UInt8) (i : Nat) (h : i < s.length) : (bytesAV s)[i]? = some (.int .u8 (s.getD i 0).toNat) := by
  unfold bytesAV
  rw [List.getElem?_map, List.getElem?_eq_getElem h]
  simp [List.getD, h]
theorem bytesAV_snoc (s : List UInt8) {n : Int} (h : 0 ≤ n ∧ n ≤ 255) : bytesAV s ++ [.int .u8 n] = bytesAV (s ++ [UInt8.ofNat n.toNat]) := by
  unfold bytesAV
  rw [List.map_append, List.map_cons, List.map_nil, u8_of h]
theorem bytesArg_two {h : H} {v : AV} (m : BytesArg h v) : ∃ l : List UInt8, l.length ≤ 9223372036854775807 ∧ CellsAt h v (bytesAV l) ∧ ((v = .nilslice ∧ l = []) ∨ ∃ b c, v = .slice b 0 l.length c) := by
  obtain ⟨l, h1, h2⟩ := m
  refine ⟨l, h1, h2, ?_⟩
  rcases h2 with ⟨rfl, e⟩ | ⟨b, c, rfl, _⟩
  · exact .inl ⟨rfl, List.eq_nil_of_length_eq_zero (by rw [← bytesAV_length, e]; rfl)⟩
  · exact .inr ⟨b, c, by rw [bytesAV_length]⟩
/-- what ends in a mask -/
theorem mask_bd (a m : Int) (hm : 0 ≤ m ∧ m < 9223372036854775808) : 0 ≤ IntKind.i64.wrap ((BitVec.ofInt IntKind.i64.bits a &&& BitVec.ofInt IntKind.i64.bits m).toNat : Nat) ∧ IntKind.i64.wrap ((BitVec.ofInt IntKind.i64.bits a &&& BitVec.ofInt IntKind.i64.bits m).toNat : Nat) ≤ m := by
  have e : (BitVec.ofInt IntKind.i64.bits a &&& BitVec.ofInt IntKind.i64.bits m).toNat ≤ m.toNat := by
    rw [BitVec.toNat_and]
    refine Nat.le_trans Nat.and_le_right ?_
    rw [BitVec.toNat_ofInt]
    have : IntKind.i64.bits = 64 := rfl
    rw [this]
    omega
  generalize (BitVec.ofInt IntKind.i64.bits a &&& BitVec.ofInt IntKind.i64.bits m).toNat = x at *
  rw [IntWalk.i64_in _ (by omega)]
  omega

/-- a part of a row is read -/
theorem Has.partOff {h : H} {b n sz q : Nat} {l : List Int} {K : List AV → Prop} (m : Has h b (ints l)) (hs : sz = 1) (o r : Nat) (e : n = o) (e2 : q = r) (hn : o + r ≤ l.length) (hk : K (ints ((l.drop o).take r))) : LoadsG h b (0 + mulSz n sz) q K := by
  rw [off1 hs]
  subst e e2
  obtain ⟨w, s, e⟩ := m
  refine .mk w s _ e (by simpa using hn) ?_
  have : ((ints l).drop n).take q = ints ((l.drop n).take q) := by unfold ints; rw [← List.map_drop, ← List.map_take]
  rw [this]
  exact hk

end Go.Proofs.YtbicfognbbeigaaGreat.Ab
