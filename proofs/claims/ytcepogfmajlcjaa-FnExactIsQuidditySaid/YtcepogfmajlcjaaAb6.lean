/-
  The library's sixth text proves the abstract view of all operations without memory to be right.
  It holds no condition of its own.
-/
import Derived.Test.YtcepogfmajlcjaaAb5
set_option linter.unusedVariables false
set_option linter.unusedSimpArgs false
namespace Go.Proofs.Ytcepogfmajlcjaa.Ab
open Go.RowKit

section
variable {P : Program} {T : TT} {β : Bt} {fr : Fr} {a : Act}

/-- the address of a slice's cell -/
theorem addr_cut {p : Pos} {o cap co l sz : Nat} (ho : cap = 0 ∨ co = p.off + o) (hl : l ≤ cap) (m : Nat) (hm : m ≤ cap) (hlm : l ≤ m) :
    ∃ co', (if m = l then (some ⟨p.blk, co, none⟩ : Option Addr) else (some ⟨p.blk, co, none⟩ : Option Addr).map (·.add (l * sz))) = some ⟨p.blk, co', none⟩ ∧ (m - l = 0 ∨ co' = p.off + (o + l * sz)) ∧
      (co' = co ∨ (co' = co + l * sz ∧ l < m)) := by
  by_cases h : m = l
  · exact ⟨co, by simp [h], .inl (by omega), .inl rfl⟩
  · refine ⟨co + l * sz, by simp [h, Addr.add_lit], .inr ?_, .inr ⟨rfl, by omega⟩⟩
    rcases ho with h0 | h0
    · omega
    · omega

theorem mul_le_of {a b c : Nat} (h : a ≤ b) : a * c ≤ b * c := Nat.mul_le_mul_right c h

/-- a slice of a slice reads as it should -/
theorem rv_cut {b o : Nat} {p : Pos} {cap co : Nat} (h : β b = some p) (ho : cap = 0 ∨ co = p.off + o) (ht : o = 0 → co + cap * p.sz ≤ p.tot)
    (l m sz n' c' : Nat) (hlm : l ≤ m) (hm : m ≤ cap) (hc : c' ≤ m - l) (hn : n' ≤ c') :
    ∃ v, Value.slice (if m = l then (some ⟨p.blk, co, none⟩ : Option Addr) else (some ⟨p.blk, co, none⟩ : Option Addr).map (·.add (l * sz))) n' (m - l) = v ∧ RV β (.slice b (o + mulSz l sz) n' c') v := by
  obtain ⟨co', e, h1, h2⟩ := addr_cut (p := p) (sz := sz) (l := l) ho (by omega) m hm hlm
  refine ⟨_, rfl, ?_⟩
  rw [e, mulSz_eq]
  refine .slice h hc hn (by omega) fun h0 => ?_
  have h3 : o = 0 := by omega
  have h4 : l * sz = 0 := by omega
  have h5 := ht h3
  have h6 : (m - l) * p.sz ≤ cap * p.sz := mul_le_of (by omega)
  omega

theorem vcSlice_sound {t e : TypeId} {i j : TI} {b o n c : Nat} {vx : Value} {lo hi mx : Option AV} {vlo vhi vmx : Option Value} {K : AV → Prop} (tok : TOk P T) (ht : tget T t = some i) (hd : i.desc = .slice e) (he : tget T e = some j)
    (hx : RV β (.slice b o n c) vx)
    (hlo : ∀ x v, lo = some x → vlo = some v → RV β x v) (hhi : ∀ x v, hi = some x → vhi = some v → RV β x v) (hmx : ∀ x v, mx = some x → vmx = some v → RV β x v)
    (e1 : lo.isSome = vlo.isSome) (e2 : hi.isSome = vhi.isSome) (e3 : mx.isSome = vmx.isSome)
    (h : vcSlice j.size b o n c lo hi mx K) : Yld P β (Instr.sliceAt t vx vlo vhi vmx) K := by
  have hu := tok.under ht
  rw [hd] at hu
  obtain ⟨q, hq, hs, _, _⟩ := tok.infos he
  cases hx with
  | @slice _ _ _ _ p cap co hb hc hn ho htt =>
  have core : ∀ (l h' m : Nat) (n' c' : Nat), (∀ w, (Instr.sliceBounds true n cap vlo vhi vmx).run P w = .ok (l, h', m) w) → l ≤ m → m ≤ cap → c' ≤ m - l → n' = h' - l → n' ≤ c' →
      K (.slice b (o + mulSz l j.size) n' c') → Yld P β (Instr.sliceAt t (.slice (some ⟨p.blk, co, none⟩) n cap) vlo vhi vmx) K := by
    intro l h' m n' c' hsb hlm hm hcc hnn hnc hk
    obtain ⟨v, e, r⟩ := rv_cut (β := β) hb ho htt l m j.size n' c' hlm hm hcc hnc
    refine ⟨_, v, r, fun w => ?_, hk⟩
    subst hnn
    simp [Instr.sliceAt, Instr.slice, run_underlying hu, hsb, sizeOf, typeInfo, hq, hs] at e ⊢
    exact e
  have hm0 : mulSz 0 j.size = 0 := by rw [mulSz_eq]; omega
  unfold vcSlice at h
  split at h
  · cases vlo with
    | some _ => cases e1
    | none =>
    cases vhi with
    | some _ => cases e2
    | none =>
    cases vmx with
    | some _ => cases e3
    | none =>
    exact core 0 n cap n c (fun w => sb_none_none _ _ _ w) (by omega) (by omega) (by omega) (by omega) hn (by rw [hm0]; exact h)
  · rename_i k l
    cases vlo with
    | none => cases e1
    | some vl =>
    cases hlo _ _ rfl rfl
    cases vhi with
    | some _ => cases e2
    | none =>
    cases vmx with
    | some _ => cases e3
    | none =>
    have hc0 := h.c
    exact core l.toNat n cap (n - l.toNat) (c - l.toNat) (fun w => sb_lo h.c w) (by omega) (by omega) (by omega) rfl (by omega) h.k
  · rename_i k hh
    cases vlo with
    | some _ => cases e1
    | none =>
    cases vhi with
    | none => cases e2
    | some vh =>
    cases hhi _ _ rfl rfl
    cases vmx with
    | some _ => cases e3
    | none =>
    have hc0 := h.c
    exact core 0 hh.toNat cap hh.toNat c (fun w => sb_hi ⟨hc0.1, by omega⟩ w) (by omega) (by omega) (by omega) (by omega) (by omega) (by rw [hm0]; exact h.k)
  · rename_i k l k' hh
    cases vlo with
    | none => cases e1
    | some vl =>
    cases hlo _ _ rfl rfl
    cases vhi with
    | none => cases e2
    | some vh =>
    cases hhi _ _ rfl rfl
    cases vmx with
    | some _ => cases e3
    | none =>
    obtain ⟨⟨h1, h2, h3⟩, hk⟩ := h
    exact core l.toNat hh.toNat cap (hh.toNat - l.toNat) (c - l.toNat) (fun w => sb_lohi ⟨h1, h2⟩ (by omega) w) (by omega) (by omega) (by omega) rfl (by omega) hk
  · rename_i k l k' hh k'' m
    cases vlo with
    | none => cases e1
    | some vl =>
    cases hlo _ _ rfl rfl
    cases vhi with
    | none => cases e2
    | some vh =>
    cases hhi _ _ rfl rfl
    cases vmx with
    | none => cases e3
    | some vm =>
    cases hmx _ _ rfl rfl
    obtain ⟨⟨h1, h2, h3, h4⟩, hk⟩ := h
    exact core l.toNat hh.toNat m.toNat (hh.toNat - l.toNat) (m.toNat - l.toNat) (fun w => sb_lohim ⟨h1, h2⟩ h3 (by omega) w) (by omega) (by omega) (by omega) rfl (by omega) hk
  · rename_i k' hh k'' m
    cases vlo with
    | some _ => cases e1
    | none =>
    cases vhi with
    | none => cases e2
    | some vh =>
    cases hhi _ _ rfl rfl
    cases vmx with
    | none => cases e3
    | some vm =>
    cases hmx _ _ rfl rfl
    obtain ⟨⟨h1, h2, h3⟩, hk⟩ := h
    exact core 0 hh.toNat m.toNat hh.toNat m.toNat (fun w => sb_him h1 h2 (by omega) w) (by omega) (by omega) (by omega) (by omega) (by omega) (by rw [hm0]; exact hk)
  · contradiction

theorem vcNilSlice_sound {t e : TypeId} {i : TI} {lo hi mx : Option AV} {vlo vhi vmx : Option Value} {K : AV → Prop} (tok : TOk P T) (ht : tget T t = some i) (hd : i.desc = .slice e) {j : TI} (he : tget T e = some j)
    (hlo : ∀ x v, lo = some x → vlo = some v → RV β x v) (hhi : ∀ x v, hi = some x → vhi = some v → RV β x v)
    (e1 : lo.isSome = vlo.isSome) (e2 : hi.isSome = vhi.isSome) (e3 : mx.isSome = vmx.isSome)
    (h : vcNilSlice lo hi mx K) : Yld P β (Instr.sliceAt t (.slice none 0 0) vlo vhi vmx) K := by
  have hu := tok.under ht
  rw [hd] at hu
  obtain ⟨q, hq, hs, _, _⟩ := tok.infos he
  have core : (∀ w, (Instr.sliceBounds true 0 0 vlo vhi vmx).run P w = .ok (0, 0, 0) w) → K .nilslice → Yld P β (Instr.sliceAt t (.slice none 0 0) vlo vhi vmx) K := by
    intro hsb hk
    refine ⟨_, _, .nilslice, fun w => ?_, hk⟩
    simp [Instr.sliceAt, Instr.slice, run_underlying hu, hsb, sizeOf, typeInfo, hq, hs]
  unfold vcNilSlice at h
  split at h
  · cases vlo with
    | some _ => cases e1
    | none =>
    cases vhi with
    | some _ => cases e2
    | none =>
    cases vmx with
    | some _ => cases e3
    | none => exact core (fun w => sb_none_none _ _ _ w) h
  · rename_i k l
    cases vlo with
    | none => cases e1
    | some vl =>
    cases hlo _ _ rfl rfl
    cases vhi with
    | some _ => cases e2
    | none =>
    cases vmx with
    | some _ => cases e3
    | none =>
    obtain ⟨h1, hk⟩ := h
    subst h1
    exact core (fun w => sb_lo (l := 0) ⟨by omega, by omega⟩ w) hk
  · rename_i k l
    cases vhi with
    | none => cases e2
    | some vl =>
    cases hhi _ _ rfl rfl
    cases vlo with
    | some _ => cases e1
    | none =>
    cases vmx with
    | some _ => cases e3
    | none =>
    obtain ⟨h1, hk⟩ := h
    subst h1
    exact core (fun w => sb_hi (h := 0) ⟨by omega, by omega⟩ w) hk
  · rename_i k l k' hh
    cases vlo with
    | none => cases e1
    | some vl =>
    cases hlo _ _ rfl rfl
    cases vhi with
    | none => cases e2
    | some vh =>
    cases hhi _ _ rfl rfl
    cases vmx with
    | some _ => cases e3
    | none =>
    obtain ⟨⟨h1, h2⟩, hk⟩ := h
    subst h1 h2
    exact core (fun w => sb_lohi (l := 0) (h := 0) ⟨by omega, by omega⟩ (by omega) w) hk
  · contradiction

/-! literals -/
theorem foldl_set : ∀ (vc : List Value) (k off : Nat) (cells : Array Value), off + k + vc.length ≤ cells.size →
    ((vc.zipIdx k).foldl (fun cs (x : Value × Nat) => cs.setIfInBounds (off + x.2) x.1) cells).toList = cells.toList.take (off + k) ++ vc ++ cells.toList.drop (off + k + vc.length)
  | [], k, off, cells, _ => by simp
  | v :: r, k, off, cells, h => by
    simp only [List.length_cons] at h
    rw [List.zipIdx_cons, List.foldl_cons, foldl_set r (k + 1) off _ (by simpa using (by omega : off + (k + 1) + r.length ≤ cells.size))]
    simp only [Array.toList_setIfInBounds]
    have hl : off + k < cells.toList.length := by simp; omega
    apply List.ext_getElem?
    intro i
    simp only [List.append_assoc, List.getElem?_append, List.length_take, List.length_set, List.getElem?_take, List.getElem?_set, List.getElem?_drop, List.length_cons, Array.length_toList]
    have e1 : min (off + (k + 1)) cells.size = off + k + 1 := by omega
    have e2 : min (off + k) cells.size = off + k := by omega
    rw [e1, e2]
    by_cases h1 : i < off + k
    · have a1 : i < off + k + 1 := by omega
      have a2 : off + k ≠ i := by omega
      simp [h1, a1, a2]
      omega
    · by_cases h2 : i = off + k
      · subst h2
        simp at hl
        simp [hl]
      · have a1 : ¬ i < off + k + 1 := by omega
        simp only [a1, h1, if_false]
        by_cases h3 : i - (off + k + 1) < r.length
        · have h4 : i - (off + k) = (i - (off + k + 1)) + 1 := by omega
          have h5 : i - (off + k) < r.length + 1 := by omega
          simp [h3, h5, h4]
        · have h5 : ¬ i - (off + k) < r.length + 1 := by omega
          simp only [h3, h5, if_false]
          have h6 : off + k ≠ off + (k + 1) + r.length + (i - (off + k + 1) - r.length) := by omega
          rw [if_neg h6]
          congr 1
          omega

theorem fill_sound {place : Nat → Option (Nat × Nat)} : ∀ (ps : List (Nat × AV)) (vps : List (Nat × Value)) (cells : List AV) (vcells : Array Value) (cs : List AV),
    RVs β cells vcells.toList → ps.length = vps.length → (∀ (i : Nat) (x : Nat × AV) (y : Nat × Value), ps[i]? = some x → vps[i]? = some y → x.1 = y.1 ∧ RV β x.2 y.2) → fillA place cells ps = some cs →
    ∃ vs, Instr.fill place vcells vps = some vs ∧ RVs β cs vs.toList
  | [], [], cells, vcells, cs, hc, _, _, h => by
    simp only [fillA] at h
    injection h with h
    subst h
    exact ⟨vcells, rfl, hc⟩
  | (i, v) :: r, (i', v') :: r', cells, vcells, cs, hc, hl, hr, h => by
    obtain ⟨e1, hv⟩ := hr 0 _ _ rfl rfl
    have e1 : i = i' := e1
    have hv : RV β v v' := hv
    subst e1
    unfold fillA at h
    split at h
    · cases h
    · rename_i off size hp
      split at h
      · cases h
      · rename_i hany
        split at h
        · rename_i hb1 hb2
          have s1 := Nat.eq_of_beq_eq_true hb1
          have s2 := Nat.le_of_ble_eq_true hb2
          have hvc := hv.cells (fun e => hany e)
          have s3 : v'.cells.size = size := by have := hvc.1; simp at this; omega
          have s4 : vcells.size = cells.length := by have := hc.1; simp at this; omega
          have key := foldl_set v'.cells.toList 0 off vcells (by simp; omega)
          simp only [Nat.add_zero, Array.length_toList] at key
          rw [s3] at key
          have hc' : RVs β (cells.take off ++ v.cells ++ cells.drop (off + size)) ((v'.cells.toList.zipIdx 0).foldl (fun cs (x : Value × Nat) => cs.setIfInBounds (off + x.2) x.1) vcells).toList := by
            rw [key]
            exact ((hc.take off).append hvc).append (hc.drop (off + size))
          obtain ⟨vs, h1, h2⟩ := fill_sound r r' _ _ cs hc' (by simpa using hl) (fun k x y hx hy => hr (k + 1) x y (by simpa using hx) (by simpa using hy)) h
          refine ⟨vs, ?_, h2⟩
          unfold Instr.fill
          simp only [hp, s3, ne_eq, not_true_eq_false, decide_false, Bool.false_or]
          rw [if_neg (by simp; omega)]
          rw [← h1]
          congr 1
          rw [← Array.foldl_toList, Array.toList_zipIdx]
        · cases h
  | [], _ :: _, _, _, _, _, hl, _, _ => by simp at hl
  | _ :: _, [], _, _, _, _, hl, _, _ => by simp at hl

theorem run_places (tok : TOk P T) : ∀ (l : List Field) (w : World), allSz T l = true →
    ∃ pl, (l.mapM fun f => (do pure (f.offset, ← sizeOf f.type) : Sem (Nat × Nat))).run P w = .ok pl w ∧ pl.length = l.length ∧ ∀ (i : Nat) (f : Field), l[i]? = some f → pl[i]? = (match tget T f.type with | none => none | some j => some (f.offset, j.size))
  | [], w, _ => ⟨[], by simp, rfl, fun i f h => by simp at h⟩
  | f :: r, w, h => by
    unfold allSz at h
    split at h
    · cases h
    · rename_i j hj
      obtain ⟨q, hq, hs, _, _⟩ := tok.infos hj
      obtain ⟨pl, h1, h2, h3⟩ := run_places tok r w h
      refine ⟨(f.offset, j.size) :: pl, ?_, by simp [h2], fun i g hg => ?_⟩
      · simp [List.mapM_cons, sizeOf, typeInfo, hq, hs] at h1 ⊢
        simp [h1]
      · cases i with
        | zero => simp at hg; subst hg; simp [hj]
        | succ i => simpa using h3 i g (by simpa using hg)

end
end Go.Proofs.Ytcepogfmajlcjaa.Ab
