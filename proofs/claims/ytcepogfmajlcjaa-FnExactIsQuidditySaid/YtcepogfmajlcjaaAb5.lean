/-
  The library's fifth text proves that each operation without memory does what its abstract view says.
  It holds no condition of its own.
-/
import Derived.Test.YtcepogfmajlcjaaAb4
set_option linter.unusedVariables false
set_option linter.unusedSimpArgs false
namespace Go.Proofs.Ytcepogfmajlcjaa.Ab
open Go.RowKit

section
variable {P : Program} {T : TT} {β : Bt} {fr : Fr} {a : Act}

theorem vcBin_sound {op : BinOp} {t : TypeId} {x y : AV} {vx vy : Value} {K : AV → Prop} (ox oy : Operand) (tok : TOk P T) (hx : RV β x vx) (hy : RV β y vy) (h : vcBin T op t x y K) :
    Yld P β (do eqGuard op t ox oy vx vy; binOp op t vx vy) K := by
  unfold vcBin at h
  split at h
  · cases hx; cases hy
    rename_i k n k' m
    split at h
    · obtain ⟨v, cv, r, g, k⟩ := vcShift_sound (P := P) (β := β) (k' := k') t h
      exact ⟨v, cv, r, fun w => by simp [eqGuard_int, g w], k⟩
    · rename_i hs
      split at h
      · rename_i hk
        have := sameK_eq hk
        subst this
        obtain ⟨⟨v, cv, r, g, k⟩, e⟩ := vcInt_sound (P := P) (β := β) hs h
        exact ⟨v, cv, r, fun w => by simp [eqGuard_int, e t, g w], k⟩
      · contradiction
  · cases hx; cases hy
    obtain ⟨v, cv, r, g, k⟩ := vcStr_sound (P := P) (β := β) t h
    refine ⟨v, cv, r, fun w => ?_, k⟩
    have hg : ∀ (x y : ByteArray) w, (eqGuard op t ox oy (.string x) (.string y)).run P w = .ok () w := fun x y w => by unfold eqGuard; split <;> simp
    simp [hg, g w]
  · split at h
    · contradiction
    · rename_i i ht
      split at h
      · obtain ⟨r, hr, hk⟩ := vcEq_sound (P := P) t (tok.under ht) hx hy h
        refine ⟨_, _, .bool r, fun w => ?_, hk⟩
        unfold vcEq at h
        split at h <;> first
          | contradiction
          | (cases hx; cases hy; simp [eqGuard, binOp, hr w])
      · obtain ⟨r, hr, hk⟩ := vcEq_sound (P := P) t (tok.under ht) hx hy h
        refine ⟨_, _, .bool (!r), fun w => ?_, hk⟩
        unfold vcEq at h
        split at h <;> first
          | contradiction
          | (cases hx; cases hy; simp [eqGuard, binOp, hr w])
      · contradiction

theorem vcUn_sound {op : UnOp} {x : AV} {vx : Value} {K : AV → Prop} (hx : RV β x vx) (h : vcUn op x K) : Yld P β (Op.unary op vx) K := by
  unfold vcUn at h
  split at h
  · cases hx; exact ⟨_, _, .int _ _, fun w => by simp [Op.unary, Op.intArith], h.out⟩
  · cases hx; exact ⟨_, _, .bool _, fun w => by simp [Op.unary], h⟩
  · contradiction

theorem run_isAgg {t : TypeId} {d : TypeDesc} (h : P.underlying t = some d) (w : World) : (isAgg t).run P w = .ok (isAggD d) w := by
  unfold isAgg
  simp [run_underlying h]
  cases d <;> simp [isAggD]

theorem vcPart_sound {t : TypeId} {cs : List AV} {vs : Array Value} {off : Nat} {K : AV → Prop} (tok : TOk P T) (hl : RVs β cs vs.toList) (h : vcPart T t cs off K) :
    Yld P β (part t vs off) K := by
  unfold vcPart at h
  split at h
  · contradiction
  · rename_i i ht
    have ha := run_isAgg (P := P) (tok.under ht)
    obtain ⟨j, hj, hs, _, _⟩ := tok.infos ht
    split at h
    · rename_i hd
      split at h
      · rename_i hb
        refine ⟨_, _, .agg (cs := (cs.drop off).take i.size) (vs := vs.extract off (off + i.size)) ?_ ?_, fun w => ?_, h⟩
        · have := Nat.le_of_ble_eq_true hb
          have h1 := hl.1
          simp at h1 ⊢
          omega
        · intro n c v hc hv
          have := (hl.drop off).take i.size
          refine this.2 n c v hc ?_
          rw [← Array.getElem?_toList, Array.toList_extract] at hv
          simpa [List.extract] using hv
        · simp [part, ha, hd, sizeOf, typeInfo, hj, hs]
      · contradiction
    · rename_i hd
      split at h
      · rename_i v hv
        obtain ⟨cv, h1, h2⟩ := hl.getD off hv
        refine ⟨_, _, h2, fun w => ?_, h⟩
        have h3 : vs[off]? = some cv := by simpa using h1
        simp [part, ha, hd, h3]
      · contradiction

theorem Gives.value {s : Sem Value} {cv : Value} (h : Gives P s cv) (w : World) : (do pure (Next.value (← s)) : Sem Next).run P w = .ok (.value cv) w := by
  simp [h w]

/-- what a slice's bounds give -/
theorem sb_none_none (b : Bool) (len cap : Nat) (w : World) : (Instr.sliceBounds b len cap none none none).run P w = .ok (0, len, cap) w := by
  simp [Instr.sliceBounds]

theorem run_sliceBound {k : IntKind} {i : Int} {y : Nat} (code : BoundsCode) (h : 0 ≤ i ∧ i ≤ (y : Int)) (w : World) : (Instr.sliceBound (.int k i) y code).run P w = .ok i.toNat w := by
  simp [Instr.sliceBound, asIntOf, h]

theorem sb_lo {b : Bool} {len cap : Nat} {k : IntKind} {l : Int} (h : 0 ≤ l ∧ l ≤ (len : Int)) (w : World) : (Instr.sliceBounds b len cap (some (.int k l)) none none).run P w = .ok (l.toNat, len, cap) w := by
  simp [Instr.sliceBounds, run_sliceBound _ h]

theorem sb_hi {b : Bool} {len cap : Nat} {k : IntKind} {h : Int} (hh : 0 ≤ h ∧ h ≤ (cap : Int)) (w : World) : (Instr.sliceBounds b len cap none (some (.int k h)) none).run P w = .ok (0, h.toNat, cap) w := by
  simp [Instr.sliceBounds, run_sliceBound _ hh]

theorem sb_lohi {b : Bool} {len cap : Nat} {k k' : IntKind} {l h : Int} (hl : 0 ≤ l ∧ l ≤ h) (hh : h ≤ (cap : Int)) (w : World) :
    (Instr.sliceBounds b len cap (some (.int k l)) (some (.int k' h)) none).run P w = .ok (l.toNat, h.toNat, cap) w := by
  have h1 : 0 ≤ h ∧ h ≤ (cap : Int) := ⟨by omega, hh⟩
  have h2 : 0 ≤ l ∧ l ≤ (h.toNat : Int) := ⟨hl.1, by omega⟩
  simp [Instr.sliceBounds, run_sliceBound _ h1, run_sliceBound _ h2]

theorem sb_lohim {b : Bool} {len cap : Nat} {k k' k'' : IntKind} {l h m : Int} (hl : 0 ≤ l ∧ l ≤ h) (hh : h ≤ m) (hm : m ≤ (cap : Int)) (w : World) :
    (Instr.sliceBounds b len cap (some (.int k l)) (some (.int k' h)) (some (.int k'' m))).run P w = .ok (l.toNat, h.toNat, m.toNat) w := by
  have h0 : 0 ≤ m ∧ m ≤ (cap : Int) := ⟨by omega, hm⟩
  have h1 : 0 ≤ h ∧ h ≤ (m.toNat : Int) := ⟨by omega, by omega⟩
  have h2 : 0 ≤ l ∧ l ≤ (h.toNat : Int) := ⟨hl.1, by omega⟩
  simp [Instr.sliceBounds, run_sliceBound _ h0, run_sliceBound _ h1, run_sliceBound _ h2]

theorem sb_him {b : Bool} {len cap : Nat} {k' k'' : IntKind} {h m : Int} (hl : 0 ≤ h) (hh : h ≤ m) (hm : m ≤ (cap : Int)) (w : World) :
    (Instr.sliceBounds b len cap none (some (.int k' h)) (some (.int k'' m))).run P w = .ok (0, h.toNat, m.toNat) w := by
  have h0 : 0 ≤ m ∧ m ≤ (cap : Int) := ⟨by omega, hm⟩
  have h1 : 0 ≤ h ∧ h ≤ (m.toNat : Int) := ⟨by omega, by omega⟩
  simp [Instr.sliceBounds, run_sliceBound _ h0, run_sliceBound _ h1]

theorem extract_mk (l : List UInt8) (x y : Nat) : (⟨l.toArray⟩ : ByteArray).extract x y = ⟨((l.take y).drop x).toArray⟩ := by
  apply ByteArray.ext
  apply Array.ext'
  simp [ByteArray.data_extract, List.extract, List.take_drop]
  by_cases h : x ≤ y
  · rw [show x + (y - x) = y by omega]
  · rw [show x + (y - x) = x by omega]
    have h1 : List.drop x (List.take x l) = [] := by simp
    have h2 : List.drop x (List.take y l) = [] := by
      apply List.drop_eq_nil_of_le
      have := List.length_take_le y l
      omega
    rw [h1, h2]

theorem vcStrSlice_sound {t : TypeId} {s : List UInt8} {lo hi : Option AV} {vlo vhi : Option Value} {K : AV → Prop} (ht : P.underlying t = some .string)
    (hlo : ∀ x v, lo = some x → vlo = some v → RV β x v) (hhi : ∀ x v, hi = some x → vhi = some v → RV β x v) (e1 : lo.isSome = vlo.isSome) (e2 : hi.isSome = vhi.isSome)
    (h : vcStrSlice s lo hi K) : Yld P β (Instr.sliceAt t (.string ⟨s.toArray⟩) vlo vhi none) K := by
  have hz : (⟨s.toArray⟩ : ByteArray).size = s.length := by simp [ByteArray.size]
  unfold vcStrSlice at h
  split at h
  · cases vlo with
    | some _ => cases e1
    | none =>
      cases vhi with
      | some _ => cases e2
      | none =>
        refine ⟨_, _, .str s, fun w => ?_, h⟩
        simp [Instr.sliceAt, Instr.slice, run_underlying ht, sb_none_none, extract_mk, hz]
  · cases vlo with
    | none => cases e1
    | some v =>
      have r := hlo _ v rfl rfl
      cases r
      cases vhi with
      | some _ => cases e2
      | none =>
        obtain ⟨hb, hk⟩ := h
        refine ⟨_, _, .str _, fun w => ?_, hk⟩
        simp [Instr.sliceAt, Instr.slice, run_underlying ht, hz, sb_lo hb, extract_mk]
  · cases vhi with
    | none => cases e2
    | some v =>
      have r := hhi _ v rfl rfl
      cases r
      cases vlo with
      | some _ => cases e1
      | none =>
        obtain ⟨hb, hk⟩ := h
        refine ⟨_, _, .str _, fun w => ?_, hk⟩
        simp [Instr.sliceAt, Instr.slice, run_underlying ht, hz, sb_hi hb, extract_mk]
  · cases vlo with
    | none => cases e1
    | some v =>
      cases vhi with
      | none => cases e2
      | some u =>
        have r := hlo _ v rfl rfl
        have r' := hhi _ u rfl rfl
        cases r
        cases r'
        obtain ⟨hb, hk⟩ := h
        refine ⟨_, _, .str _, fun w => ?_, hk⟩
        simp [Instr.sliceAt, Instr.slice, run_underlying ht, hz, sb_lohi ⟨hb.1, hb.2.1⟩ hb.2.2, extract_mk]
  · contradiction

end
end Go.Proofs.Ytcepogfmajlcjaa.Ab
