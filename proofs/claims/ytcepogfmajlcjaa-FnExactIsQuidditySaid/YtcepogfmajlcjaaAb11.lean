/-
  The library's eleventh text proves what the operations that make memory do, append and calls among them.
  It holds no condition of its own.
-/
import Derived.Test.YtcepogfmajlcjaaAb10
set_option linter.unusedVariables false
set_option linter.unusedSimpArgs false
namespace Go.Proofs.Ytcepogfmajlcjaa.Ab
open Go.RowKit

section
variable {E : Env} {P : Program} {T : TT} {base : Nat} {W0 : World} {β : Bt} {nxt : Nat} {h : H} {w : World} {fr : Fr} {a : Act}

/-- a run that makes one block of cells -/
theorem Lands.new {o : Oper} {K : AV → H → Prop} {cs : List AV} {arr : Array Value} {e : TypeId} {sz : Nat} {w1 : World} (s : Sim base W0 β nxt h w1) (r : RVs β cs (arr.toList.take cs.length)) (hl : cs.length ≤ arr.size)
    {f : Nat → AV} {cv : Value} (hrun : (execOp a.eval o).run P w = .ok (.value cv) (w1.alloc (.cells arr e)))
    (hv : RV (bput β nxt ⟨w1.heap.size, 0, sz, arr.size⟩) (f nxt) cv) (hk : NewG h (.cells true sz cs) fun b h' => K (f b) h') : Lands P base W0 β nxt o a w K :=
  .value hrun (Ext.put (s.fresh nxt (Nat.le_refl _))) (Nat.le_succ _) hv (s.allocCells e sz r hl) (hk.hk nxt s.freshNone)

theorem vcAlloc_sound {e : TypeId} {K : AV → H → Prop} {o : Oper} (ho : o.op = .alloc e) (tok : TOk E.P E.T) (s : Sim base W0 β nxt h w) (hk : vcW E (.alloc e) fr h K) : Lands E.P base W0 β nxt o a w K := by
  obtain ⟨dst, op, ty, pos, after, guard⟩ := o
  dsimp only at ho
  subst ho
  simp only [vcW] at hk
  split at hk
  · contradiction
  · rename_i j ht
    rw [forceL_eq] at hk
    refine .new (f := fun b => .ptr b 0) (cs := zcells j) (arr := j.zero.cells) (e := e) (sz := j.size) s ?_ (by simp [zcells]) (cv := .pointer (some ⟨w.heap.size, 0, none⟩)) ?_ ?_ hk
    · have := zero_rvs (β := β) ht
      unfold zcells
      rwa [List.take_of_length_le (by simp)]
    · simp [execOp, Instr.alloc, run_zero tok ht, newVar, newRow]
    · exact .ptr (bput_at _ _)

theorem vcBox_sound {e : TypeId} {x : Operand} {K : AV → H → Prop} {o : Oper} (ho : o.op = .box e x) (s : Sim base W0 β nxt h w) (hf : FrRel β fr a) (hk : vcW E (.box e x) fr h K) : Lands E.P base W0 β nxt o a w K := by
  obtain ⟨dst, op, ty, pos, after, guard⟩ := o
  dsimp only at ho
  subst ho
  simp only [vcW] at hk
  split at hk
  · contradiction
  · rename_i j ht
    have hx := hf.ev x
    split at hk
    · contradiction
    · rename_i hne
      rw [forceL_eq] at hk
      have hc := hx.cells (fun e => hne e)
      refine .new (f := fun b => .ptr b 0) (cs := (ev fr x).cells) (arr := (a.eval x).cells) (e := e) (sz := j.size) s ?_ (by have := hc.1; simp at this; omega) (cv := .pointer (some ⟨w.heap.size, 0, none⟩)) ?_ ?_ hk
      · rw [List.take_of_length_le (by have := hc.1; omega)]
        exact hc
      · simp [execOp, Instr.box, newVar, newRow]
      · exact .ptr (bput_at _ _)

theorem zcells_one {j : TI} {z : AV} (hz : zcells j = [z]) : ∃ v, j.zero.cells = #[v] ∧ z = avScalar v := by
  unfold zcells at hz
  have hl : j.zero.cells.toList.length = 1 := by have := congrArg List.length hz; simpa using this
  match hc : j.zero.cells.toList with
  | [v] =>
    rw [hc] at hz
    exact ⟨v, Array.ext' hc, by simpa using hz.symm⟩
  | [] => rw [hc] at hl; cases hl
  | _ :: _ :: _ => rw [hc] at hl; simp at hl

theorem map_range0 (f : Nat → Value) : (Array.range 0).map f = #[] := by
  apply Array.ext'
  simp

theorem range_const (v : Value) (n : Nat) : (Array.range n).map (fun _ => v) = Array.replicate n v := by
  apply Array.ext'
  simp
  apply List.ext_getElem?
  intro i
  simp [List.getElem?_replicate]
  by_cases hi : i < n
  · simp [hi]
  · simp [hi]

theorem vcBuildSlice_sound {t : TypeId} {n : Nat} {ps : Array (Nat × Operand)} {K : AV → H → Prop} {o : Oper} (ho : o.op = .buildSlice t n ps) (tok : TOk E.P E.T) (s : Sim base W0 β nxt h w) (hf : FrRel β fr a) (hk : vcW E (.buildSlice t n ps) fr h K) :
    Lands E.P base W0 β nxt o a w K := by
  obtain ⟨dst, op, ty, pos, after, guard⟩ := o
  dsimp only at ho
  subst ho
  simp only [vcW] at hk
  split at hk
  · contradiction
  · rename_i d ht
    split at hk
    · rename_i e hd
      have hu := tok.under ht
      rw [hd] at hu
      split at hk
      · contradiction
      · rename_i j he
        split at hk
        · rename_i z hsz hz hn
          have hn := Nat.le_of_ble_eq_true hn
          obtain ⟨v, hv, hzv⟩ := zcells_one hz
          split at hk
          · rename_i cs hc
            rw [forceL_eq] at hk
            have hzr : RV β z v := by rw [hzv]; exact rv_avScalar β v
            have hps : (ps.map fun (i, x) => (i, a.eval x)) = (ps.toList.map fun (i, x) => (i, a.eval x)).toArray := by apply Array.ext'; simp
            obtain ⟨vs, g1, g2⟩ := fill_sound (β := β) _ (ps.toList.map fun (i, x) => (i, a.eval x)) _ (Array.replicate n v) cs (by simpa using RVs.replicate hzr n) (by simp) (parts_rel hf ps.toList) hc
            have hlen := g2.1
            refine .new (f := fun b => .slice b 0 n n) (cs := cs) (arr := vs) (e := e) (sz := 1) s ?_ (by simpa using Nat.le_of_eq hlen) (cv := .slice (some ⟨w.heap.size, 0, none⟩) n n) ?_ ?_ hk
            · rw [List.take_of_length_le (by omega)]
              exact g2
            · have hlim : ¬ (16777216 < n) := by omega
              dsimp only [execOp]
              rw [hps]
              by_cases h0 : n = 0
              · subst h0
                simp only [Nat.mul_one, Array.replicate_zero] at g1
                simp [Instr.buildSlice, run_underlying hu, run_size tok he, hsz, newRow]
                try simp at g1
                simp [map_range0, g1]
              · simp [Instr.buildSlice, run_underlying hu, run_size tok he, hsz, newRow, hlim, h0, run_zero tok he, hv, Nat.mod_one, range_const]
                try simp at g1
                simp [g1]
            · refine .slice (bput_at _ _) (Nat.le_refl _) (Nat.le_refl _) (.inr rfl) fun _ => ?_
              have : vs.size = n := by
                have h1 : cs.length = n := by
                  have key : ∀ (ps : List (Nat × AV)) (cells cs : List AV), fillA (fun i => some (i * 1, 1)) cells ps = some cs → cs.length = cells.length := by
                    intro ps
                    induction ps with
                    | nil => intro cells cs h; simp [fillA] at h; simp [h]
                    | cons p r ih =>
                      intro cells cs h
                      obtain ⟨i, v⟩ := p
                      unfold fillA at h
                      dsimp only at h
                      split at h
                      · cases h
                      · split at h
                        · rename_i b1 b2
                          have b1 := Nat.eq_of_beq_eq_true b1
                          have b2 := Nat.le_of_ble_eq_true b2
                          rw [ih _ _ h]
                          simp
                          omega
                        · cases h
                  have := key _ _ _ hc
                  simpa using this
                have := hlen
                simp at this
                omega
              simp [this]
          · contradiction
        · contradiction
    · contradiction

theorem vcMakeSlice_sound {t : TypeId} {l c : Operand} {K : AV → H → Prop} {o : Oper} (ho : o.op = .makeSlice t l c) (tok : TOk E.P E.T) (s : Sim base W0 β nxt h w) (hf : FrRel β fr a) (hk : vcW E (.makeSlice t l c) fr h K) :
    Lands E.P base W0 β nxt o a w K := by
  obtain ⟨dst, op, ty, pos, after, guard⟩ := o
  dsimp only at ho
  subst ho
  simp only [vcW] at hk
  split at hk
  · contradiction
  · rename_i d ht
    split at hk
    · rename_i e hd
      have hu := tok.under ht
      rw [hd] at hu
      split at hk
      · contradiction
      · rename_i j he
        have hl := hf.ev l
        have hc := hf.ev c
        split at hk
        · rename_i z k1 l1 k2 c1 hsz hz el ec
          generalize hvl : a.eval l = vl at hl
          generalize hvc : a.eval c = vc at hc
          rw [el] at hl
          rw [ec] at hc
          cases hl
          cases hc
          obtain ⟨⟨b1, b2, b3, b4⟩, hk⟩ := hk
          obtain ⟨v, hv, hzv⟩ := zcells_one hz
          have hzr : RV β z v := by rw [hzv]; exact rv_avScalar β v
          obtain ⟨q, hq, hqs, hqb, hqz⟩ := tok.infos he
          refine .new (f := fun b => .slice b 0 l1.toNat c1.toNat) (cs := List.replicate c1.toNat z) (arr := Array.replicate c1.toNat v) (e := e) (sz := 1) s ?_ (by simp) (cv := .slice (some ⟨w.heap.size, 0, none⟩) l1.toNat c1.toNat) ?_ ?_ hk
          · rw [List.take_of_length_le (by simp)]
            simpa using RVs.replicate hzr c1.toNat
          · have w1 : IntKind.i64.wrap l1 = l1 := IntWalk.i64_in l1 (by omega)
            have w2 : IntKind.i64.wrap c1 = c1 := IntWalk.i64_in c1 (by omega)
            have n1 : ¬ (c1 < 0) := by omega
            have n2 : ¬ ((281474976710656 : Int) < (j.bytes : Int) * c1) := by rw [Int.mul_comm]; omega
            have n3 : ¬ (l1 < 0) := by omega
            have n4 : ¬ (c1 < l1) := by omega
            dsimp only [execOp]
            rw [hvl, hvc]
            by_cases h0 : c1.toNat = 0
            · simp [Instr.makeSlice, run_underlying hu, asInt, asIntOf, w1, w2, typeInfo, hq, hqb, run_size tok he, hsz, n1, n2, n3, n4, newRow, h0, map_range0]
            · simp [Instr.makeSlice, run_underlying hu, asInt, asIntOf, w1, w2, typeInfo, hq, hqb, run_size tok he, hsz, n1, n2, n3, n4, newRow, h0, run_zero tok he, hv, Nat.mod_one, range_const]
          · refine .slice (bput_at _ _) (Nat.le_refl _) (by omega) (.inr rfl) fun _ => ?_
            simp
        · contradiction
    · contradiction

theorem vcCall_sound {f : Operand} {args : Array Operand} {ats : Array TypeId} {K : AV → H → Prop} {o : Oper} (ho : o.op = .call { callee := .value f, args := args, argTypes := ats }) (s : Sim base W0 β nxt h w) (hf : FrRel β fr a)
    (hk : vcW E (.call { callee := .value f, args := args, argTypes := ats }) fr h K) : Lands E.P base W0 β nxt o a w K := by
  obtain ⟨dst, op, ty, pos, after, guard⟩ := o
  dsimp only at ho
  subst ho
  simp only [vcW] at hk
  have hff := hf.ev f
  split at hk
  · rename_i g caps ef
    rw [forceL_eq] at hk
    rw [ef] at hff
    generalize hvf : a.eval f = vf at hff
    cases hff with
    | @func _ _ cvs hl hr =>
    intro next Q hh
    have hm := rvs_map hf args.toList
    have hcaps : RVs β caps cvs.toList := ⟨by simpa using hl, fun i c v hc hv => hr i c v hc (by simpa using hv)⟩
    have hall := hm.append hcaps
    have hargs : (args.map a.eval ++ cvs).toList = args.toList.map a.eval ++ cvs.toList := by simp
    rw [← hargs] at hall
    unfold Oper.wp
    have hrun : (execOp a.eval { dst := dst, op := .call { callee := .value f, args := args, argTypes := ats }, type := ty, pos := pos, after := after, guard := guard }).run E.P w = .ok (.enter g (args.map a.eval ++ cvs)) w := by
      simp [execOp, resolve, hvf, Deferred.ofValue, invoke, hk.call]
    rw [hrun]
    simp only [Oper.upon]
    refine (hk.run base W0 β nxt w _ s hall).mono ?_
    rintro e w' ⟨v, cv, β', nxt', h', rfl, h2, h3, h4, h5, h6⟩
    exact hh β' nxt' h' w' v cv h2 h3 h4 h5 h6
  · contradiction

end
end Go.Proofs.Ytcepogfmajlcjaa.Ab
