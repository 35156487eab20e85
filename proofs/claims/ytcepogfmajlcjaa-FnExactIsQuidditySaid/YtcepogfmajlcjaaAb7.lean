/-
  The library's seventh text proves that whatever the abstract view of an operation without memory promises comes about.
  It holds no condition of its own.
-/
import Derived.Test.YtcepogfmajlcjaaAb6
set_option linter.unusedVariables false
set_option linter.unusedSimpArgs false
namespace Go.Proofs.Ytcepogfmajlcjaa.Ab
open Go.RowKit

section
variable {P : Program} {T : TT} {β : Bt} {fr : Fr} {a : Act}

def YldN (P : Program) (β : Bt) (s : Sem Next) (K : AV → Prop) : Prop := ∃ v cv, RV β v cv ∧ (∀ w, s.run P w = .ok (.value cv) w) ∧ K v

theorem YldN.of {s : Sem Value} {K : AV → Prop} (h : Yld P β s K) : YldN P β (do pure (Next.value (← s))) K :=
  let ⟨v, cv, r, g, k⟩ := h
  ⟨v, cv, r, fun w => g.value w, k⟩

theorem YldN.pure {v : AV} {cv : Value} {K : AV → Prop} (r : RV β v cv) (k : K v) : YldN P β (Pure.pure (Next.value cv)) K := ⟨v, cv, r, fun _ => rfl, k⟩

theorem optMap_isSome (f : Operand → AV) (g : Operand → Value) (x : Option Operand) : (x.map f).isSome = (x.map g).isSome := by cases x <;> rfl

theorem optMap_rv (hf : FrRel β fr a) (x : Option Operand) : ∀ u v, x.map (ev fr) = some u → x.map a.eval = some v → RV β u v := by
  intro u v hu hv
  cases x with
  | none => cases hu
  | some x =>
    injection hu with hu
    injection hv with hv
    subst hu hv
    exact hf.ev x

theorem rvs_map (hf : FrRel β fr a) (l : List Operand) : RVs β (l.map (ev fr)) (l.map a.eval) := by
  induction l with
  | nil => exact RVs.nil β
  | cons x r ih => exact RVs.cons (hf.ev x) ih

theorem vcMax_sound (mx : Bool) : ∀ (l : List AV) (vl : List Value) (x : AV) (vx : Value) (K : AV → Prop), RV β x vx → RVs β l vl → vcMax mx l x K →
    Yld P β (vl.foldlM (if mx then Builtin.max2 else Builtin.min2) vx) K
  | [], [], x, vx, K, hx, _, h => by
    unfold vcMax at h
    split at h
    · exact ⟨_, _, hx, fun w => by simp, h⟩
    · contradiction
  | y :: l, vy :: vl, x, vx, K, hx, hl, h => by
    obtain ⟨hy, hl'⟩ := hl.head
    unfold vcMax at h
    split at h
    · rename_i k n k' m
      split at h
      · rename_i hk
        have := sameK_eq hk
        subst this
        cases hx
        cases hy
        cases mx with
        | true =>
          obtain ⟨v, cv, r, g, hk⟩ := vcMax_sound true l vl _ _ K (.int k _) hl' h
          have e : (if n < m then m else n) = max n m := by omega
          exact ⟨v, cv, r, fun w => by simpa [Builtin.max2, e] using g w, hk⟩
        | false =>
          obtain ⟨v, cv, r, g, hk⟩ := vcMax_sound false l vl _ _ K (.int k _) hl' h
          have e : (if m < n then m else n) = min n m := by omega
          exact ⟨v, cv, r, fun w => by simpa [Builtin.min2, e] using g w, hk⟩
      · contradiction
    · contradiction
  | [], _ :: _, _, _, _, _, hl, _ => by have := hl.1; simp at this
  | _ :: _, [], _, _, _, _, hl, _ => by have := hl.1; simp at this

theorem vcLen_sound {t : TypeId} {i : TI} {x : AV} {vx : Value} {ty : TypeId} {K : AV → Prop} (tok : TOk P T) (ht : tget T t = some i) (hx : RV β x vx) (hd : lenD i.desc x = true) (h : vcLen x K) :
    Yld P β (Builtin.len_ #[t] ty #[vx]) K := by
  have hu := tok.under ht
  unfold vcLen at h
  split at h
  · cases hx
    have : i.desc = .string := by
      unfold lenD at hd
      split at hd <;> first | assumption | (simp at *; done) | cases hd
    rw [this] at hu
    rename_i s
    have hz : (⟨s.toArray⟩ : ByteArray).size = s.length := by simp [ByteArray.size]
    exact ⟨_, _, .int _ _, fun w => by simp [Builtin.len_, run_underlying hu, goInt, hz], h⟩
  · cases hx
    have : ∃ e, i.desc = .slice e := by
      unfold lenD at hd
      split at hd <;> first | exact ⟨_, by assumption⟩ | (simp at *; done) | cases hd
    obtain ⟨e, this⟩ := this
    rw [this] at hu
    exact ⟨_, _, .int _ _, fun w => by simp [Builtin.len_, run_underlying hu, goInt], h⟩
  · cases hx
    have : ∃ e, i.desc = .slice e := by
      unfold lenD at hd
      split at hd <;> first | exact ⟨_, by assumption⟩ | (simp at *; done) | cases hd
    obtain ⟨e, this⟩ := this
    rw [this] at hu
    exact ⟨_, _, .int _ _, fun w => by simp [Builtin.len_, run_underlying hu, goInt], h⟩
  · cases hx
    have : ∃ e, i.desc = .slice e := by
      unfold lenD at hd
      split at hd <;> first | exact ⟨_, by assumption⟩ | (simp at *; done) | cases hd
    obtain ⟨e, this⟩ := this
    rw [this] at hu
    exact ⟨_, _, .int _ _, fun w => by simp [Builtin.len_, run_underlying hu, goInt], h⟩
  · contradiction

theorem zero_rvs {t : TypeId} {i : TI} (ht : tget T t = some i) : RVs β (i.zero.cells.toList.map avScalar) i.zero.cells.toList := by
  refine ⟨by simp, fun n c v hc hv => ?_⟩
  rw [List.getElem?_map, hv] at hc
  simp at hc
  subst hc
  exact rv_avScalar β v

theorem parts_rel (hf : FrRel β fr a) (ps : List (Nat × Operand)) : ∀ (i : Nat) (x : Nat × AV) (y : Nat × Value), (ps.map fun (i, x) => (i, ev fr x))[i]? = some x → (ps.map fun (i, x) => (i, a.eval x))[i]? = some y → x.1 = y.1 ∧ RV β x.2 y.2 := by
  intro i x y hx hy
  rw [List.getElem?_map] at hx hy
  cases h : ps[i]? with
  | none => rw [h] at hx; cases hx
  | some p =>
    rw [h] at hx hy
    simp at hx hy
    subst hx hy
    exact ⟨rfl, hf.ev p.2⟩

theorem run_zero {t : TypeId} {i : TI} (tok : TOk P T) (ht : tget T t = some i) (w : World) : (zeroValue t).run P w = .ok i.zero w := by
  obtain ⟨q, hq, _, _, hz⟩ := tok.infos ht
  simp [zeroValue, typeInfo, hq, hz]

theorem run_size {t : TypeId} {i : TI} (tok : TOk P T) (ht : tget T t = some i) (w : World) : (sizeOf t).run P w = .ok i.size w := by
  obtain ⟨q, hq, hs, _, _⟩ := tok.infos ht
  simp [sizeOf, typeInfo, hq, hs]

theorem build_struct {t : TypeId} {d : TI} {fs : Array Field} {ps : List (Nat × Operand)} {cs : List AV} (tok : TOk P T) (hf : FrRel β fr a) (ht : tget T t = some d) (hd : d.desc = .struct fs) (ha : allSz T fs.toList = true)
    (h : fillA (fieldSz T fs) (d.zero.cells.toList.map avScalar) (ps.map fun (i, x) => (i, ev fr x)) = some cs) :
    ∃ vs, RVs β cs vs.toList ∧ ∀ w, (Instr.build t (ps.map fun (i, x) => (i, a.eval x)).toArray).run P w = .ok (.agg vs) w := by
  have hu := tok.under ht
  rw [hd] at hu
  obtain ⟨vs, h1, h2⟩ := fill_sound (β := β) _ (ps.map fun (i, x) => (i, a.eval x)) _ d.zero.cells cs (zero_rvs ht) (by simp) (parts_rel hf ps) h
  refine ⟨vs, h2, fun w => ?_⟩
  obtain ⟨pl, h3, h4, h5⟩ := run_places tok fs.toList w ha
  have h6 : (fs.mapM fun f => (do pure (f.offset, ← sizeOf f.type) : Sem (Nat × Nat))).run P w = .ok pl.toArray w := by
    rw [Array.mapM_eq_mapM_toList]
    simp only [Sem.run_map, h3, Result.andThen_ok]
  have h7 : (fun x : Nat => pl.toArray[x]?) = fieldSz T fs := by
    funext i
    unfold fieldSz
    cases hg : fs.toList[i]? with
    | none =>
      have : fs.toList.length ≤ i := List.getElem?_eq_none_iff.1 hg
      simp
      omega
    | some f =>
      have := h5 i f hg
      simp only [List.getElem?_toArray]
      rw [this]
      cases tget T f.type <;> rfl
  simp only [Instr.build, Sem.run_bind, run_zero tok ht, run_underlying hu, Result.andThen_ok, h6]
  rw [h7]
  simp [h1]

theorem build_array {t e : TypeId} {d j : TI} {n : Nat} {ps : List (Nat × Operand)} {cs : List AV} (tok : TOk P T) (hf : FrRel β fr a) (ht : tget T t = some d) (hd : d.desc = .array n e) (he : tget T e = some j)
    (h : fillA (fun i => some (i * j.size, j.size)) (d.zero.cells.toList.map avScalar) (ps.map fun (i, x) => (i, ev fr x)) = some cs) :
    ∃ vs, RVs β cs vs.toList ∧ ∀ w, (Instr.build t (ps.map fun (i, x) => (i, a.eval x)).toArray).run P w = .ok (.agg vs) w := by
  have hu := tok.under ht
  rw [hd] at hu
  obtain ⟨vs, h1, h2⟩ := fill_sound (β := β) _ (ps.map fun (i, x) => (i, a.eval x)) _ d.zero.cells cs (zero_rvs ht) (by simp) (parts_rel hf ps) h
  refine ⟨vs, h2, fun w => ?_⟩
  simp only [Instr.build, Sem.run_bind, run_zero tok ht, run_underlying hu, run_size tok he, Result.andThen_ok]
  simp [h1]

theorem rvs_agg {cs : List AV} {vs : Array Value} (h : RVs β cs vs.toList) : RV β (.agg cs) (.agg vs) :=
  .agg (by have := h.1; simpa using this) fun i c v hc hv => h.2 i c v hc (by simpa using hv)

theorem ba_get (s : List UInt8) (i : Nat) (h : i < s.length) : (⟨s.toArray⟩ : ByteArray)[i]? = some s[i] := by
  have hz : (⟨s.toArray⟩ : ByteArray).size = s.length := by simp [ByteArray.size]
  rw [getElem?_pos _ _ (by rw [hz]; exact h)]
  rfl

theorem vcP_sound {o : Oper} {K : AV → Prop} (tok : TOk P T) (hf : FrRel β fr a) (h : vcP T o.op fr K) : YldN P β (execOp a.eval o) K := by
  obtain ⟨dst, op, ty, pos, after, guard⟩ := o
  cases op <;> simp only [vcP] at h
  case move x => exact .pure (hf.ev x) h
  case assign x => exact .pure (hf.ev x) h
  case pick c x y =>
    have hc := hf.ev c
    split at h
    · rename_i t ht
      rw [ht] at hc
      have h := h.out
      dsimp only [execOp]
      generalize a.eval c = vc at hc ⊢
      cases hc
      cases t with
      | true => exact ⟨_, _, hf.ev x, fun w => by simp [asBool], h⟩
      | false => exact ⟨_, _, hf.ev y, fun w => by simp [asBool], h⟩
    · contradiction
  case binOp op t x y yt => exact .of (vcBin_sound x y tok (hf.ev x) (hf.ev y) h)
  case unOp op t x => exact .of (vcUn_sound (hf.ev x) h)
  case nilCheck x =>
    have hx := hf.ev x
    dsimp only [execOp]
    generalize a.eval x = vx at hx ⊢
    split at h
    · rename_i b o e
      rw [e] at hx
      cases hx with
      | ptr hb => exact ⟨_, _, .ptr hb, fun w => by simp, h⟩
    · rename_i f cs e
      rw [e] at hx
      cases hx with
      | func hl hr => exact ⟨_, _, .func hl hr, fun w => by simp, h⟩
    · contradiction
  case index t x i =>
    split at h
    · contradiction
    · rename_i d ht
      have hx := hf.ev x
      have hi := hf.ev i
      refine .of ?_
      generalize a.eval x = vx at hx ⊢
      generalize a.eval i = vi at hi ⊢
      split at h
      · rename_i s k n hd ex ei
        rw [ex] at hx
        rw [ei] at hi
        cases hx
        cases hi
        have hu := tok.under ht
        rw [hd] at hu
        obtain ⟨⟨h1, h2⟩, hk⟩ := h
        have h3 : n.toNat < s.length := by omega
        refine ⟨_, _, .int _ _, fun w => ?_, hk⟩
        have h4 := ba_get s n.toNat h3
        simp [Instr.index, asIntOf, run_underlying hu, h1, h4, List.getD, h3]
      · contradiction
  case indexAddr t x i =>
    split at h
    · contradiction
    · rename_i d ht
      have hx := hf.ev x
      have hi := hf.ev i
      refine .of ?_
      generalize a.eval x = vx at hx ⊢
      generalize a.eval i = vi at hi ⊢
      split at h
      · rename_i e b o n c k m hd ex ei
        rw [ex] at hx
        rw [ei] at hi
        split at h
        · contradiction
        · rename_i j he
          cases hi
          cases hx with
          | @slice _ _ _ _ p cap co hb hc hn ho htt =>
          have hu := tok.under ht
          rw [hd] at hu
          obtain ⟨q, hq, hs, _, _⟩ := tok.infos he
          obtain ⟨⟨h1, h2⟩, hk⟩ := h
          have hco : co = p.off + o := by omega
          subst hco
          refine ⟨_, _, .ptr hb, fun w => ?_, hk⟩
          have h3 : (m.toNat : Int) = m := Int.toNat_of_nonneg h1
          simp [Instr.indexAt, asIntOf, run_underlying hu, h1, h2, sizeOf, typeInfo, hq, hs, Addr.add_lit, mulSz_eq, Nat.add_assoc]
      · contradiction
  case slice t x lo hi mx =>
    split at h
    · contradiction
    · rename_i d ht
      have hx := hf.ev x
      refine .of ?_
      generalize a.eval x = vx at hx ⊢
      split at h
      · rename_i s hd ex
        rw [ex] at hx
        cases hx
        have hu := tok.under ht
        rw [hd] at hu
        split at h
        · exact vcStrSlice_sound hu (optMap_rv hf lo) (optMap_rv hf hi) (optMap_isSome _ _ lo) (optMap_isSome _ _ hi) h
        · contradiction
      · rename_i e b o n c hd ex
        rw [ex] at hx
        split at h
        · contradiction
        · rename_i j he
          exact vcSlice_sound tok ht hd he hx (optMap_rv hf lo) (optMap_rv hf hi) (optMap_rv hf mx) (optMap_isSome _ _ lo) (optMap_isSome _ _ hi) (optMap_isSome _ _ mx) h
      · rename_i e hd ex
        rw [ex] at hx
        cases hx
        split at h
        · contradiction
        · rename_i j he
          exact vcNilSlice_sound tok ht hd he (optMap_rv hf lo) (optMap_rv hf hi) (optMap_isSome _ _ lo) (optMap_isSome _ _ hi) (optMap_isSome _ _ mx) h
      · contradiction
  case field t x f =>
    split at h
    · contradiction
    · rename_i d ht
      have hx := hf.ev x
      refine .of ?_
      generalize a.eval x = vx at hx ⊢
      split at h
      · rename_i fs cs hd ex
        rw [ex] at hx
        have hu := tok.under ht
        rw [hd] at hu
        split at h
        · contradiction
        · rename_i g hg
          have hg' : fs[f]? = some g := by simpa using hg
          cases hx with
          | @agg _ vs hl hr =>
          obtain ⟨v, cv, r, gv, k⟩ := vcPart_sound (P := P) (β := β) (vs := vs) tok ⟨by simpa using hl, fun i c v hc hv => hr i c v hc (by simpa using hv)⟩ h
          exact ⟨v, cv, r, fun w => by simp [Instr.field, run_underlying hu, hg', asAgg, gv w], k⟩
      · contradiction
  case fieldAddr t x f =>
    split at h
    · contradiction
    · rename_i d ht
      have hx := hf.ev x
      refine .of ?_
      generalize a.eval x = vx at hx ⊢
      split at h
      · rename_i fs b o hd ex
        rw [ex] at hx
        have hu := tok.under ht
        rw [hd] at hu
        split at h
        · rename_i off sz hs
          unfold fieldSz at hs
          split at hs
          · cases hs
          · rename_i g hg
            have hg' : fs[f]? = some g := by simpa using hg
            split at hs
            · cases hs
            · rename_i j hj
              injection hs with hs
              injection hs with h1 h2
              subst h1
              cases hx with
              | ptr hb =>
              have h3 := run_size (P := P) tok hj
              refine ⟨_, _, .ptr hb, fun w => ?_, h⟩
              simp [Instr.fieldAt, run_underlying hu, hg', Instr.sureAddr, fieldPlace, h3, h2, Addr.add_lit, Nat.add_assoc]
        · contradiction
      · contradiction
  case extract x i =>
    have hx := hf.ev x
    refine .of ?_
    generalize a.eval x = vx at hx ⊢
    split at h
    · rename_i vs ex
      rw [ex] at hx
      split at h
      · rename_i v hv
        cases hx with
        | @tup _ cvs hl hr =>
          have hi : i < vs.length := (List.getElem?_eq_some_iff.1 hv).1
          have hi' : i < cvs.size := by omega
          exact ⟨_, cvs[i], hr i _ _ hv (by simp [hi']), fun w => by simp [Instr.extract, hi'], h⟩
      · contradiction
    · contradiction
  case makeFunc fn first cap =>
    split at h
    · rename_i f hfirst
      have : first = #[] := by simpa using hfirst
      subst this
      rw [forceL_eq] at h
      have hm := rvs_map hf cap.toList
      refine .of ⟨_, _, .func (f := f) (caps := cap.toList.map (ev fr)) (cvs := cap.map a.eval) (by simp) (fun i c v hc hv => hm.2 i c v hc ?_), fun w => by simp [Instr.makeFunc], h⟩
      rw [← Array.getElem?_toList, Array.toList_map] at hv
      exact hv
    · contradiction
  case build t ps =>
    split at h
    · contradiction
    · rename_i d ht
      have hps : (ps.map fun (i, x) => (i, a.eval x)) = (ps.toList.map fun (i, x) => (i, a.eval x)).toArray := by apply Array.ext'; simp
      split at h
      · rename_i fs hd
        split at h
        · rename_i ha
          split at h
          · rename_i cs hc
            obtain ⟨vs, h1, h2⟩ := build_struct (P := P) tok hf ht hd ha hc
            rw [forceL_eq] at h
            exact .of ⟨_, _, rvs_agg h1, fun w => by dsimp only; rw [hps]; exact h2 w, h⟩
          · contradiction
        · contradiction
      · rename_i n e hd
        split at h
        · contradiction
        · rename_i j he
          split at h
          · rename_i cs hc
            obtain ⟨vs, h1, h2⟩ := build_array (P := P) tok hf ht hd he hc
            rw [forceL_eq] at h
            exact .of ⟨_, _, rvs_agg h1, fun w => by dsimp only; rw [hps]; exact h2 w, h⟩
          · contradiction
      · contradiction
  case convert s t x =>
    split at h
    · rename_i d0 d hs ht
      have hx := hf.ev x
      refine .of ?_
      generalize a.eval x = vx at hx ⊢
      split at h
      · rename_i k k' n hd ex
        rw [ex] at hx
        cases hx
        have hu := tok.under ht
        rw [hd] at hu
        have hu0 := tok.under hs
        exact ⟨_, _, .int _ _, fun w => by simp [convert, run_underlying hu, run_underlying hu0, Conv.intToInt], h.out⟩
      · contradiction
    · contradiction
  case call c =>
    obtain ⟨callee, args, argTypes⟩ := c
    dsimp only at h
    split at h
    · split at h
      · rename_i t x h1 h2
        have e1 : argTypes = #[t] := Array.ext' h1
        have e2 : args = #[x] := Array.ext' h2
        subst e1 e2
        split at h
        · contradiction
        · rename_i d ht
          split at h
          · rename_i hd
            obtain ⟨v, cv, r, g, k⟩ := vcLen_sound (P := P) (ty := ty) tok ht (hf.ev x) hd h
            exact ⟨v, cv, r, fun w => by simp [execOp, resolve, invoke, builtin, g w], k⟩
          · contradiction
      · contradiction
    · split at h
      · rename_i x rest h2
        have e2 : args = (x :: rest).toArray := by rw [← h2]
        subst e2
        obtain ⟨v, cv, r, g, k⟩ := vcMax_sound (P := P) true (rest.map (ev fr)) (rest.map a.eval) _ _ K (hf.ev x) (rvs_map hf rest) h
        refine ⟨v, cv, r, fun w => ?_, k⟩
        have g := g w
        simp at g
        simp [execOp, resolve, invoke, builtin, Builtin.max_, g]
      · contradiction
    · split at h
      · rename_i x rest h2
        have e2 : args = (x :: rest).toArray := by rw [← h2]
        subst e2
        obtain ⟨v, cv, r, g, k⟩ := vcMax_sound (P := P) false (rest.map (ev fr)) (rest.map a.eval) _ _ K (hf.ev x) (rvs_map hf rest) h
        refine ⟨v, cv, r, fun w => ?_, k⟩
        have g := g w
        simp at g
        simp [execOp, resolve, invoke, builtin, Builtin.min_, g]
      · contradiction
    · contradiction

end
end Go.Proofs.Ytcepogfmajlcjaa.Ab
