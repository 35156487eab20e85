/-
  The library's fifteenth text proves the rule for regions whose order is open.
  It holds no condition of its own.
-/
import Derived.Test.YtcepogfmajlcjaaAb14
set_option linter.unusedVariables false
set_option linter.unusedSimpArgs false
namespace Go.Proofs.Ytcepogfmajlcjaa.Ab
open Go.RowKit

/-- an operation that only reads leaves a value and the world as it is -/
def Calm (T : TT) (P : Program) (ops : Array Oper) (j : Nat) (a : Act) (w : World) : Prop :=
  ∀ o, ops[j]? = some o → kindOf T o.op ≤ 1 → Region.wanted o (yielded ops a.tmps) = true → ∃ u, (execOp a.eval o).run P w = .ok (.value u) w

/-- all orders, and what only reads is calm in each -/
def wpCalm (T : TT) (P : Program) (md : Region.Mode) (ops : Array Oper) (Q : Exit → Act → World → Prop) : Nat → Array Bool → Act → World → Prop
  | 0, listed, a, w => Region.ready md ops listed = [] ∧ Q .normal a w
  | fuel + 1, listed, a, w =>
    (Region.ready md ops listed = [] → Q .normal a w) ∧
    ∀ i ∈ Region.ready md ops listed, Calm T P ops i a w ∧ wpOp P ops Q i (wpCalm T P md ops Q fuel (listed.setIfInBounds i true)) a w

theorem wpCalm.any {T : TT} {P : Program} {md : Region.Mode} {ops : Array Oper} {Q : Exit → Act → World → Prop} : ∀ (fuel : Nat) (listed : Array Bool) (a : Act) (w : World), wpCalm T P md ops Q fuel listed a w → wpAny P md ops Q fuel listed a w
  | 0, _, _, _, h => h
  | fuel + 1, listed, a, w, h => ⟨h.1, fun i hi => wpOp_mono (fun a' w' k => wpCalm.any fuel _ a' w' k) (h.2 i hi).2⟩

section
variable {T : TT} {P : Program} {ops : Array Oper} {Q : Exit → Act → World → Prop} {md : Region.Mode}

/-- here and now operation 'o' leaves 'v' in its slot and the world as it is -/
def YieldsW (P : Program) (ops : Array Oper) (o : Oper) (v : Value) (a : Act) (w : World) : Prop :=
  (Region.wanted o (yielded ops a.tmps) = true ∧ (execOp a.eval o).run P w = .ok (.value v) w) ∨
  (Region.wanted o (yielded ops a.tmps) = false ∧ v = Go.undef)

theorem YieldsW.wpOp {i : Nat} {o : Oper} {v : Value} {a : Act} {w : World} (hi : ops[i]? = some o) (hy : YieldsW P ops o v a w) {K : Act → World → Prop} (h : K (a.put o.dst v) w) : wpOp P ops Q i K a w := by
  unfold Go.wpOp
  simp only [hi]
  rcases hy with ⟨hw, hv⟩ | ⟨hw, rfl⟩
  · simp only [hw, if_true, Oper.wp, hv, Oper.upon]
    exact .inl h
  · simp only [hw, Bool.false_eq_true, if_false]
    exact h

theorem YieldsW.of_same {o : Oper} {v : Value} {a a' : Act} {w : World} (hy : YieldsW P ops o v a w) (he : execOp a'.eval o = execOp a.eval o)
    (hw : Region.wanted o (yielded ops a'.tmps) = Region.wanted o (yielded ops a.tmps)) : YieldsW P ops o v a' w := by
  unfold YieldsW at *
  rw [he, hw]
  exact hy

theorem Calm.put {j : Nat} {oi oj : Oper} {v : Value} {a : Act} {w : World} (hj : ops[j]? = some oj) (hap : oi.apart ops oj = true) (hsj : ∀ cs b, oj.op ≠ .select cs b) (h : Calm T P ops j (a.put oi.dst v) w) : Calm T P ops j a w := by
  obtain ⟨h1, h2, h3⟩ := Oper.apart_spec hap
  intro o ho hk hw
  rw [hj] at ho
  injection ho with ho
  subst ho
  have := h oj hj hk (by rw [wanted_put oj a oi.dst v h1]; exact hw)
  rwa [execOp_put oj hsj a oi.dst v h1] at this
theorem YieldsW.calm {i : Nat} {o : Oper} {v : Value} {a : Act} {w : World} (hi : ops[i]? = some o) (hy : YieldsW P ops o v a w) : Calm T P ops i a w := by
  intro o' ho hk hw
  rw [hi] at ho
  injection ho with ho
  subst ho
  rcases hy with ⟨h1, h2⟩ | ⟨h1, h2⟩
  · exact ⟨v, h2⟩
  · rw [h1] at hw; cases hw
theorem yieldsW {o : Oper} {v : Value} {a : Act} (hy : Yields P ops o v a) (w : World) : YieldsW P ops o v a w := hy.imp (fun h => ⟨h.1, h.2 w⟩) id

theorem wpOp_putW {j : Nat} {oi oj : Oper} {v : Value} (hj : ops[j]? = some oj) (hap : oi.apart ops oj = true)
    (hsi : ∀ cs b, oi.op ≠ .select cs b) (hsj : ∀ cs b, oj.op ≠ .select cs b) {a : Act} {w : World} (hq : Region.wanted oj (yielded ops a.tmps) = true → ∃ u, (execOp a.eval oj).run P w = .ok (.value u) w)
    (hQ : ∀ c a w, Q (.panic c) (a.put oi.dst v) w → Q (.panic c) a w) {K : Act → World → Prop}
    (hy : YieldsW P ops oi v a w) (h : wpOp P ops Q j K (a.put oi.dst v) w) :
    wpOp P ops Q j (fun a' w' => w' = w ∧ YieldsW P ops oi v a' w' ∧ K (a'.put oi.dst v) w') a w := by
  obtain ⟨h1, h2, h3⟩ := Oper.apart_spec hap
  have keep : ∀ (a : Act), YieldsW P ops oi v a w → ∀ u, YieldsW P ops oi v (a.put oj.dst u) w := fun a hy u =>
    hy.of_same (execOp_put oi hsi a oj.dst u h3) (wanted_put oi a oj.dst u h3)
  unfold wpOp at *
  simp only [hj] at *
  rw [wanted_put oj a oi.dst v h1] at h
  split
  · rename_i hw
    simp only [hw, if_true] at h
    rcases h with h | ⟨hasks, hlets⟩
    case inr => exact .inr ⟨by unfold Oper.asks at *; rw [execOp_put oj hsj a oi.dst v h1] at hasks; exact hasks, hlets⟩
    refine .inl ?_
    unfold Oper.wp at *
    rw [execOp_put oj hsj a oi.dst v h1] at h
    obtain ⟨u, hu⟩ := hq hw
    rw [hu] at h ⊢
    simp only [Oper.upon] at h ⊢
    exact ⟨trivial, keep a hy u, by rw [← Act.put_comm a v u h2]; exact h⟩
  · rename_i hw
    simp only [hw] at h
    exact ⟨trivial, keep a hy _, by rw [← Act.put_comm a v Go.undef h2]; exact h⟩

theorem wpCalm_first {i : Nat} {oi : Oper} {v : Value} (hi : ops[i]? = some oi) (hsel : ∀ (j : Nat) (o : Oper) cs b, ops[j]? = some o → o.op ≠ .select cs b)
    (hQ : ∀ c a w, Q (.panic c) (a.put oi.dst v) w → Q (.panic c) a w) :
    ∀ (fuel : Nat) (listed : Array Bool) (a : Act) (w : World),
      (∀ j oj, ops[j]? = some oj → j ≠ i → listed.getD j true = false → (∀ e ∈ oj.after, Region.binds md e = true → e.on ≠ i) → oi.apart ops oj = true) →
      i ∈ Region.ready md ops listed → Yields P ops oi v a →
      wpCalm T P md ops Q fuel (listed.setIfInBounds i true) (a.put oi.dst v) w → wpCalm T P md ops Q (fuel + 1) listed a w := by
  intro fuel
  induction fuel with
  | zero =>
    intro listed a w _ hr hy H
    refine ⟨fun h => (by rw [h] at hr; cases hr), fun j hj => ?_⟩
    by_cases hji : j = i
    · subst hji; exact ⟨(yieldsW hy w).calm hi, hy.wpOp hi H⟩
    · have := ready_mono hj hji
      rw [H.1] at this
      cases this
  | succ fuel ih =>
    intro listed a w hfree hr hy H
    refine ⟨fun h => (by rw [h] at hr; cases hr), fun j hj => ?_⟩
    by_cases hji : j = i
    · subst hji; exact ⟨(yieldsW hy w).calm hi, hy.wpOp hi H⟩
    · have h1 := H.2 j (ready_mono hj hji)
      obtain ⟨hjun, oj, hoj, hall⟩ := mem_ready.1 hj
      have hnot : ∀ e ∈ oj.after, Region.binds md e = true → e.on ≠ i := fun e he hb heq => by
        have h1 := hall e he hb
        have h0 := (mem_ready.1 hr).1
        rw [heq] at h1
        rcases Nat.lt_or_ge i listed.size with h' | h'
        · simp [h'] at h0 h1; rw [h0] at h1; cases h1
        · simp [Array.getElem?_eq_none h'] at h1
      have hap := hfree j oj hoj hji hjun hnot
      have hc := Calm.put hoj hap (fun cs b => hsel j oj cs b hoj) h1.1
      have h2 := wpOp_put hoj hap (fun cs b => hsel i oi cs b hi) (fun cs b => hsel j oj cs b hoj) hQ hy h1.2
      have hfree' : ∀ k ok, ops[k]? = some ok → k ≠ i → (listed.setIfInBounds j true).getD k true = false → (∀ e ∈ ok.after, Region.binds md e = true → e.on ≠ i) → oi.apart ops ok = true := fun k ok hk hki hun hno => by
        refine hfree k ok hk hki ?_ hno
        by_cases hjk : j = k
        · subst hjk; exact hjun
        · rw [getD_set_ne true hjk] at hun; exact hun
      refine ⟨hc, wpOp_mono (fun a' w' h3 => ?_) h2⟩
      obtain ⟨h4, h5⟩ := h3
      refine ih (listed.setIfInBounds j true) a' w' hfree' (ready_mono hr (Ne.symm hji)) h4 ?_
      rw [Array.setIfInBounds_comm _ _ hji]
      exact h5

theorem wpCalm_firstR {i : Nat} {oi : Oper} {v : Value} {B : List Nat} (hi : ops[i]? = some oi) (hsel : ∀ (j : Nat) (o : Oper) cs b, ops[j]? = some o → o.op ≠ .select cs b)
    (hQ : ∀ c a w, Q (.panic c) (a.put oi.dst v) w → Q (.panic c) a w) :
    ∀ (fuel : Nat) (listed : Array Bool) (a : Act) (w : World),
      (∀ b ∈ B, listed.getD b false = false ∧ ∃ ob, ops[b]? = some ob ∧ ∃ e ∈ ob.after, Region.binds md e = true ∧ (e.on = i ∨ e.on ∈ B)) →
      (∀ j oj, ops[j]? = some oj → j ≠ i → listed.getD j true = false → j ∉ B → oi.apart ops oj = true ∧ kindOf T oj.op ≤ 1) →
      i ∈ Region.ready md ops listed → YieldsW P ops oi v a w →
      wpCalm T P md ops Q fuel (listed.setIfInBounds i true) (a.put oi.dst v) w → wpCalm T P md ops Q (fuel + 1) listed a w := by
  intro fuel
  induction fuel with
  | zero =>
    intro listed a w _ _ hr hy H
    refine ⟨fun h => (by rw [h] at hr; cases hr), fun j hj => ?_⟩
    by_cases hji : j = i
    · subst hji; exact ⟨hy.calm hi, hy.wpOp hi H⟩
    · have := ready_mono hj hji
      rw [H.1] at this
      cases this
  | succ fuel ih =>
    intro listed a w hB hfree hr hy H
    refine ⟨fun h => (by rw [h] at hr; cases hr), fun j hj => ?_⟩
    by_cases hji : j = i
    · subst hji; exact ⟨hy.calm hi, hy.wpOp hi H⟩
    · have h1 := H.2 j (ready_mono hj hji)
      obtain ⟨hjun, oj, hoj, hall⟩ := mem_ready.1 hj
      have hi0 : listed.getD i false = false := by
        have h0 := (mem_ready.1 hr).1
        cases hg : listed[i]? with
        | none => simp [hg]
        | some b => rw [Array.getD_eq_getD_getElem?, hg] at h0; simp at h0; simp [hg, h0]
      have hnB : j ∉ B := by
        intro hjB
        obtain ⟨_, ob, hob, e, he, hbd, hon⟩ := hB j hjB
        rw [hoj] at hob
        injection hob with hob
        subst hob
        have hl := hall e he hbd
        rcases hon with hon | hon
        · rw [hon, hi0] at hl; cases hl
        · rw [(hB e.on hon).1] at hl; cases hl
      obtain ⟨hap, hqj⟩ := hfree j oj hoj hji hjun hnB
      have hc := Calm.put hoj hap (fun cs b => hsel j oj cs b hoj) h1.1
      have h2 := wpOp_putW hoj hap (fun cs b => hsel i oi cs b hi) (fun cs b => hsel j oj cs b hoj) (hc oj hoj hqj) hQ hy h1.2
      have hjlt : j < listed.size := by
        cases hg : listed[j]? with
        | none => rw [Array.getD_eq_getD_getElem?, hg] at hjun; cases hjun
        | some b => exact (Array.getElem?_eq_some_iff.1 hg).1
      have hB' : ∀ b ∈ B, (listed.setIfInBounds j true).getD b false = false ∧ ∃ ob, ops[b]? = some ob ∧ ∃ e ∈ ob.after, Region.binds md e = true ∧ (e.on = i ∨ e.on ∈ B) := fun b hb => by
        obtain ⟨g1, g2⟩ := hB b hb
        have hne : j ≠ b := fun e => hnB (e ▸ hb)
        exact ⟨by rw [getD_set_ne false hne]; exact g1, g2⟩
      have hfree' : ∀ k ok, ops[k]? = some ok → k ≠ i → (listed.setIfInBounds j true).getD k true = false → k ∉ B → oi.apart ops ok = true ∧ kindOf T ok.op ≤ 1 := fun k ok hk hki hun hkB => by
        refine hfree k ok hk hki ?_ hkB
        by_cases hjk : j = k
        · subst hjk; exact hjun
        · rw [getD_set_ne true hjk] at hun; exact hun
      refine ⟨hc, wpOp_mono (fun a' w' h3 => ?_) h2⟩
      obtain ⟨e1, h4, h5⟩ := h3
      subst e1
      refine ih (listed.setIfInBounds j true) a' w' hB' hfree' (ready_mono hr (Ne.symm hji)) h4 ?_
      rw [Array.setIfInBounds_comm _ _ hji]
      exact h5

end

/-- a plan for a region: which operation is taken next, or all that may come -/
inductive Plan where
  | done
  | p (i : Nat) (r : Plan)
  | r (i : Nat) (B : List Nat) (r : Plan)
  | all (l : List Nat) (f : Nat → Plan)

def allK : List Nat → (Nat → Prop) → Prop
  | [], _ => True
  | [i], P => P i
  | i :: r, P => P i ∧ allK r P

theorem allK_mem {P : Nat → Prop} : ∀ {l : List Nat}, allK l P → ∀ i ∈ l, P i
  | [], _, i, hi => by cases hi
  | [j], h, i, hi => by
    have : i = j := by simpa using hi
    subst this
    exact h
  | j :: k :: r, h, i, hi => by
    cases hi with
    | head => exact h.1
    | tail _ hi => exact allK_mem h.2 i hi

def planOk (T : TT) (ops : Array Oper) : Nat → Array Bool → Plan → Bool
  | _, listed, .done => (Region.ready .any ops listed).isEmpty
  | 0, _, _ => false
  | fuel + 1, listed, .p i r => (Region.ready .any ops listed).contains i && Region.free .any ops listed i && (match ops[i]? with | some o => kindOf T o.op == 0 | none => false) && planOk T ops fuel (listed.setIfInBounds i true) r
  | fuel + 1, listed, .r i B r => (Region.ready .any ops listed).contains i && (match ops[i]? with | some o => kindOf T o.op ≤ 1 | none => false) &&
      (B.all fun b => !listed.getD b false && (match ops[b]? with | some ob => ob.after.any fun e => Region.binds .any e && (e.on == i || B.contains e.on) | none => false)) &&
      ((List.range ops.size).all fun j => j == i || listed.getD j true || B.contains j || (match ops[i]?, ops[j]? with | some oi, some oj => oi.apart ops oj && kindOf T oj.op ≤ 1 | _, _ => false)) &&
      planOk T ops fuel (listed.setIfInBounds i true) r
  | fuel + 1, listed, .all l f => (Region.ready .any ops listed == l) && !l.isEmpty && l.all fun i => planOk T ops fuel (listed.setIfInBounds i true) (f i)

def vcPlan (E : Env) (n : Nat) (ops : List Oper) : Plan → Fr → H → (Fr → H → Prop) → Prop
  | .done, fr, h, K => K fr h
  | .p i r, fr, h, K => match ops[i]? with
    | some o => vcGd E n ops o fr h fun fr h => vcPlan E n ops r fr h K
    | none => False
  | .r i _ r, fr, h, K => match ops[i]? with
    | some o => vcGd E n ops o fr h fun fr h => vcPlan E n ops r fr h K
    | none => False
  | .all l f, fr, h, K => allK l fun i => match ops[i]? with
    | some o => vcGd E n ops o fr h fun fr h => vcPlan E n ops (f i) fr h K
    | none => False

section
variable {E : Env} {n : Nat} {base : Nat} {W0 : World} {β : Bt} {nxt : Nat} {h : H} {w : World} {fr : Fr} {a : Act}

/-- what a quiet step gives -/
theorem vcGd_quiet {ops : Array Oper} {o : Oper} {K : Fr → H → Prop} (hkd : kindOf E.T o.op ≤ 1) (s : Sim base W0 β nxt h w) (hf : FrRel β fr a) (hs : a.tmps.size = n) (hk : vcGd E n ops.toList o fr h K) :
    ∃ cv fr', FrRel β fr' (a.put o.dst cv) ∧ K fr' h ∧ YieldsW E.P ops o cv a w ∧ (kindOf E.T o.op = 0 → Yields E.P ops o cv a) := by
  have one : vcOne E n o fr h K → ∃ cv fr', FrRel β fr' (a.put o.dst cv) ∧ K fr' h ∧ (execOp a.eval o).run E.P w = .ok (.value cv) w ∧ (kindOf E.T o.op = 0 → ∀ w, (execOp a.eval o).run E.P w = .ok (.value cv) w) := by
    intro hk
    unfold vcOne at hk
    split at hk
    · obtain ⟨v, cv, r, g, k⟩ := vcP_sound (P := E.P) E.tok hf hk
      obtain ⟨hd, k⟩ := afterK_spec k
      exact ⟨cv, _, hf.put o.dst (dstOk_spec hd hs) r, k, g w, fun _ => g⟩
    · rename_i h1
      obtain ⟨v, cv, r, g, k⟩ := vcR_sound (P := E.P) E.tok s hf hk
      obtain ⟨hd, k⟩ := afterK_spec k
      exact ⟨cv, _, hf.put o.dst (dstOk_spec hd hs) r, k, g, fun h0 => by rw [h1] at h0; cases h0⟩
    · rename_i h0 h1
      exfalso
      have : kindOf E.T o.op = 0 ∨ kindOf E.T o.op = 1 := by omega
      rcases this with h | h
      · exact h0 h
      · exact h1 h
  have skip : vcSkip n o fr h K → ∃ fr', FrRel β fr' (a.put o.dst Go.undef) ∧ K fr' h := by
    intro hk
    unfold vcSkip at hk
    obtain ⟨hd, hk⟩ := afterK_spec hk
    exact ⟨_, hf.put o.dst (dstOk_spec hd hs) .undef, hk⟩
  have yes : Region.wanted o (yielded ops a.tmps) = true → vcOne E n o fr h K → ∃ cv fr', FrRel β fr' (a.put o.dst cv) ∧ K fr' h ∧ YieldsW E.P ops o cv a w ∧ (kindOf E.T o.op = 0 → Yields E.P ops o cv a) := by
    intro hw hk
    obtain ⟨cv, fr', h1, h2, h3, h4⟩ := one hk
    exact ⟨cv, fr', h1, h2, .inl ⟨hw, h3⟩, fun h0 => .inl ⟨hw, h4 h0⟩⟩
  have no : Region.wanted o (yielded ops a.tmps) = false → vcSkip n o fr h K → ∃ cv fr', FrRel β fr' (a.put o.dst cv) ∧ K fr' h ∧ YieldsW E.P ops o cv a w ∧ (kindOf E.T o.op = 0 → Yields E.P ops o cv a) := by
    intro hw hk
    obtain ⟨fr', h1, h2⟩ := skip hk
    exact ⟨Go.undef, fr', h1, h2, .inr ⟨hw, rfl⟩, fun _ => .inr ⟨hw, rfl⟩⟩
  unfold vcGd at hk
  split at hk
  · rename_i hg
    exact yes (by simp [Region.wanted, hg]) hk
  · rename_i j want hg
    split at hk
    · contradiction
    · rename_i d hd
      have hy := gslot_yielded (a := a) hd
      have hrel := hf.1 d
      split at hk
      · rename_i c hc
        rw [hc] at hrel
        have hb : a.tmps.getD d Go.undef = .bool c := by
          generalize a.tmps.getD d Go.undef = v at hrel
          cases hrel
          rfl
        rw [getD_bool hb] at hy
        simp only at hy
        cases want with
        | true =>
          have hk := hk.out
          cases c with
          | true => exact yes (by simp [Region.wanted, hg, hy]) (by simpa using hk)
          | false => exact no (by simp [Region.wanted, hg, hy]) (by simpa using hk)
        | false =>
          have hk := hk.out
          cases c with
          | true => exact no (by simp [Region.wanted, hg, hy]) (by simpa using hk)
          | false => exact yes (by simp [Region.wanted, hg, hy]) (by simpa using hk)
      · rename_i hc
        rw [hc] at hrel
        have hb : a.tmps.getD d Go.undef = Go.undef := by
          generalize a.tmps.getD d Go.undef = v at hrel
          cases hrel
          rfl
        rw [getD_undef hb] at hy
        exact no (by simp [Region.wanted, hg, hy]) hk
      · contradiction

theorem vcPlan_sound {ops : Array Oper} {K : Fr → H → Prop} {Q' : Exit → Act → World → Prop} (hsel : Region.noSelect ops = true) (hQ : ∀ c a w, ¬ Q' (.panic c) a w) :
    ∀ (pl : Plan) (fuel : Nat) (listed : Array Bool) (β : Bt) (nxt : Nat) (h : H) (w : World) (fr : Fr) (a : Act), planOk E.T ops fuel listed pl = true → Sim base W0 β nxt h w → FrRel β fr a → a.tmps.size = n →
    vcPlan E n ops.toList pl fr h K → Goes E n base W0 β nxt K (fun a w => Q' .normal a w) → wpCalm E.T E.P .any ops Q' fuel listed a w := by
  have hsel' := Region.noSelect_spec hsel
  intro pl
  induction pl with
  | done =>
    intro fuel listed β nxt h w fr a hok s hf hs hk hn
    have hr : Region.ready .any ops listed = [] := by
      cases fuel <;> simpa [planOk] using hok
    have := hn β nxt h w fr a (Ext.refl β) (Nat.le_refl _) s hf hs hk
    cases fuel with
    | zero => exact ⟨hr, this⟩
    | succ fuel => exact ⟨fun _ => this, fun i hi => by rw [hr] at hi; cases hi⟩
  | p i r ih =>
    intro fuel listed β nxt h w fr a hok s hf hs hk hn
    cases fuel with
    | zero => cases hok
    | succ fuel =>
      simp only [planOk, Bool.and_eq_true] at hok
      obtain ⟨⟨⟨h1, h2⟩, h3⟩, h4⟩ := hok
      simp only [vcPlan] at hk
      split at hk
      · rename_i o ho
        have ho' : ops[i]? = some o := by simpa using ho
        rw [ho'] at h3
        have h3 : kindOf E.T o.op = 0 := by simpa using h3
        obtain ⟨cv, fr', g1, g2, g3, g4⟩ := vcGd_quiet (by omega) s hf hs hk
        exact wpCalm_first ho' hsel' (fun c a w hq => absurd hq (hQ c _ w)) fuel listed a w (Region.free_spec ho' h2) (by simpa using h1) (g4 h3)
          (ih fuel _ β nxt h w fr' _ h4 s g1 ((put_size a _ _).trans hs) g2 hn)
      · contradiction
  | r i B r ih =>
    intro fuel listed β nxt h w fr a hok s hf hs hk hn
    cases fuel with
    | zero => cases hok
    | succ fuel =>
      simp only [planOk, Bool.and_eq_true] at hok
      obtain ⟨⟨⟨⟨h1, h2⟩, h3⟩, h4⟩, h5⟩ := hok
      simp only [vcPlan] at hk
      split at hk
      · rename_i o ho
        have ho' : ops[i]? = some o := by simpa using ho
        rw [ho'] at h2
        have h2 : kindOf E.T o.op ≤ 1 := by simpa using h2
        obtain ⟨cv, fr', g1, g2, g3, g4⟩ := vcGd_quiet h2 s hf hs hk
        refine wpCalm_firstR (B := B) ho' hsel' (fun c a w hq => absurd hq (hQ c _ w)) fuel listed a w ?_ ?_ (by simpa using h1) g3 (ih fuel _ β nxt h w fr' _ h5 s g1 ((put_size a _ _).trans hs) g2 hn)
        · intro b hb
          have := List.all_eq_true.1 h3 b hb
          simp only [Bool.and_eq_true, Bool.not_eq_true'] at this
          refine ⟨this.1, ?_⟩
          have h6 := this.2
          cases hob : ops[b]? with
          | none => rw [hob] at h6; cases h6
          | some ob =>
            rw [hob] at h6
            obtain ⟨e, he, hbd⟩ := Array.any_eq_true'.1 h6
            simp only [Bool.and_eq_true, Bool.or_eq_true, beq_iff_eq, List.contains_iff_mem] at hbd
            exact ⟨ob, rfl, e, he, hbd.1, hbd.2⟩
        · intro j oj hj hne hun hnB
          have hlt : j < ops.size := (Array.getElem?_eq_some_iff.1 hj).1
          have := List.all_eq_true.1 h4 j (List.mem_range.2 hlt)
          rw [ho', hj] at this
          simp only [Bool.or_eq_true, beq_iff_eq, hne, false_or, hun, Bool.false_eq_true, List.contains_iff_mem, hnB, Bool.and_eq_true] at this
          exact ⟨this.1, by simpa using this.2⟩
      · contradiction
  | all l f ih =>
    intro fuel listed β nxt h w fr a hok s hf hs hk hn
    cases fuel with
    | zero => cases hok
    | succ fuel =>
      simp only [planOk, Bool.and_eq_true, beq_iff_eq, Bool.not_eq_true'] at hok
      obtain ⟨⟨h1, h2⟩, h3⟩ := hok
      refine ⟨fun h0 => (by rw [h1] at h0; subst h0; cases h2), fun i hi => ?_⟩
      rw [h1] at hi
      simp only [vcPlan] at hk
      have hki := allK_mem hk i hi
      have hoki := List.all_eq_true.1 h3 i hi
      split at hki
      · rename_i o ho
        have ho' : ops[i]? = some o := by simpa using ho
        refine ⟨fun o2 ho2 hk2 hw2 => ?_, ?_⟩
        · rw [ho'] at ho2
          injection ho2 with ho2
          subst ho2
          obtain ⟨cv, fr', g1, g2, g3, g4⟩ := vcGd_quiet hk2 s hf hs hki
          exact g3.calm ho' o ho' hk2 hw2 (T := E.T)
        unfold wpOp
        simp only [ho']
        have := vcGd_sound (Q' := Q') s hf hs hki (next := wpCalm E.T E.P .any ops Q' fuel (listed.setIfInBounds i true)) fun β' nxt' h' w' fr' a' he hx s' hf' hs' hk' =>
          ih i fuel _ β' nxt' h' w' fr' a' hoki s' hf' hs' hk' fun β2 nxt2 h2 w2 fr2 a2 he2 hx2 s2 hf2 hs2 hk2 => hn β2 nxt2 h2 w2 fr2 a2 (he.trans he2) (Nat.le_trans hx hx2) s2 hf2 hs2 hk2
        split
        · rename_i hw; rw [if_pos hw] at this; exact .inl this
        · rename_i hw; rw [if_neg hw] at this; exact this
      · contradiction

theorem AW.draw {id : Nat} {ops : Array Oper} {Q : Exit → Fr → H → Prop} (pl : Plan) (hsel : Region.noSelect ops = true) (hok : planOk E.T ops ops.size (Array.replicate ops.size false) pl = true)
    (hk : vcPlan E n ops.toList pl fr h fun fr h => Q .normal fr h) : AW E n (.region id ops true) fr h Q := by
  refine ⟨fun base W0 β nxt a w s hf hs => wp_region_any E.mixed ?_⟩
  exact (vcPlan_sound (K := fun fr h => Q .normal fr h) hsel (fun c a w hq => hq) pl _ _ β nxt h _ fr a hok s.drew hf hs hk fun β' nxt' h' w' fr' a' he hx s' hf' hs' hk' => ⟨β', nxt', fr', h', he, hx, s', hf', hs', hk'⟩).any

end

end Go.Proofs.Ytcepogfmajlcjaa.Ab
