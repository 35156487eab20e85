/-
  The library's thirteenth text proves the rules by which code is walked in abstract values.
  It holds no condition of its own.
-/
import Derived.Test.YtcepogfmajlcjaaAb12
set_option linter.unusedVariables false
set_option linter.unusedSimpArgs false
namespace Go.Proofs.Ytcepogfmajlcjaa.Ab
open Go.RowKit

def kindOf (T : TT) : Op → Nat
  | .load _ _ => 1
  | .convert s t _ => match textD T s t with
    | true => 1
    | false => 0
  | .store _ _ _ => 2
  | .alloc _ => 2
  | .box _ _ => 2
  | .buildSlice _ _ _ => 2
  | .makeSlice _ _ _ => 2
  | .makeMap _ _ => 2
  | .mapUpdate _ _ _ _ => 2
  | .insert _ _ _ _ => 2
  | .lookup _ _ _ _ => 2
  | .call c => match c.callee with
    | .builtin .len => 0
    | .builtin .max => 0
    | .builtin .min => 0
    | _ => 2
  | _ => 0

def dstOk (n : Nat) : Option Tmp → Bool
  | none => true
  | some d => Nat.ble (d + 1) n

/-- what comes behind an operation's value -/
def afterK (n : Nat) (dst : Option Tmp) (fr : Fr) (v : AV) (K : Fr → Prop) : Prop :=
  match dst with
  | none => K fr
  | some d => match Nat.ble (d + 1) n with
    | true => force v fun v => K ((d, v) :: fr)
    | false => False

theorem afterK_spec {n : Nat} {dst : Option Tmp} {fr : Fr} {v : AV} {K : Fr → Prop} (h : afterK n dst fr v K) : dstOk n dst = true ∧ K (put fr dst v) := by
  unfold afterK at h
  split at h
  · exact ⟨rfl, h⟩
  · split at h
    · rename_i hd
      rw [force_eq] at h
      exact ⟨hd, h⟩
    · contradiction

def vcOne (E : Env) (n : Nat) (o : Oper) (fr : Fr) (h : H) (K : Fr → H → Prop) : Prop :=
  match kindOf E.T o.op with
  | 0 => vcP E.T o.op fr fun v => afterK n o.dst fr v fun fr => K fr h
  | 1 => vcR E.T o.op fr h fun v => afterK n o.dst fr v fun fr => K fr h
  | _ => vcW E o.op fr h fun v h' => afterK n o.dst fr v fun fr => K fr h'

def vcSkip (n : Nat) (o : Oper) (fr : Fr) (h : H) (K : Fr → H → Prop) : Prop := afterK n o.dst fr .undef fun fr => K fr h

def gslot (ops : List Oper) (j : Nat) : Option Tmp :=
  match ops[j]? with
  | some o => o.dst
  | none => none

def vcGd (E : Env) (n : Nat) (ops : List Oper) (o : Oper) (fr : Fr) (h : H) (K : Fr → H → Prop) : Prop :=
  match o.guard with
  | none => vcOne E n o fr h K
  | some (j, want) => match gslot ops j with
    | none => False
    | some d => match lget fr d with
      | .bool c => match want with
        | true => Br c (vcOne E n o fr h K) (vcSkip n o fr h K)
        | false => Br c (vcSkip n o fr h K) (vcOne E n o fr h K)
      | .undef => vcSkip n o fr h K
      | _ => False

def vcOps (E : Env) (n : Nat) (ops : List Oper) : List Oper → Fr → H → (Fr → H → Prop) → Prop
  | [], fr, h, K => K fr h
  | o :: r, fr, h, K => vcGd E n ops o fr h fun fr h => vcOps E n ops r fr h K

/-- what is promised of the end of a piece of code -/
def lift (base : Nat) (W0 : World) (β : Bt) (nxt n : Nat) (Q : Exit → Fr → H → Prop) : Exit → Act → World → Prop
  | .panic _, _, _ => False
  | .outgrown, _, _ => False
  | e, a, w => ∃ β' nxt' fr h, Ext β β' ∧ nxt ≤ nxt' ∧ Sim base W0 β' nxt' h w ∧ FrRel β' fr a ∧ a.tmps.size = n ∧ Q e fr h

structure AW (E : Env) (n : Nat) (c : Code) (fr : Fr) (h : H) (Q : Exit → Fr → H → Prop) : Prop where
  run : ∀ (base : Nat) (W0 : World) (β : Bt) (nxt : Nat) (a : Act) (w : World), Sim base W0 β nxt h w → FrRel β fr a → a.tmps.size = n → c.wp E.P (lift base W0 β nxt n Q) a w

section
variable {E : Env} {n : Nat} {base : Nat} {W0 : World} {β : Bt} {nxt : Nat} {h : H} {w : World} {fr : Fr} {a : Act} {Q : Exit → Fr → H → Prop}

theorem lift.ext {β' : Bt} {nxt' : Nat} {e : Exit} (he : Ext β β') (hn : nxt ≤ nxt') (l : lift base W0 β' nxt' n Q e a w) : lift base W0 β nxt n Q e a w := by
  cases e <;> first
    | exact l
    | (obtain ⟨β2, nxt2, fr, h, h1, h2, rest⟩ := l
       exact ⟨β2, nxt2, fr, h, he.trans h1, Nat.le_trans hn h2, rest⟩)

theorem put_size (a : Act) (d : Option Tmp) (v : Value) : (a.put d v).tmps.size = a.tmps.size := by
  cases d <;> simp [Act.put]

theorem dstOk_spec {d : Option Tmp} (hd : dstOk n d = true) (hs : a.tmps.size = n) : ∀ x, d = some x → x < a.tmps.size := by
  intro x hx
  subst hx
  have h1 : x + 1 ≤ n := Nat.le_of_ble_eq_true hd
  rw [hs]
  exact h1

/-- where an operation leads, in abstract values -/
def Goes (E : Env) (n : Nat) (base : Nat) (W0 : World) (β : Bt) (nxt : Nat) (K : Fr → H → Prop) (next : Act → World → Prop) : Prop :=
  ∀ β' nxt' h' w' fr' a', Ext β β' → nxt ≤ nxt' → Sim base W0 β' nxt' h' w' → FrRel β' fr' a' → a'.tmps.size = n → K fr' h' → next a' w'

theorem vcOne_sound {o : Oper} {K : Fr → H → Prop} {next : Act → World → Prop} {Q' : Exit → Act → World → Prop} (s : Sim base W0 β nxt h w) (hf : FrRel β fr a) (hs : a.tmps.size = n) (hk : vcOne E n o fr h K)
    (hn : Goes E n base W0 β nxt K next) : o.wp E.P a w next Q' := by
  unfold vcOne at hk
  split at hk
  · obtain ⟨v, cv, r, g, k⟩ := vcP_sound (P := E.P) E.tok hf hk
    obtain ⟨hd, k⟩ := afterK_spec k
    unfold Oper.wp
    rw [g w]
    exact hn β nxt h w _ _ (Ext.refl β) (Nat.le_refl _) s (hf.put o.dst (dstOk_spec hd hs) r) ((put_size a _ _).trans hs) k
  · obtain ⟨v, cv, r, g, k⟩ := vcR_sound (P := E.P) E.tok s hf hk
    obtain ⟨hd, k⟩ := afterK_spec k
    unfold Oper.wp
    rw [g]
    exact hn β nxt h w _ _ (Ext.refl β) (Nat.le_refl _) s (hf.put o.dst (dstOk_spec hd hs) r) ((put_size a _ _).trans hs) k
  · refine vcW_sound s hf hk next Q' fun β' nxt' h' w' v cv he hx r s' k => ?_
    obtain ⟨hd, k⟩ := afterK_spec k
    exact hn β' nxt' h' w' _ _ he hx s' ((hf.mono he).put o.dst (dstOk_spec hd hs) r) ((put_size a _ _).trans hs) k

theorem vcSkip_sound {o : Oper} {K : Fr → H → Prop} {next : Act → World → Prop} (s : Sim base W0 β nxt h w) (hf : FrRel β fr a) (hs : a.tmps.size = n) (hk : vcSkip n o fr h K)
    (hn : Goes E n base W0 β nxt K next) : next (a.put o.dst Go.undef) w := by
  unfold vcSkip at hk
  obtain ⟨hd, hk⟩ := afterK_spec hk
  exact hn β nxt h w _ _ (Ext.refl β) (Nat.le_refl _) s (hf.put o.dst (dstOk_spec hd hs) .undef) ((put_size a _ _).trans hs) hk

theorem gslot_yielded {ops : Array Oper} {j : Nat} {d : Tmp} (hg : gslot ops.toList j = some d) : yielded ops a.tmps j = (match a.tmps[d]? with | some (.bool b) => some b | _ => none) := by
  unfold gslot at hg
  unfold yielded
  split at hg
  · rename_i o ho
    have : ops[j]? = some o := by simpa using ho
    rw [this]
    simp [hg]
    rfl
  · cases hg

theorem getD_bool {d : Nat} {c : Bool} (h : a.tmps.getD d Go.undef = .bool c) : a.tmps[d]? = some (.bool c) := by
  rw [Array.getD_eq_getD_getElem?] at h
  cases hd : a.tmps[d]? with
  | none => rw [hd] at h; cases h
  | some v => rw [hd] at h; simp at h; rw [h]

theorem getD_undef {d : Nat} (h : a.tmps.getD d Go.undef = Go.undef) : (match a.tmps[d]? with | some (.bool b) => some b | _ => none) = none := by
  rw [Array.getD_eq_getD_getElem?] at h
  cases hd : a.tmps[d]? with
  | none => rfl
  | some v => rw [hd] at h; simp at h; subst h; rfl

theorem vcGd_sound {ops : Array Oper} {o : Oper} {K : Fr → H → Prop} {next : Act → World → Prop} {Q' : Exit → Act → World → Prop} (s : Sim base W0 β nxt h w) (hf : FrRel β fr a) (hs : a.tmps.size = n) (hk : vcGd E n ops.toList o fr h K)
    (hn : Goes E n base W0 β nxt K next) : if Region.wanted o (yielded ops a.tmps) then o.wp E.P a w next Q' else next (a.put o.dst Go.undef) w := by
  unfold vcGd at hk
  split at hk
  · rename_i hg
    have : Region.wanted o (yielded ops a.tmps) = true := by simp [Region.wanted, hg]
    rw [if_pos this]
    exact vcOne_sound s hf hs hk hn
  · rename_i j want hg
    split at hk
    · contradiction
    · rename_i d hd
      have hy := gslot_yielded (a := a) hd
      have hrel := hf.1 d
      split at hk
      · rename_i c hc
        rw [hc] at hrel
        have hb : a.tmps.getD d Go.undef = .bool c := by
          generalize a.tmps.getD d Go.undef = v at hrel
          cases hrel
          rfl
        rw [getD_bool hb] at hy
        simp only at hy
        cases want with
        | true =>
          have hk := hk.out
          cases c with
          | true =>
            rw [if_pos (by simp [Region.wanted, hg, hy])]
            exact vcOne_sound s hf hs (by simpa using hk) hn
          | false =>
            rw [if_neg (by simp [Region.wanted, hg, hy])]
            exact vcSkip_sound s hf hs (by simpa using hk) hn
        | false =>
          have hk := hk.out
          cases c with
          | true =>
            rw [if_neg (by simp [Region.wanted, hg, hy])]
            exact vcSkip_sound s hf hs (by simpa using hk) hn
          | false =>
            rw [if_pos (by simp [Region.wanted, hg, hy])]
            exact vcOne_sound s hf hs (by simpa using hk) hn
      · rename_i hc
        rw [hc] at hrel
        have hb : a.tmps.getD d Go.undef = Go.undef := by
          generalize a.tmps.getD d Go.undef = v at hrel
          cases hrel
          rfl
        rw [getD_undef hb] at hy
        rw [if_neg (by simp [Region.wanted, hg, hy])]
        exact vcSkip_sound s hf hs hk hn
      · contradiction

theorem vcOps_sound {ops : Array Oper} {K : Fr → H → Prop} {Q' : Exit → Act → World → Prop} : ∀ (l : List Oper) (β : Bt) (nxt : Nat) (h : H) (w : World) (fr : Fr) (a : Act), Sim base W0 β nxt h w → FrRel β fr a → a.tmps.size = n →
    vcOps E n ops.toList l fr h K → Goes E n base W0 β nxt K (fun a w => Q' .normal a w) → wpList E.P ops Q' l a w
  | [], β, nxt, h, w, fr, a, s, hf, hs, hk, hn => hn β nxt h w fr a (Ext.refl β) (Nat.le_refl _) s hf hs hk
  | o :: r, β, nxt, h, w, fr, a, s, hf, hs, hk, hn => by
    refine wpList_step fun K' hK' => ?_
    refine vcGd_sound (K := fun fr h => vcOps E n ops.toList r fr h K) s hf hs hk fun β' nxt' h' w' fr' a' he hx s' hf' hs' hk' => hK' _ _ ?_
    exact vcOps_sound r β' nxt' h' w' fr' a' s' hf' hs' hk' fun β2 nxt2 h2 w2 fr2 a2 he2 hx2 s2 hf2 hs2 hk2 => hn β2 nxt2 h2 w2 fr2 a2 (he.trans he2) (Nat.le_trans hx hx2) s2 hf2 hs2 hk2

theorem AW.region {id : Nat} {ops : Array Oper} (hk : vcOps E n ops.toList ops.toList fr h fun fr h => Q .normal fr h) : AW E n (.region id ops false) fr h Q := by
  refine ⟨fun base W0 β nxt a w s hf hs => wp_region_list ?_⟩
  exact vcOps_sound (K := fun fr h => Q .normal fr h) _ β nxt h w fr a s hf hs hk fun β' nxt' h' w' fr' a' he hx s' hf' hs' hk' => ⟨β', nxt', fr', h', he, hx, s', hf', hs', hk'⟩

def thenK (K : Fr → H → Prop) (Q : Exit → Fr → H → Prop) : Exit → Fr → H → Prop
  | .normal, fr, h => K fr h
  | e, fr, h => Q e fr h

def blockK (id : Nat) (Q : Exit → Fr → H → Prop) : Exit → Fr → H → Prop
  | .exit j, fr, h => match Nat.beq j id with
    | true => Q .normal fr h
    | false => Q (.exit j) fr h
  | e, fr, h => Q e fr h

theorem AW.seq {x y : Code} (hk : AW E n x fr h (thenK (fun fr h => AW E n y fr h Q) Q)) : AW E n (.seq x y) fr h Q := by
  refine ⟨fun base W0 β nxt a w s hf hs => wp_seq (wp_mono (hk.run base W0 β nxt a w s hf hs) fun e a' w' l => ?_)⟩
  cases e with
  | normal =>
    obtain ⟨β', nxt', fr', h', he, hx, s', hf', hs', k⟩ := l
    exact wp_mono (k.run base W0 β' nxt' a' w' s' hf' hs') fun e a w l => l.ext he hx
  | _ => exact l

theorem AW.block {id : Nat} {c : Code} (hk : AW E n c fr h (blockK id Q)) : AW E n (.block id c) fr h Q := by
  refine ⟨fun base W0 β nxt a w s hf hs => wp_block (wp_mono (hk.run base W0 β nxt a w s hf hs) fun e a' w' l => ?_)⟩
  cases e with
  | exit j =>
    obtain ⟨β', nxt', fr', h', he, hx, s', hf', hs', k⟩ := l
    unfold blockK at k
    dsimp only at k
    split at k
    · rename_i hj
      have := Nat.eq_of_beq_eq_true hj
      subst this
      simp only [Exit.inBlock, if_true]
      exact ⟨β', nxt', fr', h', he, hx, s', hf', hs', k⟩
    · rename_i hj
      have hne : j ≠ id := by intro e; subst e; rw [Nat.beq_refl] at hj; cases hj
      simp only [Exit.inBlock, hne, if_false]
      exact ⟨β', nxt', fr', h', he, hx, s', hf', hs', k⟩
  | _ => exact l

theorem AW.cond {c : Operand} {x y : Code} {t : Bool} (hc : ev fr c = .bool t) (hk : Br t (AW E n x fr h Q) (AW E n y fr h Q)) : AW E n (.cond c x y) fr h Q := by
  refine ⟨fun base W0 β nxt a w s hf hs => ?_⟩
  have hr := hf.ev c
  rw [hc] at hr
  have hv : a.eval c = .bool t := by
    generalize a.eval c = v at hr
    cases hr
    rfl
  refine wp_cond hv ?_
  have := hk.out
  cases t with
  | true => exact AW.run (by simpa using this) base W0 β nxt a w s hf hs
  | false => exact AW.run (by simpa using this) base W0 β nxt a w s hf hs

theorem AW.skip (hk : Q .normal fr h) : AW E n .skip fr h Q :=
  ⟨fun _ _ β nxt _ _ s hf hs => wp_skip ⟨β, nxt, fr, h, Ext.refl β, Nat.le_refl _, s, hf, hs, hk⟩⟩
theorem AW.ret (hk : Q .ret fr h) : AW E n .ret fr h Q :=
  ⟨fun _ _ β nxt _ _ s hf hs => wp_ret ⟨β, nxt, fr, h, Ext.refl β, Nat.le_refl _, s, hf, hs, hk⟩⟩
theorem AW.exit {id : Nat} (hk : Q (.exit id) fr h) : AW E n (.exit id) fr h Q :=
  ⟨fun _ _ β nxt _ _ s hf hs => wp_exit ⟨β, nxt, fr, h, Ext.refl β, Nat.le_refl _, s, hf, hs, hk⟩⟩

/-- less is known of the frame -/
def Less (fr fr' : Fr) : Prop := ∀ p, p ∈ fr' → lget fr p.1 = p.2

theorem Less.nil (fr : Fr) : Less fr [] := fun p h => by cases h
theorem Less.cons {fr fr' : Fr} {k : Nat} {v : AV} (h : lget fr k = v) (r : Less fr fr') : Less fr ((k, v) :: fr') := by
  intro p hp
  cases hp with
  | head => exact h
  | tail _ hp => exact r p hp

theorem AW.less {c : Code} {fr' : Fr} (hl : Less fr fr') (hk : AW E n c fr' h Q) : AW E n c fr h Q :=
  ⟨fun base W0 β nxt a w s hf hs => hk.run base W0 β nxt a w s (hf.less hl) hs⟩

theorem AW.mono {c : Code} {Q' : Exit → Fr → H → Prop} (hk : AW E n c fr h Q) (m : ∀ e fr h, Q e fr h → Q' e fr h) : AW E n c fr h Q' := by
  refine ⟨fun base W0 β nxt a w s hf hs => wp_mono (hk.run base W0 β nxt a w s hf hs) fun e a' w' l => ?_⟩
  cases e <;> first
    | exact l
    | (obtain ⟨β2, nxt2, fr, h, h1, h2, h3, h4, h5, k⟩ := l
       exact ⟨β2, nxt2, fr, h, h1, h2, h3, h4, h5, m _ _ _ k⟩)

/-- a loop: its head's frame and what holds there, by the values of α -/
theorem AW.loop {c : Code} {α : Type} (F : α → Fr) (I : α → H → Prop) (μ : α → Nat) (x0 : α) (hl : Less fr (F x0)) (h0 : I x0 h)
    (round : ∀ x h, I x h → AW E n c (F x) h (thenK (fun fr' h' => ∃ x', Less fr' (F x') ∧ I x' h' ∧ μ x' < μ x) Q)) : AW E n (.loop c) fr h Q := by
  refine .less hl ⟨fun base W0 β nxt a w s hf hs b k cs => ?_⟩
  have key : ∀ (m : Nat) (x : α) (h : H) (β : Bt) (nxt : Nat) (a : Act) (w : World), μ x = m → I x h → Sim base W0 β nxt h w → FrRel β (F x) a → a.tmps.size = n →
      ∃ e a' w', lift base W0 β nxt n Q e a' w' ∧ Arrives E.P (lone (b.at a (.code c :: .inLoop c :: k)) cs w) b k cs e a' w' := by
    intro m
    induction m using Nat.strongRecOn with
    | _ m ih =>
      intro x h β nxt a w hm hI s hf hs
      obtain ⟨e, a1, w1, hq, harr⟩ := (round x h hI).run base W0 β nxt a w s hf hs b (.inLoop c :: k) cs
      cases e with
      | normal =>
        obtain ⟨β', nxt', fr', h', he, hx, s', hf', hs', x', hl', hI', hlt⟩ := hq
        obtain ⟨e2, a2, w2, hq2, harr2⟩ := ih (μ x') (hm ▸ hlt) x' h' β' nxt' a1 w1 rfl hI' s' (hf'.less hl') hs'
        exact ⟨e2, a2, w2, hq2.ext he hx, .of_steps (Steps.trans harr (.one step_inLoop)) harr2⟩
      | exit id =>
        obtain ⟨β', nxt', fr', h', he, hx, s', hf', hs', kk⟩ := hq
        exact ⟨.exit id, a1, w1, ⟨β', nxt', fr', h', he, hx, s', hf', hs', kk⟩, .pass (x := .inLoop c) rfl (fun _ _ => .inl (by simp)) harr⟩
      | goto l =>
        obtain ⟨β', nxt', fr', h', he, hx, s', hf', hs', kk⟩ := hq
        exact ⟨.goto l, a1, w1, ⟨β', nxt', fr', h', he, hx, s', hf', hs', kk⟩, .pass (x := .inLoop c) rfl (fun _ _ => .inl (by simp)) harr⟩
      | ret =>
        obtain ⟨β', nxt', fr', h', he, hx, s', hf', hs', kk⟩ := hq
        exact ⟨.ret, a1, w1, ⟨β', nxt', fr', h', he, hx, s', hf', hs', kk⟩, .pass (x := .inLoop c) rfl (fun _ _ => .inl (by simp)) harr⟩
      | panic ch => exact hq.elim
      | outgrown => exact hq.elim
  obtain ⟨e, a', w', hq, harr⟩ := key _ x0 h β nxt a w rfl h0 s hf hs
  exact ⟨e, a', w', hq, .of_steps (.one step_loop) harr⟩

/-! Entering a function -/
def frame0 : Nat → List AV → Fr
  | _, [] => []
  | k, v :: r => (k, v) :: frame0 (k + 1) r

theorem lget_frame0 : ∀ (l : List AV) (k t : Nat), lget (frame0 k l) t = if k ≤ t then (match l[t - k]? with | some v => v | none => .any) else .any
  | [], k, t => by simp [frame0, lget]
  | v :: r, k, t => by
    unfold frame0
    by_cases h : k = t
    · subst h
      rw [lget_hit]
      simp
    · rw [lget_miss h, lget_frame0 r (k + 1) t]
      by_cases h2 : k + 1 ≤ t
      · have h3 : k ≤ t := by omega
        have h4 : t - k = (t - (k + 1)) + 1 := by omega
        simp [h2, h3, h4]
      · have h3 : ¬ k ≤ t := by omega
        simp [h2, h3]

/-- the results, as values -/
def isTmp : ResultVar → Bool
  | .tmp _ => true
  | .cell _ _ => false

def rvA (fr : Fr) : ResultVar → AV
  | .tmp t => lget fr t
  | .cell _ _ => .any

def rvV (tmps : Array Value) : ResultVar → Value
  | .tmp t => tmps.getD t Go.undef
  | .cell _ _ => Go.undef

def resK (rs : List ResultVar) (fr : Fr) (K : AV → Prop) : Prop :=
  match rs with
  | [.tmp t] => force (lget fr t) K
  | rs => match rs.all isTmp with
    | true => forceL (rs.map (rvA fr)) fun vs => K (.tup vs)
    | false => False

def retK (rs : List ResultVar) (K : AV → H → Prop) : Exit → Fr → H → Prop
  | .ret, fr, h => resK rs fr fun v => K v h
  | .normal, fr, h => resK rs fr fun v => K v h
  | _, _, _ => False

theorem resK_sound {P : Program} {fn : Func} {K : AV → Prop} (hf : FrRel β fr a) (hk : resK fn.results.toList fr K) : ∃ v cv, (results fn a.tmps).run P w = .ok cv w ∧ RV β v cv ∧ K v := by
  unfold resK at hk
  split at hk
  · rename_i t ht
    have e : fn.results = #[.tmp t] := Array.ext' ht
    rw [force_eq] at hk
    exact ⟨_, _, results_tmp e a.tmps P w, hf.1 t, hk⟩
  · rename_i hne
    split at hk
    · rename_i hall
      rw [forceL_eq] at hk
      have key : ∀ (f : ResultVar → Sem Value), (∀ t, f (.tmp t) = Pure.pure (a.tmps.getD t Go.undef)) → ∀ (l : List ResultVar), l.all isTmp = true → (l.mapM f).run P w = .ok (l.map (rvV a.tmps)) w := by
        intro f hfp l
        induction l with
        | nil => intro _; simp
        | cons r l ih =>
          intro h
          simp only [List.all_cons, Bool.and_eq_true] at h
          cases r with
          | tmp t => simp [List.mapM_cons, ih h.2, hfp, rvV]
          | cell a t => exact absurd h.1 (by simp [isTmp])
      refine ⟨_, .tuple (fn.results.toList.map (rvV a.tmps)).toArray, ?_, .tup (by simp) fun i c v hc hv => ?_, hk⟩
      · unfold results
        rw [Array.mapM_eq_mapM_toList]
        simp only [Sem.run_bind, Sem.run_map]
        rw [key _ (fun t => rfl) _ hall]
        simp only [Result.andThen_ok]
        rw [dif_neg]
        · rfl
        · intro h1
          have h2 : fn.results.toList.length = 1 := by simpa using h1
          match hr : fn.results.toList with
          | [] => rw [hr] at h2; cases h2
          | [r] =>
            rw [hr] at hall
            cases r with
            | tmp t => exact hne t hr
            | cell a t => simp [isTmp] at hall
          | _ :: _ :: _ => rw [hr] at h2; simp at h2
      · simp only [List.getElem?_map, List.getElem?_toArray] at hc hv
        cases hr : fn.results.toList[i]? with
        | none => rw [hr] at hc; cases hc
        | some r =>
          rw [hr] at hc hv
          simp only [Option.map_some, Option.some.injEq] at hc hv
          subst hc hv
          cases r with
          | tmp t => exact hf.1 t
          | cell a t => exact .any _
    · contradiction

/-- a function's contract, from its body -/
theorem AC.enter {f : FuncId} {fn : Func} {c : Code} {args : List AV} {n : Nat} {K : AV → H → Prop} (hf : E.P.funcs[f]? = some fn) (hcall : ∀ (vs : Array Value) (w : World), (callFunc f vs).run E.P w = .ok (.enter f vs) w)
    (hb : fn.body = some c) (hn : fn.ntmps = n) (hl : args.length ≤ n) (hk : AW E n c (frame0 0 args) h (retK fn.results.toList K)) : AC E f args h K := by
  refine ⟨hcall, fun base W0 β nxt w vs s r => ?_⟩
  refine calls_of_wp hf hb (wp_mono (hk.run base W0 β nxt _ w s ⟨fun t => ?_, rfl⟩ ?_) fun e a' w' l => ?_)
  · rw [lget_frame0]
    simp only [Nat.zero_le, if_true, Nat.sub_zero]
    have hl2 := r.1
    simp at hl2
    by_cases ht : t < args.length
    · have h1 : args[t]? = some args[t] := by simp [ht]
      rw [h1]
      have h2 : t < vs.size := by omega
      have h3 : (vs ++ Array.replicate (fn.ntmps - vs.size) Go.undef).getD t Go.undef = vs[t] := by
        rw [Array.getD_eq_getD_getElem?, Array.getElem?_append_left h2]
        simp [h2]
      rw [h3]
      exact r.2 t _ _ h1 (by simp [h2])
    · have h1 : args[t]? = none := by simp; omega
      rw [h1]
      exact .any _
  · have hl2 := r.1
    simp at hl2 ⊢
    omega
  · cases e with
    | normal =>
      obtain ⟨β', nxt', fr', h', he, hx, s', hf', hs', k⟩ := l
      obtain ⟨v, cv, h1, h2, h3⟩ := resK_sound (P := E.P) (w := w') (fn := fn) (K := fun v => K v h') hf' k
      exact ⟨hf'.2, cv, h1, v, cv, β', nxt', h', rfl, he, hx, h2, s', h3⟩
    | ret =>
      obtain ⟨β', nxt', fr', h', he, hx, s', hf', hs', k⟩ := l
      obtain ⟨v, cv, h1, h2, h3⟩ := resK_sound (P := E.P) (w := w') (fn := fn) (K := fun v => K v h') hf' k
      exact ⟨hf'.2, cv, h1, v, cv, β', nxt', h', rfl, he, hx, h2, s', h3⟩
    | exit id => obtain ⟨_, _, _, _, _, _, _, _, _, k⟩ := l; exact k.elim
    | goto l' => obtain ⟨_, _, _, _, _, _, _, _, _, k⟩ := l; exact k.elim
    | panic ch => exact l.elim
    | outgrown => exact l.elim

end
end Go.Proofs.Ytcepogfmajlcjaa.Ab
