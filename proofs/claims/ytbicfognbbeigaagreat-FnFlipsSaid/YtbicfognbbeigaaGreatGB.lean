/-
  The library's ninth text says in abstract values what the operations that write or make memory give, and proves it.
  It holds no condition of its own.
-/
import Derived.Test.YtbicfognbbeigaaGreatGA
import Derived.WideKeyMaps
set_option linter.unusedVariables false
set_option linter.unusedSimpArgs false
namespace Go.Proofs.YtbicfognbbeigaaGreat.Ab
open Go.RowKit

/-- a contract of a function, in abstract values -/
structure AC (E : Env) (f : FuncId) (args : List AV) (h : H) (Q : AV → H → Prop) : Prop where
  call : ∀ (vs : Array Value) (w : World), (callFunc f vs).run E.P w = .ok (.enter f vs) w
  run : ∀ (base : Nat) (W0 : World) (β : Bt) (nxt : Nat) (w : World) (vs : Array Value), Sim base W0 β nxt h w → RVs β args vs.toList →
    Calls E.P f vs w fun e w' => ∃ v cv β' nxt' h', e = .returned cv ∧ Ext β β' ∧ nxt ≤ nxt' ∧ RV β' v cv ∧ Sim base W0 β' nxt' h' w' ∧ Q v h'

theorem AC.mono {E : Env} {f : FuncId} {args : List AV} {h : H} {Q Q' : AV → H → Prop} (c : AC E f args h Q) (m : ∀ v h', Q v h' → Q' v h') : AC E f args h Q' :=
  ⟨c.call, fun base W0 β nxt w vs s r => (c.run base W0 β nxt w vs s r).mono fun _ _ ⟨v, cv, β', nxt', h', h1, h2, h3, h4, h5, h6⟩ => ⟨v, cv, β', nxt', h', h1, h2, h3, h4, h5, m v h' h6⟩⟩

inductive StoreG (h : H) (b o : Nat) (v : AV) (K : H → Prop) : Prop where
  | mk (sz : Nat) (cs : List AV) (hb : h b = some (.cells true sz cs)) (ho : o < cs.length) (hv : v.one = true) (hk : K (upd h b (.cells true sz (cs.set o v)))) : StoreG h b o v K

inductive StoresG (h : H) (b o : Nat) (vs : List AV) (K : H → Prop) : Prop where
  | mk (sz : Nat) (cs : List AV) (hb : h b = some (.cells true sz cs)) (ho : o + vs.length ≤ cs.length) (hv : ∀ v ∈ vs, v.one = true)
      (hk : K (upd h b (.cells true sz (cs.take o ++ vs ++ cs.drop (o + vs.length))))) : StoresG h b o vs K

structure NewG (h : H) (x : Blk) (K : Nat → H → Prop) : Prop where
  hk : ∀ b, h b = none → K b (upd h b x)

inductive AppG (h : H) (s : AV) (bytes : Nat) (news : List AV) (m : Nat) (K : AV → H → Prop) : Prop where
  | nil (hs : s = .nilslice) (hm : 0 < m) (hb : m * bytes ≤ 140737488355328) (hk : ∀ b, h b = none → K (.slice b 0 m m) (upd h b (.cells true 1 news))) : AppG h s bytes news m K
  | nil0 (hs : s = .nilslice) (hm : m = 0) (hk : K .nilslice h) : AppG h s bytes news m K
  | grow (b n c : Nat) (cs : List AV) (hs : s = .slice b 0 n c) (hb : h b = some (.cells true 1 cs)) (hn : n ≤ cs.length) (hbytes : (n + m) * bytes ≤ 140737488355328) (h1 : ∀ v ∈ news, v.one = true)
      (hk : ∀ b', h b' = none → K (.slice b' 0 (n + m) (n + m)) (upd (kill h b) b' (.cells true 1 (cs.take n ++ news)))) : AppG h s bytes news m K
  | fits (b n c : Nat) (cs : List AV) (hs : s = .slice b 0 n c) (hb : h b = some (.cells true 1 cs)) (hc : n + m ≤ c) (hl : n + m ≤ cs.length) (h1 : ∀ v ∈ news, v.one = true)
      (hk : K (.slice b 0 (n + m) c) (upd h b (.cells true 1 (cs.take n ++ news ++ cs.drop (n + m))))) : AppG h s bytes news m K
  | none (b n c : Nat) (hs : s = .slice b 0 n c) (hm : m = 0) (hk : K (.slice b 0 n c) h) : AppG h s bytes news m K

/-! Maps: keys that can be held side by side -/
def keyV0 : AV → Value
  | .int q n => .int q n
  | .str s => .string ⟨s.toArray⟩
  | _ => Go.undef
def keyV : AV → Value
  | .agg cs => .agg (cs.map keyV0).toArray
  | v => keyV0 v
def key0 : AV → Bool
  | .int _ _ => true
  | .str _ => true
  | _ => false
def keyA : AV → Bool
  | .agg cs => cs.all key0
  | v => key0 v
structure KOk (P : Program) (k : TypeId) (a : AV) : Prop where
  form : keyA a = true
  lit : ∃ l, Go.keyOf P k (keyV a) = some l

inductive LookG (P : Program) (k : TypeId) (h : H) (b : Nat) (a z : AV) (K : AV → Bool → Prop) : Prop where
  | hit (es : List (AV × AV)) (v : AV) (law : Go.WideMaps.KeyLaw P k) (hb : h b = some (.map es)) (ok : ∀ p ∈ es, KOk P k p.1) (ka : KOk P k a) (hm : (a, v) ∈ es) (hu : ∀ u, (a, u) ∈ es → u = v) (hk : K v true) : LookG P k h b a z K
  | miss (es : List (AV × AV)) (law : Go.WideMaps.KeyLaw P k) (hb : h b = some (.map es)) (ok : ∀ p ∈ es, KOk P k p.1) (ka : KOk P k a) (hno : ∀ u, (a, u) ∉ es) (hk : K z false) : LookG P k h b a z K

inductive MapSetG (P : Program) (k : TypeId) (h : H) (b : Nat) (a v : AV) (K : H → Prop) : Prop where
  | put (es : List (AV × AV)) (law : Go.WideMaps.KeyLaw P k) (hb : h b = some (.map es)) (ok : ∀ p ∈ es, KOk P k p.1) (ka : KOk P k a) (hno : ∀ u, (a, u) ∉ es) (hk : K (upd h b (.map (es ++ [(a, v)])))) : MapSetG P k h b a v K
  | set (es : List (AV × AV)) (n : Nat) (u : AV) (law : Go.WideMaps.KeyLaw P k) (hb : h b = some (.map es)) (ok : ∀ p ∈ es, KOk P k p.1) (ka : KOk P k a) (hn : es[n]? = some (a, u)) (hu : ∀ j w, es[j]? = some (a, w) → j = n)
      (hk : K (upd h b (.map (es.set n (a, v))))) : MapSetG P k h b a v K

def okK (ok : Bool) (K : AV → H → Prop) (h : H) (v : AV) (f : Bool) : Prop :=
  match ok with
  | true => K (.tup [v, .bool f]) h
  | false => K v h

def zcells (i : TI) : List AV := i.zero.cells.toList.map avScalar

def vcApp (T : TT) (h : H) (t : TypeId) (s x : AV) (K : AV → H → Prop) : Prop :=
  match tget T t with
  | none => False
  | some d => match d.desc with
    | .slice e => match tget T e with
      | none => False
      | some j => match j.size, Nat.ble 1 j.bytes with
        | 1, true => match x with
          | .slice b o m _ => LoadsG h b o m fun news => AppG h s j.bytes news m K
          | .nilslice => AppG h s j.bytes [] 0 K
          | _ => False
        | _, _ => False
    | _ => False

/-- cells of a slice of one's own that are made zero -/
inductive ClearG (h : H) (b o n : Nat) (z : AV) (K : H → Prop) : Prop where
  | mk (cs : List AV) (hb : h b = some (.cells true 1 cs)) (ho : o + n ≤ cs.length) (h1 : z.one = true) (hk : K (upd h b (.cells true 1 (cs.take o ++ List.replicate n z ++ cs.drop (o + n))))) : ClearG h b o n z K

def vcClear (T : TT) (h : H) (t : TypeId) (s : AV) (K : AV → H → Prop) : Prop :=
  match tget T t with
  | none => False
  | some d => match d.desc with
    | .slice e => match tget T e with
      | none => False
      | some j => match j.size, zcells j, s with
        | 1, [z], .slice b o n _ => ClearG h b o n z fun h' => K (.tup []) h'
        | 1, [_], .nilslice => K (.tup []) h
        | _, _, _ => False
    | _ => False

/-- operations that write or make memory, and calls -/
def vcW (E : Env) (op : Op) (fr : Fr) (h : H) (K : AV → H → Prop) : Prop :=
  match op with
  | .store t p x => match tget E.T t with
    | none => False
    | some d => match ev fr p with
      | .ptr b o => match isAggD d.desc with
        | false => match d.size with
          | 1 => force (ev fr x) fun v => StoreG h b o v (K .undef)
          | _ => False
        | true => match ev fr x with
          | .agg vs => match Nat.beq vs.length d.size with
            | true => StoresG h b o vs (K .undef)
            | false => False
          | _ => False
      | _ => False
  | .alloc e => match tget E.T e with
    | none => False
    | some j => forceL (zcells j) fun cs => NewG h (.cells true j.size cs) fun b h' => K (.ptr b 0) h'
  | .box e x => match tget E.T e with
    | none => False
    | some j => match ev fr x with
      | .any => False
      | v => forceL v.cells fun cs => NewG h (.cells true j.size cs) fun b h' => K (.ptr b 0) h'
  | .buildSlice t n ps => match tget E.T t with
    | none => False
    | some d => match d.desc with
      | .slice e => match tget E.T e with
        | none => False
        | some j => match j.size, zcells j, Nat.ble n 1000 with
          | 1, [z], true => match fillA (fun i => some (i * 1, 1)) (List.replicate n z) (ps.toList.map fun (i, x) => (i, ev fr x)) with
            | some cs => forceL cs fun cs => NewG h (.cells true 1 cs) fun b h' => K (.slice b 0 n n) h'
            | none => False
          | _, _, _ => False
      | _ => False
  | .makeSlice t l c => match tget E.T t with
    | none => False
    | some d => match d.desc with
      | .slice e => match tget E.T e with
        | none => False
        | some j => match j.size, zcells j, ev fr l, ev fr c with
          | 1, [z], .int _ l, .int _ c => Ck (0 ≤ l ∧ l ≤ c ∧ c * j.bytes ≤ 140737488355328 ∧ c ≤ 9223372036854775807) (NewG h (.cells true 1 (List.replicate c.toNat z)) fun b h' => K (.slice b 0 l.toNat c.toNat) h')
          | _, _, _, _ => False
      | _ => False
  | .makeMap _ r => match r with
    | none => NewG h (.map []) fun b h' => K (.map b) h'
    | some _ => False
  | .lookup t x i ok => match tget E.T t with
    | none => False
    | some d => match d.desc with
      | .map k e => match tget E.T e with
        | none => False
        | some de => match isAggD de.desc, ev fr x with
          | false, .map b => force (ev fr i) fun a => LookG E.P k h b a (avScalar de.zero) (okK ok K h)
          | _, _ => False
      | _ => False
  | .mapUpdate t m k v => match tget E.T t with
    | none => False
    | some d => match d.desc with
      | .map kt _ => match ev fr m with
        | .map b => force (ev fr k) fun a => force (ev fr v) fun v => MapSetG E.P kt h b a v (K .undef)
        | _ => False
      | _ => False
  | .insert t m k v => match tget E.T t with
    | none => False
    | some d => match d.desc with
      | .map kt _ => match ev fr m with
        | .map b => force (ev fr k) fun a => force (ev fr v) fun v => MapSetG E.P kt h b a v (K .undef)
        | _ => False
      | _ => False
  | .call c => match c.callee with
    | .value f => match ev fr f with
      | .func g caps => forceL (c.args.toList.map (ev fr) ++ caps) fun args => AC E g args h K
      | _ => False
    | .builtin .append => match c.args.toList, c.argTypes.toList with
      | [s, x], [t, t'] => match Nat.beq t t' with
        | true => vcApp E.T h t (ev fr s) (ev fr x) K
        | false => False
      | _, _ => False
    | .builtin .clear => match c.args.toList, c.argTypes.toList with
      | [s], [t] => vcClear E.T h t (ev fr s) K
      | _, _ => False
    | _ => False
  | _ => False

section
variable {E : Env} {P : Program} {T : TT} {base : Nat} {W0 : World} {β : Bt} {nxt : Nat} {h : H} {w : World} {fr : Fr} {a : Act}

def Lands (P : Program) (base : Nat) (W0 : World) (β : Bt) (nxt : Nat) (o : Oper) (a : Act) (w : World) (K : AV → H → Prop) : Prop :=
  ∀ (next : Act → World → Prop) (Q : Exit → Act → World → Prop),
    (∀ β' nxt' h' w' v cv, Ext β β' → nxt ≤ nxt' → RV β' v cv → Sim base W0 β' nxt' h' w' → K v h' → next (a.put o.dst cv) w') → o.wp P a w next Q

theorem Lands.value {o : Oper} {K : AV → H → Prop} {w' : World} {v : AV} {cv : Value} {β' : Bt} {nxt' : Nat} {h' : H} (hr : (execOp a.eval o).run P w = .ok (.value cv) w') (he : Ext β β') (hn : nxt ≤ nxt')
    (r : RV β' v cv) (s : Sim base W0 β' nxt' h' w') (k : K v h') : Lands P base W0 β nxt o a w K := by
  intro next Q hh
  unfold Oper.wp
  rw [hr]
  exact hh β' nxt' h' w' v cv he hn r s k

theorem Lands.skip {o : Oper} {K : AV → H → Prop} {w' : World} {β' : Bt} {nxt' : Nat} {h' : H} (hr : (execOp a.eval o).run P w = .ok .skip w') (he : Ext β β') (hn : nxt ≤ nxt')
    (s : Sim base W0 β' nxt' h' w') (k : K .undef h') : Lands P base W0 β nxt o a w K := by
  intro next Q hh
  unfold Oper.wp
  rw [hr]
  exact hh β' nxt' h' w' .undef Go.undef he hn .undef s k

/-- a new block of cells, of which the first ones are known -/
theorem Sim.allocCells (s : Sim base W0 β nxt h w) {cs : List AV} {arr : Array Value} (e : TypeId) (sz : Nat) (r : RVs β cs (arr.toList.take cs.length)) (hl : cs.length ≤ arr.size) :
    Sim base W0 (bput β nxt ⟨w.heap.size, 0, sz, arr.size⟩) (nxt + 1) (upd h nxt (.cells true sz cs)) (w.alloc (.cells arr e)) := by
  refine s.alloc _ ⟨w.heap.size, 0, sz, arr.size⟩ rfl _ ⟨arr, e, (0, 0), heap_alloc_new w _, rfl, by simpa using hl, ?_, fun _ => ⟨s.ge, rfl, rfl, fun i hi hh => by simp at hh⟩, fun hh => by cases hh⟩
  have := r.mono (Ext.put (p := ⟨w.heap.size, 0, sz, arr.size⟩) (s.fresh nxt (Nat.le_refl _)))
  simpa using this

theorem Sim.freshNone (s : Sim base W0 β nxt h w) : h nxt = none := by
  cases hb : h nxt with
  | none => rfl
  | some x =>
    obtain ⟨p, h1, _⟩ := s.live nxt x hb
    rw [s.fresh nxt (Nat.le_refl _)] at h1
    cases h1

theorem bput_at (b : Nat) (p : Pos) : bput β b p b = some p := by simp [bput]

end
end Go.Proofs.YtbicfognbbeigaaGreat.Ab

/-
  The library's tenth text proves what the operations that write or make memory do.
  It holds no condition of its own.
-/
set_option linter.unusedVariables false
set_option linter.unusedSimpArgs false
namespace Go.Proofs.YtbicfognbbeigaaGreat.Ab
open Go.RowKit

section
variable {E : Env} {P : Program} {T : TT} {base : Nat} {W0 : World} {β : Bt} {nxt : Nat} {h : H} {w : World} {fr : Fr} {a : Act}

theorem setCell_block {b o : Nat} {arr : Array Value} {e : TypeId} {frz : Nat × Nat} (v : Value) (hw : w.heap[b]? = some (.cells arr e frz)) :
    (w.setCell ⟨b, o, none⟩ v).heap[b]? = some (.cells (arr.setIfInBounds o v) e frz) := by
  unfold World.setCell
  simp [Array.getElem?_modify, hw]

theorem setCell_other {b o k : Nat} (v : Value) (hk : k ≠ b) : (w.setCell ⟨b, o, none⟩ v).heap[k]? = w.heap[k]? := Below.heap_setCell w _ v k hk

theorem setCell_size {b o : Nat} (v : Value) : (w.setCell ⟨b, o, none⟩ v).heap.size = w.heap.size := by simp [World.setCell]

theorem setCells_facts (b : Nat) (e : TypeId) (frz : Nat × Nat) (B : Nat) (W : World) (hB : B ≤ b) : ∀ (vs : List Value) (o : Nat) (w : World) (arr : Array Value), w.heap[b]? = some (.cells arr e frz) → o + vs.length ≤ arr.size → Below B W w →
    ∃ arr', (w.setCells b o vs).heap[b]? = some (.cells arr' e frz) ∧ arr'.toList = arr.toList.take o ++ vs ++ arr.toList.drop (o + vs.length) ∧ (w.setCells b o vs).heap.size = w.heap.size ∧
      (∀ k, k ≠ b → (w.setCells b o vs).heap[k]? = w.heap[k]?) ∧ Below B W (w.setCells b o vs)
  | [], o, w, arr, hw, _, hbel => ⟨arr, hw, by simp, rfl, fun _ _ => rfl, hbel⟩
  | v :: r, o, w, arr, hw, hl, hbel => by
    simp only [List.length_cons] at hl
    obtain ⟨arr', h1, h2, h3, h4, h5⟩ := setCells_facts b e frz B W hB r (o + 1) (w.setCell ⟨b, o, none⟩ v) (arr.setIfInBounds o v) (setCell_block v hw) (by simp; omega) (hbel.setCell hB v)
    refine ⟨arr', h1, ?_, h3.trans (setCell_size v), fun k hk => (h4 k hk).trans (setCell_other v hk), h5⟩
    rw [h2, Array.toList_setIfInBounds]
    have hlt : o < arr.toList.length := by simp; omega
    apply List.ext_getElem?
    intro i
    simp only [List.append_assoc, List.getElem?_append, List.length_take, List.length_set, List.getElem?_take, List.getElem?_set, List.getElem?_drop, List.length_cons, Array.length_toList]
    have e1 : min (o + 1) arr.size = o + 1 := by omega
    have e2 : min o arr.size = o := by omega
    rw [e1, e2]
    by_cases c1 : i < o
    · have a1 : i < o + 1 := by omega
      have a2 : o ≠ i := by omega
      simp [c1, a1, a2]
    · by_cases c2 : i = o
      · subst c2
        simp at hlt
        simp [hlt]
      · have a1 : ¬ i < o + 1 := by omega
        simp only [a1, c1, if_false]
        by_cases c3 : i - (o + 1) < r.length
        · have c4 : i - o = (i - (o + 1)) + 1 := by omega
          have c5 : i - o < r.length + 1 := by omega
          simp [c3, c5, c4]
        · have c5 : ¬ i - o < r.length + 1 := by omega
          simp only [c3, c5, if_false]
          have c6 : o ≠ o + 1 + r.length + (i - (o + 1) - r.length) := by omega
          rw [if_neg c6]
          congr 1
          omega

theorem Sim.ownBlock (s : Sim base W0 β nxt h w) {b : Nat} {sz : Nat} {cs : List AV} {p : Pos} (hb : h b = some (.cells true sz cs)) (hp : β b = some p) :
    ∃ arr e frz, w.heap[p.blk]? = some (.cells arr e frz) ∧ p.sz = sz ∧ cs.length ≤ arr.size ∧ RVs β cs (arr.toList.take cs.length) ∧ base ≤ p.blk ∧ p.off = 0 ∧ arr.size = p.tot ∧ ∀ i, i < arr.size → ¬(frz.1 ≤ i ∧ i < frz.2) := by
  obtain ⟨q, h1, arr, e, frz, h2, h3, h4, h5, h6, _⟩ := s.live b _ hb
  rw [hp] at h1
  injection h1 with h1
  subst h1
  obtain ⟨h7, h8, h9, h10⟩ := h6 rfl
  rw [h8] at h5
  exact ⟨arr, e, frz, h2, h3, by omega, by simpa using h5, h7, h8, h9, h10⟩

/-- the cells of an own block are put anew from a place on -/
theorem Sim.storeCells (s : Sim base W0 β nxt h w) {b o : Nat} {sz : Nat} {cs vs : List AV} {cvs : List Value} {p : Pos} (hb : h b = some (.cells true sz cs)) (hp : β b = some p) (ho : o + vs.length ≤ cs.length) (r : RVs β vs cvs) :
    Sim base W0 β nxt (upd h b (.cells true sz (cs.take o ++ vs ++ cs.drop (o + vs.length)))) (w.setCells p.blk o cvs) := by
  obtain ⟨arr, e, frz, h1, h2, h3, h4, h5, h6, h7, h8⟩ := s.ownBlock hb hp
  have hl := r.1
  obtain ⟨arr', g1, g2, g3, g4, g5⟩ := setCells_facts p.blk e frz base W0 h5 cvs o w arr h1 (by omega) s.below
  have hsz : arr'.size = arr.size := by
    have := congrArg List.length g2
    simp at this
    omega
  refine s.setOwn hb rfl hp g5 (by omega) (fun k _ hk => g4 k hk) rfl ⟨arr', e, frz, g1, h2, by simp; omega, ?_, fun _ => ⟨h5, h6, by omega, fun i hi => h8 i (by omega)⟩, fun hh => by cases hh⟩
  have e1 : (cs.take o ++ vs ++ cs.drop (o + vs.length)).length = cs.length := by simp; omega
  rw [e1, h6, List.drop_zero, g2]
  have key := ((h4.take o).append r).append (h4.drop (o + vs.length))
  have e2 : (arr.toList.take o ++ cvs ++ arr.toList.drop (o + cvs.length)).take cs.length = (arr.toList.take cs.length).take o ++ cvs ++ (arr.toList.take cs.length).drop (o + vs.length) := by
    rw [List.take_append, List.take_append, List.take_take, List.take_take]
    simp only [List.length_append, List.length_take, Array.length_toList]
    rw [show min cs.length o = o by omega, show min o cs.length = o by omega, show min o arr.size = o by omega, List.drop_take, ← hl]
    congr 1
    congr 1
    apply List.take_of_length_le
    omega
  rwa [e2]

theorem run_isAggD {t : TypeId} {d : TI} (tok : TOk P T) (ht : tget T t = some d) (w : World) : (isAgg t).run P w = .ok (isAggD d.desc) w := run_isAgg (tok.under ht) w

theorem cells_one {β : Bt} {x : AV} {v : Value} (r : RV β x v) (h : x.one = true) : v.cells = #[v] ∧ x.cells = [x] := by
  cases r <;> first | (simp [AV.one] at h; done) | exact ⟨rfl, rfl⟩

/-- cells that are there and may be written -/
theorem Sim.mayWrite (s : Sim base W0 β nxt h w) {b : Nat} {sz : Nat} {cs : List AV} {p : Pos} (hb : h b = some (.cells true sz cs)) (hp : β b = some p) :
    ∀ i, i < p.tot → (w.cell? ⟨p.blk, i, none⟩).isSome = true ∧ w.frozen? ⟨p.blk, i, none⟩ = false := by
  obtain ⟨arr, e, frz, h1, h2, h3, h4, h5, h6, h7, h8⟩ := s.ownBlock hb hp
  intro i hi
  have hi' : i < arr.size := by omega
  have := h8 i hi'
  obtain ⟨lo, hi2⟩ := frz
  refine ⟨by simp [World.cell?, h1, hi'], ?_⟩
  simp [World.frozen?, h1]
  simp at this
  omega

theorem ownTot (s : Sim base W0 β nxt h w) {b : Nat} {sz : Nat} {cs : List AV} {p : Pos} (hb : h b = some (.cells true sz cs)) (hp : β b = some p) : cs.length ≤ p.tot := by
  obtain ⟨arr, e, frz, h1, h2, h3, h4, h5, h6, h7, h8⟩ := s.ownBlock hb hp
  omega

theorem vcStore_sound {t : TypeId} {p x : Operand} {K : AV → H → Prop} {o : Oper} (ho : o.op = .store t p x) (tok : TOk E.P E.T) (s : Sim base W0 β nxt h w) (hf : FrRel β fr a) (hk : vcW E (.store t p x) fr h K) :
    Lands E.P base W0 β nxt o a w K := by
  obtain ⟨dst, op, ty, pos, after, guard⟩ := o
  dsimp only at ho
  subst ho
  simp only [vcW] at hk
  split at hk
  · contradiction
  · rename_i d ht
    have hp := hf.ev p
    have hx := hf.ev x
    have hu := run_isAggD (P := E.P) tok ht
    split at hk
    · rename_i b of ep
      rw [ep] at hp
      split at hk
      · rename_i hd
        split at hk
        · rename_i hsz
          rw [force_eq] at hk
          obtain ⟨sz, cs, h1, h2, h3, h4⟩ := hk
          generalize hvp : a.eval p = vp at hp
          generalize hvx : a.eval x = vx at hx
          cases hp with
          | @ptr _ _ q hb =>
          obtain ⟨hc1, hc2⟩ := cells_one hx h3
          have hw := s.mayWrite h1 hb of (by have := ownTot s h1 hb; omega)
          have hq0 : q.off = 0 := by obtain ⟨_, _, _, _, _, _, _, _, h6, _⟩ := s.ownBlock h1 hb; exact h6
          have hst := s.storeCells (o := of) (vs := [ev fr x]) (cvs := [vx]) h1 hb (by simp; omega) (RVs.cons hx (RVs.nil β))
          have hset : cs.take of ++ [ev fr x] ++ cs.drop (of + [ev fr x].length) = cs.set of (ev fr x) := by
            rw [List.set_eq_take_append_cons_drop, if_pos h2]
            simp
          rw [hset] at hst
          have z1 : ∀ j, j < [vx].length → (w.cell? ⟨q.blk, of + 0 + j, none⟩).isSome = true := by
            intro j hj
            have h0 : j = 0 := by simpa using hj
            subst h0
            simpa using hw.1
          have z2 : ∀ j, j < [vx].length → w.frozen? ⟨q.blk, of + 0 + j, none⟩ = false := by
            intro j hj
            have h0 : j = 0 := by simpa using hj
            subst h0
            simpa using hw.2
          have z3 : ∀ v ∈ [vx], v.oneCell' = true := by
            intro v hv
            have h0 : v = vx := by simpa using hv
            subst h0
            exact hx.oneCell h3
          have hrc := run_storeCells_cells (P := E.P) q.blk of [vx] 0 w z1 z2 z3
          refine .skip (w' := w.setCells q.blk of [vx]) ?_ (Ext.refl β) (Nat.le_refl _) hst h4
          simp only [execOp, hvp, hvx, Instr.storeAt, Instr.sureAddr, storeVar, hc1, hq0, Nat.zero_add]
          simp only [Nat.add_zero] at hrc
          simp [run_size tok ht, hsz, hrc]
        · contradiction
      · rename_i hd
        split at hk
        · rename_i vs evx
          split at hk
          · rename_i hsz
            have hsz := Nat.eq_of_beq_eq_true hsz
            obtain ⟨sz, cs, h1, h2, h3, h4⟩ := hk
            generalize hvp : a.eval p = vp at hp
            generalize hvx : a.eval x = vx at hx
            rw [evx] at hx
            cases hp with
            | @ptr _ _ q hb =>
            cases hx with
            | @agg _ cvs hl hr =>
            have hrv : RVs β vs cvs.toList := ⟨by simpa using hl, fun i c v hc hv => hr i c v hc (by simpa using hv)⟩
            have htot := ownTot s h1 hb
            have hq0 : q.off = 0 := by obtain ⟨_, _, _, _, _, _, _, _, h6, _⟩ := s.ownBlock h1 hb; exact h6
            have hst := s.storeCells (o := of) h1 hb h2 hrv
            have hone : ∀ v ∈ cvs.toList, v.oneCell' = true := by
              intro v hv
              obtain ⟨i, hi⟩ := List.getElem?_of_mem hv
              have hlt : i < vs.length := by have := (List.getElem?_eq_some_iff.1 hi).1; simp at this; omega
              exact (hr i vs[i] v (by simp [hlt]) (by simpa using hi)).oneCell (h3 _ (List.getElem_mem hlt))
            have hrc := run_storeCells_cells (P := E.P) q.blk of cvs.toList 0 w
              (fun j hj => by simpa using (s.mayWrite h1 hb (of + j) (by simp at hj; omega)).1)
              (fun j hj => by simpa using (s.mayWrite h1 hb (of + j) (by simp at hj; omega)).2) hone
            refine .skip (w' := w.setCells q.blk of cvs.toList) ?_ (Ext.refl β) (Nat.le_refl _) hst h4
            have hcs : cvs.size = d.size := by omega
            simp only [execOp, hvp, hvx, Instr.storeAt, Instr.sureAddr, storeVar, Value.cells, hq0, Nat.zero_add]
            simp only [Nat.add_zero] at hrc
            simp [run_size tok ht, hcs, hrc]
          · contradiction
        · contradiction
    · contradiction

end
end Go.Proofs.YtbicfognbbeigaaGreat.Ab

/-
  The library's eleventh text proves what the operations that make memory do, append and calls among them.
  It holds no condition of its own.
-/
set_option linter.unusedVariables false
set_option linter.unusedSimpArgs false
namespace Go.Proofs.YtbicfognbbeigaaGreat.Ab
open Go.RowKit

section
variable {E : Env} {P : Program} {T : TT} {base : Nat} {W0 : World} {β : Bt} {nxt : Nat} {h : H} {w : World} {fr : Fr} {a : Act}

/-- a run that makes one block of cells -/
theorem Lands.new {o : Oper} {K : AV → H → Prop} {cs : List AV} {arr : Array Value} {e : TypeId} {sz : Nat} {w1 : World} (s : Sim base W0 β nxt h w1) (r : RVs β cs (arr.toList.take cs.length)) (hl : cs.length ≤ arr.size)
    {f : Nat → AV} {cv : Value} (hrun : (execOp a.eval o).run P w = .ok (.value cv) (w1.alloc (.cells arr e)))
    (hv : RV (bput β nxt ⟨w1.heap.size, 0, sz, arr.size⟩) (f nxt) cv) (hk : NewG h (.cells true sz cs) fun b h' => K (f b) h') : Lands P base W0 β nxt o a w K :=
  .value hrun (Ext.put (s.fresh nxt (Nat.le_refl _))) (Nat.le_succ _) hv (s.allocCells e sz r hl) (hk.hk nxt s.freshNone)

theorem vcAlloc_sound {e : TypeId} {K : AV → H → Prop} {o : Oper} (ho : o.op = .alloc e) (tok : TOk E.P E.T) (s : Sim base W0 β nxt h w) (hk : vcW E (.alloc e) fr h K) : Lands E.P base W0 β nxt o a w K := by
  obtain ⟨dst, op, ty, pos, after, guard⟩ := o
  dsimp only at ho
  subst ho
  simp only [vcW] at hk
  split at hk
  · contradiction
  · rename_i j ht
    rw [forceL_eq] at hk
    refine .new (f := fun b => .ptr b 0) (cs := zcells j) (arr := j.zero.cells) (e := e) (sz := j.size) s ?_ (by simp [zcells]) (cv := .pointer (some ⟨w.heap.size, 0, none⟩)) ?_ ?_ hk
    · have := zero_rvs (β := β) ht
      unfold zcells
      rwa [List.take_of_length_le (by simp)]
    · simp [execOp, Instr.alloc, run_zero tok ht, newVar, newRow]
    · exact .ptr (bput_at _ _)

theorem vcBox_sound {e : TypeId} {x : Operand} {K : AV → H → Prop} {o : Oper} (ho : o.op = .box e x) (s : Sim base W0 β nxt h w) (hf : FrRel β fr a) (hk : vcW E (.box e x) fr h K) : Lands E.P base W0 β nxt o a w K := by
  obtain ⟨dst, op, ty, pos, after, guard⟩ := o
  dsimp only at ho
  subst ho
  simp only [vcW] at hk
  split at hk
  · contradiction
  · rename_i j ht
    have hx := hf.ev x
    split at hk
    · contradiction
    · rename_i hne
      rw [forceL_eq] at hk
      have hc := hx.cells (fun e => hne e)
      refine .new (f := fun b => .ptr b 0) (cs := (ev fr x).cells) (arr := (a.eval x).cells) (e := e) (sz := j.size) s ?_ (by have := hc.1; simp at this; omega) (cv := .pointer (some ⟨w.heap.size, 0, none⟩)) ?_ ?_ hk
      · rw [List.take_of_length_le (by have := hc.1; omega)]
        exact hc
      · simp [execOp, Instr.box, newVar, newRow]
      · exact .ptr (bput_at _ _)

theorem zcells_one {j : TI} {z : AV} (hz : zcells j = [z]) : ∃ v, j.zero.cells = #[v] ∧ z = avScalar v := by
  unfold zcells at hz
  have hl : j.zero.cells.toList.length = 1 := by have := congrArg List.length hz; simpa using this
  match hc : j.zero.cells.toList with
  | [v] =>
    rw [hc] at hz
    exact ⟨v, Array.ext' hc, by simpa using hz.symm⟩
  | [] => rw [hc] at hl; cases hl
  | _ :: _ :: _ => rw [hc] at hl; simp at hl

theorem map_range0 (f : Nat → Value) : (Array.range 0).map f = #[] := by
  apply Array.ext'
  simp

theorem range_const (v : Value) (n : Nat) : (Array.range n).map (fun _ => v) = Array.replicate n v := by
  apply Array.ext'
  simp
  apply List.ext_getElem?
  intro i
  simp [List.getElem?_replicate]
  by_cases hi : i < n
  · simp [hi]
  · simp [hi]

theorem vcBuildSlice_sound {t : TypeId} {n : Nat} {ps : Array (Nat × Operand)} {K : AV → H → Prop} {o : Oper} (ho : o.op = .buildSlice t n ps) (tok : TOk E.P E.T) (s : Sim base W0 β nxt h w) (hf : FrRel β fr a) (hk : vcW E (.buildSlice t n ps) fr h K) :
    Lands E.P base W0 β nxt o a w K := by
  obtain ⟨dst, op, ty, pos, after, guard⟩ := o
  dsimp only at ho
  subst ho
  simp only [vcW] at hk
  split at hk
  · contradiction
  · rename_i d ht
    split at hk
    · rename_i e hd
      have hu := tok.under ht
      rw [hd] at hu
      split at hk
      · contradiction
      · rename_i j he
        split at hk
        · rename_i z hsz hz hn
          have hn := Nat.le_of_ble_eq_true hn
          obtain ⟨v, hv, hzv⟩ := zcells_one hz
          split at hk
          · rename_i cs hc
            rw [forceL_eq] at hk
            have hzr : RV β z v := by rw [hzv]; exact rv_avScalar β v
            have hps : (ps.map fun (i, x) => (i, a.eval x)) = (ps.toList.map fun (i, x) => (i, a.eval x)).toArray := by apply Array.ext'; simp
            obtain ⟨vs, g1, g2⟩ := fill_sound (β := β) _ (ps.toList.map fun (i, x) => (i, a.eval x)) _ (Array.replicate n v) cs (by simpa using RVs.replicate hzr n) (by simp) (parts_rel hf ps.toList) hc
            have hlen := g2.1
            refine .new (f := fun b => .slice b 0 n n) (cs := cs) (arr := vs) (e := e) (sz := 1) s ?_ (by simpa using Nat.le_of_eq hlen) (cv := .slice (some ⟨w.heap.size, 0, none⟩) n n) ?_ ?_ hk
            · rw [List.take_of_length_le (by omega)]
              exact g2
            · have hlim : ¬ (16777216 < n) := by omega
              dsimp only [execOp]
              rw [hps]
              by_cases h0 : n = 0
              · subst h0
                simp only [Nat.mul_one, Array.replicate_zero] at g1
                simp [Instr.buildSlice, run_underlying hu, run_size tok he, hsz, newRow]
                try simp at g1
                simp [map_range0, g1]
              · simp [Instr.buildSlice, run_underlying hu, run_size tok he, hsz, newRow, hlim, h0, run_zero tok he, hv, Nat.mod_one, range_const]
                try simp at g1
                simp [g1]
            · refine .slice (bput_at _ _) (Nat.le_refl _) (Nat.le_refl _) (.inr rfl) fun _ => ?_
              have : vs.size = n := by
                have h1 : cs.length = n := by
                  have key : ∀ (ps : List (Nat × AV)) (cells cs : List AV), fillA (fun i => some (i * 1, 1)) cells ps = some cs → cs.length = cells.length := by
                    intro ps
                    induction ps with
                    | nil => intro cells cs h; simp [fillA] at h; simp [h]
                    | cons p r ih =>
                      intro cells cs h
                      obtain ⟨i, v⟩ := p
                      unfold fillA at h
                      dsimp only at h
                      split at h
                      · cases h
                      · split at h
                        · rename_i b1 b2
                          have b1 := Nat.eq_of_beq_eq_true b1
                          have b2 := Nat.le_of_ble_eq_true b2
                          rw [ih _ _ h]
                          simp
                          omega
                        · cases h
                  have := key _ _ _ hc
                  simpa using this
                have := hlen
                simp at this
                omega
              simp [this]
          · contradiction
        · contradiction
    · contradiction

theorem vcMakeSlice_sound {t : TypeId} {l c : Operand} {K : AV → H → Prop} {o : Oper} (ho : o.op = .makeSlice t l c) (tok : TOk E.P E.T) (s : Sim base W0 β nxt h w) (hf : FrRel β fr a) (hk : vcW E (.makeSlice t l c) fr h K) :
    Lands E.P base W0 β nxt o a w K := by
  obtain ⟨dst, op, ty, pos, after, guard⟩ := o
  dsimp only at ho
  subst ho
  simp only [vcW] at hk
  split at hk
  · contradiction
  · rename_i d ht
    split at hk
    · rename_i e hd
      have hu := tok.under ht
      rw [hd] at hu
      split at hk
      · contradiction
      · rename_i j he
        have hl := hf.ev l
        have hc := hf.ev c
        split at hk
        · rename_i z k1 l1 k2 c1 hsz hz el ec
          generalize hvl : a.eval l = vl at hl
          generalize hvc : a.eval c = vc at hc
          rw [el] at hl
          rw [ec] at hc
          cases hl
          cases hc
          obtain ⟨⟨b1, b2, b3, b4⟩, hk⟩ := hk
          obtain ⟨v, hv, hzv⟩ := zcells_one hz
          have hzr : RV β z v := by rw [hzv]; exact rv_avScalar β v
          obtain ⟨q, hq, hqs, hqb, hqz⟩ := tok.infos he
          refine .new (f := fun b => .slice b 0 l1.toNat c1.toNat) (cs := List.replicate c1.toNat z) (arr := Array.replicate c1.toNat v) (e := e) (sz := 1) s ?_ (by simp) (cv := .slice (some ⟨w.heap.size, 0, none⟩) l1.toNat c1.toNat) ?_ ?_ hk
          · rw [List.take_of_length_le (by simp)]
            simpa using RVs.replicate hzr c1.toNat
          · have w1 : IntKind.i64.wrap l1 = l1 := IntWalk.i64_in l1 (by omega)
            have w2 : IntKind.i64.wrap c1 = c1 := IntWalk.i64_in c1 (by omega)
            have n1 : ¬ (c1 < 0) := by omega
            have n2 : ¬ ((281474976710656 : Int) < (j.bytes : Int) * c1) := by rw [Int.mul_comm]; omega
            have n3 : ¬ (l1 < 0) := by omega
            have n4 : ¬ (c1 < l1) := by omega
            dsimp only [execOp]
            rw [hvl, hvc]
            by_cases h0 : c1.toNat = 0
            · simp [Instr.makeSlice, run_underlying hu, asInt, asIntOf, w1, w2, typeInfo, hq, hqb, run_size tok he, hsz, n1, n2, n3, n4, newRow, h0, map_range0]
            · simp [Instr.makeSlice, run_underlying hu, asInt, asIntOf, w1, w2, typeInfo, hq, hqb, run_size tok he, hsz, n1, n2, n3, n4, newRow, h0, run_zero tok he, hv, Nat.mod_one, range_const]
          · refine .slice (bput_at _ _) (Nat.le_refl _) (by omega) (.inr rfl) fun _ => ?_
            simp
        · contradiction
    · contradiction

theorem vcCall_sound {f : Operand} {args : Array Operand} {ats : Array TypeId} {K : AV → H → Prop} {o : Oper} (ho : o.op = .call { callee := .value f, args := args, argTypes := ats }) (s : Sim base W0 β nxt h w) (hf : FrRel β fr a)
    (hk : vcW E (.call { callee := .value f, args := args, argTypes := ats }) fr h K) : Lands E.P base W0 β nxt o a w K := by
  obtain ⟨dst, op, ty, pos, after, guard⟩ := o
  dsimp only at ho
  subst ho
  simp only [vcW] at hk
  have hff := hf.ev f
  split at hk
  · rename_i g caps ef
    rw [forceL_eq] at hk
    rw [ef] at hff
    generalize hvf : a.eval f = vf at hff
    cases hff with
    | @func _ _ cvs hl hr =>
    intro next Q hh
    have hm := rvs_map hf args.toList
    have hcaps : RVs β caps cvs.toList := ⟨by simpa using hl, fun i c v hc hv => hr i c v hc (by simpa using hv)⟩
    have hall := hm.append hcaps
    have hargs : (args.map a.eval ++ cvs).toList = args.toList.map a.eval ++ cvs.toList := by simp
    rw [← hargs] at hall
    unfold Oper.wp
    have hrun : (execOp a.eval { dst := dst, op := .call { callee := .value f, args := args, argTypes := ats }, type := ty, pos := pos, after := after, guard := guard }).run E.P w = .ok (.enter g (args.map a.eval ++ cvs)) w := by
      simp [execOp, resolve, hvf, Deferred.ofValue, invoke, hk.call]
    rw [hrun]
    simp only [Oper.upon]
    refine (hk.run base W0 β nxt w _ s hall).mono ?_
    rintro e w' ⟨v, cv, β', nxt', h', rfl, h2, h3, h4, h5, h6⟩
    exact hh β' nxt' h' w' v cv h2 h3 h4 h5 h6
  · contradiction

end
end Go.Proofs.YtbicfognbbeigaaGreat.Ab
