/-
  The library's ninth text says in abstract values what the operations that write or make memory give, and proves it.
  It holds no condition of its own.
-/
import Derived.Test.YtcepogfmajlcjaaAb8
import Derived.WideKeyMaps
set_option linter.unusedVariables false
set_option linter.unusedSimpArgs false
namespace Go.Proofs.Ytcepogfmajlcjaa.Ab
open Go.RowKit

/-- a contract of a function, in abstract values -/
structure AC (E : Env) (f : FuncId) (args : List AV) (h : H) (Q : AV → H → Prop) : Prop where
  call : ∀ (vs : Array Value) (w : World), (callFunc f vs).run E.P w = .ok (.enter f vs) w
  run : ∀ (base : Nat) (W0 : World) (β : Bt) (nxt : Nat) (w : World) (vs : Array Value), Sim base W0 β nxt h w → RVs β args vs.toList →
    Calls E.P f vs w fun e w' => ∃ v cv β' nxt' h', e = .returned cv ∧ Ext β β' ∧ nxt ≤ nxt' ∧ RV β' v cv ∧ Sim base W0 β' nxt' h' w' ∧ Q v h'

theorem AC.mono {E : Env} {f : FuncId} {args : List AV} {h : H} {Q Q' : AV → H → Prop} (c : AC E f args h Q) (m : ∀ v h', Q v h' → Q' v h') : AC E f args h Q' :=
  ⟨c.call, fun base W0 β nxt w vs s r => (c.run base W0 β nxt w vs s r).mono fun _ _ ⟨v, cv, β', nxt', h', h1, h2, h3, h4, h5, h6⟩ => ⟨v, cv, β', nxt', h', h1, h2, h3, h4, h5, m v h' h6⟩⟩

inductive StoreG (h : H) (b o : Nat) (v : AV) (K : H → Prop) : Prop where
  | mk (sz : Nat) (cs : List AV) (hb : h b = some (.cells true sz cs)) (ho : o < cs.length) (hv : v.one = true) (hk : K (upd h b (.cells true sz (cs.set o v)))) : StoreG h b o v K

inductive StoresG (h : H) (b o : Nat) (vs : List AV) (K : H → Prop) : Prop where
  | mk (sz : Nat) (cs : List AV) (hb : h b = some (.cells true sz cs)) (ho : o + vs.length ≤ cs.length) (hv : ∀ v ∈ vs, v.one = true)
      (hk : K (upd h b (.cells true sz (cs.take o ++ vs ++ cs.drop (o + vs.length))))) : StoresG h b o vs K

structure NewG (h : H) (x : Blk) (K : Nat → H → Prop) : Prop where
  hk : ∀ b, h b = none → K b (upd h b x)

inductive AppG (h : H) (s : AV) (bytes : Nat) (news : List AV) (m : Nat) (K : AV → H → Prop) : Prop where
  | nil (hs : s = .nilslice) (hm : 0 < m) (hb : m * bytes ≤ 140737488355328) (hk : ∀ b, h b = none → K (.slice b 0 m m) (upd h b (.cells true 1 news))) : AppG h s bytes news m K
  | nil0 (hs : s = .nilslice) (hm : m = 0) (hk : K .nilslice h) : AppG h s bytes news m K
  | grow (b n c : Nat) (cs : List AV) (hs : s = .slice b 0 n c) (hb : h b = some (.cells true 1 cs)) (hn : n ≤ cs.length) (hbytes : (n + m) * bytes ≤ 140737488355328) (h1 : ∀ v ∈ news, v.one = true)
      (hk : ∀ b', h b' = none → K (.slice b' 0 (n + m) (n + m)) (upd (kill h b) b' (.cells true 1 (cs.take n ++ news)))) : AppG h s bytes news m K
  | fits (b n c : Nat) (cs : List AV) (hs : s = .slice b 0 n c) (hb : h b = some (.cells true 1 cs)) (hc : n + m ≤ c) (hl : n + m ≤ cs.length) (h1 : ∀ v ∈ news, v.one = true)
      (hk : K (.slice b 0 (n + m) c) (upd h b (.cells true 1 (cs.take n ++ news ++ cs.drop (n + m))))) : AppG h s bytes news m K
  | none (b n c : Nat) (hs : s = .slice b 0 n c) (hm : m = 0) (hk : K (.slice b 0 n c) h) : AppG h s bytes news m K

/-! Maps: keys that can be held side by side -/
def keyV0 : AV → Value
  | .int q n => .int q n
  | .str s => .string ⟨s.toArray⟩
  | _ => Go.undef
def keyV : AV → Value
  | .agg cs => .agg (cs.map keyV0).toArray
  | v => keyV0 v
def key0 : AV → Bool
  | .int _ _ => true
  | .str _ => true
  | _ => false
def keyA : AV → Bool
  | .agg cs => cs.all key0
  | v => key0 v
structure KOk (P : Program) (k : TypeId) (a : AV) : Prop where
  form : keyA a = true
  lit : ∃ l, Go.keyOf P k (keyV a) = some l

inductive LookG (P : Program) (k : TypeId) (h : H) (b : Nat) (a z : AV) (K : AV → Bool → Prop) : Prop where
  | hit (es : List (AV × AV)) (v : AV) (law : Go.WideMaps.KeyLaw P k) (hb : h b = some (.map es)) (ok : ∀ p ∈ es, KOk P k p.1) (ka : KOk P k a) (hm : (a, v) ∈ es) (hu : ∀ u, (a, u) ∈ es → u = v) (hk : K v true) : LookG P k h b a z K
  | miss (es : List (AV × AV)) (law : Go.WideMaps.KeyLaw P k) (hb : h b = some (.map es)) (ok : ∀ p ∈ es, KOk P k p.1) (ka : KOk P k a) (hno : ∀ u, (a, u) ∉ es) (hk : K z false) : LookG P k h b a z K

inductive MapSetG (P : Program) (k : TypeId) (h : H) (b : Nat) (a v : AV) (K : H → Prop) : Prop where
  | put (es : List (AV × AV)) (law : Go.WideMaps.KeyLaw P k) (hb : h b = some (.map es)) (ok : ∀ p ∈ es, KOk P k p.1) (ka : KOk P k a) (hno : ∀ u, (a, u) ∉ es) (hk : K (upd h b (.map (es ++ [(a, v)])))) : MapSetG P k h b a v K
  | set (es : List (AV × AV)) (n : Nat) (u : AV) (law : Go.WideMaps.KeyLaw P k) (hb : h b = some (.map es)) (ok : ∀ p ∈ es, KOk P k p.1) (ka : KOk P k a) (hn : es[n]? = some (a, u)) (hu : ∀ j w, es[j]? = some (a, w) → j = n)
      (hk : K (upd h b (.map (es.set n (a, v))))) : MapSetG P k h b a v K

def okK (ok : Bool) (K : AV → H → Prop) (h : H) (v : AV) (f : Bool) : Prop :=
  match ok with
  | true => K (.tup [v, .bool f]) h
  | false => K v h

def zcells (i : TI) : List AV := i.zero.cells.toList.map avScalar

def vcApp (T : TT) (h : H) (t : TypeId) (s x : AV) (K : AV → H → Prop) : Prop :=
  match tget T t with
  | none => False
  | some d => match d.desc with
    | .slice e => match tget T e with
      | none => False
      | some j => match j.size, Nat.ble 1 j.bytes with
        | 1, true => match x with
          | .slice b o m _ => LoadsG h b o m fun news => AppG h s j.bytes news m K
          | .nilslice => AppG h s j.bytes [] 0 K
          | _ => False
        | _, _ => False
    | _ => False

/-- cells of a slice of one's own that are made zero -/
inductive ClearG (h : H) (b o n : Nat) (z : AV) (K : H → Prop) : Prop where
  | mk (cs : List AV) (hb : h b = some (.cells true 1 cs)) (ho : o + n ≤ cs.length) (h1 : z.one = true) (hk : K (upd h b (.cells true 1 (cs.take o ++ List.replicate n z ++ cs.drop (o + n))))) : ClearG h b o n z K

def vcClear (T : TT) (h : H) (t : TypeId) (s : AV) (K : AV → H → Prop) : Prop :=
  match tget T t with
  | none => False
  | some d => match d.desc with
    | .slice e => match tget T e with
      | none => False
      | some j => match j.size, zcells j, s with
        | 1, [z], .slice b o n _ => ClearG h b o n z fun h' => K (.tup []) h'
        | 1, [_], .nilslice => K (.tup []) h
        | _, _, _ => False
    | _ => False

/-- operations that write or make memory, and calls -/
def vcW (E : Env) (op : Op) (fr : Fr) (h : H) (K : AV → H → Prop) : Prop :=
  match op with
  | .store t p x => match tget E.T t with
    | none => False
    | some d => match ev fr p with
      | .ptr b o => match isAggD d.desc with
        | false => match d.size with
          | 1 => force (ev fr x) fun v => StoreG h b o v (K .undef)
          | _ => False
        | true => match ev fr x with
          | .agg vs => match Nat.beq vs.length d.size with
            | true => StoresG h b o vs (K .undef)
            | false => False
          | _ => False
      | _ => False
  | .alloc e => match tget E.T e with
    | none => False
    | some j => forceL (zcells j) fun cs => NewG h (.cells true j.size cs) fun b h' => K (.ptr b 0) h'
  | .box e x => match tget E.T e with
    | none => False
    | some j => match ev fr x with
      | .any => False
      | v => forceL v.cells fun cs => NewG h (.cells true j.size cs) fun b h' => K (.ptr b 0) h'
  | .buildSlice t n ps => match tget E.T t with
    | none => False
    | some d => match d.desc with
      | .slice e => match tget E.T e with
        | none => False
        | some j => match j.size, zcells j, Nat.ble n 1000 with
          | 1, [z], true => match fillA (fun i => some (i * 1, 1)) (List.replicate n z) (ps.toList.map fun (i, x) => (i, ev fr x)) with
            | some cs => forceL cs fun cs => NewG h (.cells true 1 cs) fun b h' => K (.slice b 0 n n) h'
            | none => False
          | _, _, _ => False
      | _ => False
  | .makeSlice t l c => match tget E.T t with
    | none => False
    | some d => match d.desc with
      | .slice e => match tget E.T e with
        | none => False
        | some j => match j.size, zcells j, ev fr l, ev fr c with
          | 1, [z], .int _ l, .int _ c => Ck (0 ≤ l ∧ l ≤ c ∧ c * j.bytes ≤ 140737488355328 ∧ c ≤ 9223372036854775807) (NewG h (.cells true 1 (List.replicate c.toNat z)) fun b h' => K (.slice b 0 l.toNat c.toNat) h')
          | _, _, _, _ => False
      | _ => False
  | .makeMap _ r => match r with
    | none => NewG h (.map []) fun b h' => K (.map b) h'
    | some _ => False
  | .lookup t x i ok => match tget E.T t with
    | none => False
    | some d => match d.desc with
      | .map k e => match tget E.T e with
        | none => False
        | some de => match isAggD de.desc, ev fr x with
          | false, .map b => force (ev fr i) fun a => LookG E.P k h b a (avScalar de.zero) (okK ok K h)
          | _, _ => False
      | _ => False
  | .mapUpdate t m k v => match tget E.T t with
    | none => False
    | some d => match d.desc with
      | .map kt _ => match ev fr m with
        | .map b => force (ev fr k) fun a => force (ev fr v) fun v => MapSetG E.P kt h b a v (K .undef)
        | _ => False
      | _ => False
  | .insert t m k v => match tget E.T t with
    | none => False
    | some d => match d.desc with
      | .map kt _ => match ev fr m with
        | .map b => force (ev fr k) fun a => force (ev fr v) fun v => MapSetG E.P kt h b a v (K .undef)
        | _ => False
      | _ => False
  | .call c => match c.callee with
    | .value f => match ev fr f with
      | .func g caps => forceL (c.args.toList.map (ev fr) ++ caps) fun args => AC E g args h K
      | _ => False
    | .builtin .append => match c.args.toList, c.argTypes.toList with
      | [s, x], [t, t'] => match Nat.beq t t' with
        | true => vcApp E.T h t (ev fr s) (ev fr x) K
        | false => False
      | _, _ => False
    | .builtin .clear => match c.args.toList, c.argTypes.toList with
      | [s], [t] => vcClear E.T h t (ev fr s) K
      | _, _ => False
    | _ => False
  | _ => False

section
variable {E : Env} {P : Program} {T : TT} {base : Nat} {W0 : World} {β : Bt} {nxt : Nat} {h : H} {w : World} {fr : Fr} {a : Act}

def Lands (P : Program) (base : Nat) (W0 : World) (β : Bt) (nxt : Nat) (o : Oper) (a : Act) (w : World) (K : AV → H → Prop) : Prop :=
  ∀ (next : Act → World → Prop) (Q : Exit → Act → World → Prop),
    (∀ β' nxt' h' w' v cv, Ext β β' → nxt ≤ nxt' → RV β' v cv → Sim base W0 β' nxt' h' w' → K v h' → next (a.put o.dst cv) w') → o.wp P a w next Q

theorem Lands.value {o : Oper} {K : AV → H → Prop} {w' : World} {v : AV} {cv : Value} {β' : Bt} {nxt' : Nat} {h' : H} (hr : (execOp a.eval o).run P w = .ok (.value cv) w') (he : Ext β β') (hn : nxt ≤ nxt')
    (r : RV β' v cv) (s : Sim base W0 β' nxt' h' w') (k : K v h') : Lands P base W0 β nxt o a w K := by
  intro next Q hh
  unfold Oper.wp
  rw [hr]
  exact hh β' nxt' h' w' v cv he hn r s k

theorem Lands.skip {o : Oper} {K : AV → H → Prop} {w' : World} {β' : Bt} {nxt' : Nat} {h' : H} (hr : (execOp a.eval o).run P w = .ok .skip w') (he : Ext β β') (hn : nxt ≤ nxt')
    (s : Sim base W0 β' nxt' h' w') (k : K .undef h') : Lands P base W0 β nxt o a w K := by
  intro next Q hh
  unfold Oper.wp
  rw [hr]
  exact hh β' nxt' h' w' .undef Go.undef he hn .undef s k

/-- a new block of cells, of which the first ones are known -/
theorem Sim.allocCells (s : Sim base W0 β nxt h w) {cs : List AV} {arr : Array Value} (e : TypeId) (sz : Nat) (r : RVs β cs (arr.toList.take cs.length)) (hl : cs.length ≤ arr.size) :
    Sim base W0 (bput β nxt ⟨w.heap.size, 0, sz, arr.size⟩) (nxt + 1) (upd h nxt (.cells true sz cs)) (w.alloc (.cells arr e)) := by
  refine s.alloc _ ⟨w.heap.size, 0, sz, arr.size⟩ rfl _ ⟨arr, e, (0, 0), heap_alloc_new w _, rfl, by simpa using hl, ?_, fun _ => ⟨s.ge, rfl, rfl, fun i hi hh => by simp at hh⟩, fun hh => by cases hh⟩
  have := r.mono (Ext.put (p := ⟨w.heap.size, 0, sz, arr.size⟩) (s.fresh nxt (Nat.le_refl _)))
  simpa using this

theorem Sim.freshNone (s : Sim base W0 β nxt h w) : h nxt = none := by
  cases hb : h nxt with
  | none => rfl
  | some x =>
    obtain ⟨p, h1, _⟩ := s.live nxt x hb
    rw [s.fresh nxt (Nat.le_refl _)] at h1
    cases h1

theorem bput_at (b : Nat) (p : Pos) : bput β b p b = some p := by simp [bput]

end
end Go.Proofs.Ytcepogfmajlcjaa.Ab
