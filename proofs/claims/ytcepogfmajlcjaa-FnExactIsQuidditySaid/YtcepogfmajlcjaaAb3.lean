/-
  The library's third text proves what the operations that touch no memory give, in abstract values.
  It holds no condition of its own.
-/
import Derived.Test.YtcepogfmajlcjaaAb2
set_option linter.unusedVariables false
set_option linter.unusedSimpArgs false
namespace Go.Proofs.Ytcepogfmajlcjaa.Ab
open Go.RowKit

def ikn : IntKind → Nat
  | .i8 => 0 | .i16 => 1 | .i32 => 2 | .i64 => 3 | .u8 => 4 | .u16 => 5 | .u32 => 6 | .u64 => 7

def sameK (k k' : IntKind) : Bool := Nat.beq (ikn k) (ikn k')

theorem sameK_eq {k k' : IntKind} (h : sameK k k' = true) : k = k' := by
  cases k <;> cases k' <;> first | rfl | (exact absurd h (by decide))

/-- a whole number that fits, or its remainder -/
inductive Wr (k : IntKind) (x : Int) (K : Int → Prop) : Prop where
  | fit (h : k.wrap x = x) (hk : K x) : Wr k x K
  | wrap (hk : K (k.wrap x)) : Wr k x K

theorem Wr.out {k : IntKind} {x : Int} {K : Int → Prop} (h : Wr k x K) : K (k.wrap x) := by
  cases h with
  | fit h hk => rw [h]; exact hk
  | wrap hk => exact hk

theorem Wr.i64 {x : Int} {K : Int → Prop} (h : -9223372036854775808 ≤ x ∧ x ≤ 9223372036854775807) (hk : K x) : Wr .i64 x K := .fit (IntWalk.i64_in x h) hk

/-- two ways -/
structure Br (c : Bool) (A B : Prop) : Prop where
  yes : c = true → A
  no : c = false → B

theorem Br.tt {A B : Prop} (h : A) : Br true A B := ⟨fun _ => h, fun e => Bool.noConfusion e⟩
theorem Br.ff {A B : Prop} (h : B) : Br false A B := ⟨fun e => Bool.noConfusion e, fun _ => h⟩
theorem Br.t {c : Bool} {A B : Prop} (hc : c = true) (h : A) : Br c A B := ⟨fun _ => h, fun e => by rw [hc] at e; cases e⟩
theorem Br.f {c : Bool} {A B : Prop} (hc : c = false) (h : B) : Br c A B := ⟨fun e => (by rw [hc] at e; cases e), fun _ => h⟩
theorem Br.out {c : Bool} {A B : Prop} (h : Br c A B) : if c then A else B := by
  cases c with
  | true => exact h.yes rfl
  | false => exact h.no rfl

/-- a value is brought into its form -/
def force (v : AV) (K : AV → Prop) : Prop :=
  match v with
  | .any => K .any
  | .undef => K .undef
  | .bool b => K (.bool b)
  | .int k n => K (.int k n)
  | .str s => K (.str s)
  | .nilptr => K .nilptr
  | .ptr b o => K (.ptr b o)
  | .nilslice => K .nilslice
  | .slice b o n c => K (.slice b o n c)
  | .empt => K .empt
  | .nilmap => K .nilmap
  | .map b => K (.map b)
  | .nilfunc => K .nilfunc
  | .func f cs => K (.func f cs)
  | .agg cs => K (.agg cs)
  | .tup vs => K (.tup vs)

theorem force_eq (v : AV) (K : AV → Prop) : force v K = K v := by cases v <;> rfl

def forceL : List AV → (List AV → Prop) → Prop
  | [], K => K []
  | v :: r, K => force v fun v => forceL r fun r => K (v :: r)

theorem forceL_eq : ∀ (l : List AV) (K : List AV → Prop), forceL l K = K l
  | [], _ => rfl
  | v :: r, K => by rw [forceL, force_eq, forceL_eq]

/-- a check, and what comes behind it -/
structure Ck (p k : Prop) : Prop where
  c : p
  k : k

def vcInt (op : BinOp) (k : IntKind) (a b : Int) (K : AV → Prop) : Prop :=
  match op with
  | .add => Wr k (a + b) fun n => K (.int k n)
  | .sub => Wr k (a - b) fun n => K (.int k n)
  | .mul => Wr k (a * b) fun n => K (.int k n)
  | .quo => Ck (b ≠ 0) (Wr k (a.tdiv b) fun n => K (.int k n))
  | .rem => Ck (b ≠ 0) (K (.int k (a.tmod b)))
  | .and => K (.int k (k.wrap (BitVec.ofInt k.bits a &&& BitVec.ofInt k.bits b).toNat))
  | .or => K (.int k (k.wrap (BitVec.ofInt k.bits a ||| BitVec.ofInt k.bits b).toNat))
  | .xor => K (.int k (k.wrap (BitVec.ofInt k.bits a ^^^ BitVec.ofInt k.bits b).toNat))
  | .eql => K (.bool (a == b))
  | .neq => K (.bool (a != b))
  | .lss => K (.bool (decide (a < b)))
  | .leq => K (.bool (decide (a ≤ b)))
  | .gtr => K (.bool (decide (a > b)))
  | .geq => K (.bool (decide (a ≥ b)))
  | _ => False

def vcShift (op : BinOp) (k : IntKind) (a b : Int) (K : AV → Prop) : Prop :=
  match op with
  | .shl => Ck (0 ≤ b) (Wr k (a * 2 ^ min b.toNat k.bits) fun n => K (.int k n))
  | .shr => Ck (0 ≤ b) (K (.int k (a.fdiv (2 ^ min b.toNat k.bits))))
  | _ => False

def isShift : BinOp → Bool
  | .shl | .shr => true
  | _ => false

def vcStr (op : BinOp) (a b : List UInt8) (K : AV → Prop) : Prop :=
  match op with
  | .add => Ck (a.length + b.length ≤ 9223372036854775807) (K (.str (a ++ b)))
  | .eql => K (.bool (a == b))
  | .neq => K (.bool !(a == b))
  | .lss => K (.bool (Op.bytesLess a b))
  | .leq => K (.bool (Op.bytesLess a b || a == b))
  | .gtr => K (.bool !(Op.bytesLess a b || a == b))
  | .geq => K (.bool !Op.bytesLess a b)
  | _ => False

/-- equality beside numbers and strings: by the type -/
def vcEq (d : TypeDesc) (x y : AV) (K : Bool → Prop) : Prop :=
  match d, x, y with
  | .bool, .bool a, .bool b => K (a == b)
  | .slice _, .nilslice, .nilslice => K true
  | .slice _, .nilslice, .slice _ _ _ _ => K false
  | .slice _, .slice _ _ _ _, .nilslice => K false
  | .pointer _, .nilptr, .nilptr => K true
  | .pointer _, .nilptr, .ptr _ _ => K false
  | .pointer _, .ptr _ _, .nilptr => K false
  | .map _ _, .nilmap, .nilmap => K true
  | .map _ _, .nilmap, .map _ => K false
  | .map _ _, .map _, .nilmap => K false
  | .func _ _ _, .nilfunc, .nilfunc => K true
  | .func _ _ _, .nilfunc, .func _ _ => K false
  | .func _ _ _, .func _ _, .nilfunc => K false
  | _, _, _ => False

def vcBin (T : TT) (op : BinOp) (t : TypeId) (x y : AV) (K : AV → Prop) : Prop :=
  match x, y with
  | .int k a, .int k' b =>
    match isShift op with
    | true => vcShift op k a b K
    | false => match sameK k k' with
      | true => vcInt op k a b K
      | false => False
  | .str a, .str b => vcStr op a b K
  | x, y => match tget T t with
    | none => False
    | some i => match op with
      | .eql => vcEq i.desc x y fun r => K (.bool r)
      | .neq => vcEq i.desc x y fun r => K (.bool !r)
      | _ => False

def vcUn (op : UnOp) (x : AV) (K : AV → Prop) : Prop :=
  match op, x with
  | .neg, .int k n => Wr k (0 - n) fun n => K (.int k n)
  | .not, .bool b => K (.bool !b)
  | _, _ => False

def isAggD : TypeDesc → Bool
  | .struct _ | .array _ _ => true
  | _ => false

/-- a part of a struct or array: its cells from an offset on -/
def vcPart (T : TT) (t : TypeId) (cs : List AV) (off : Nat) (K : AV → Prop) : Prop :=
  match tget T t with
  | none => False
  | some i => match isAggD i.desc with
    | true => match Nat.ble (off + i.size) cs.length with
      | true => K (.agg ((cs.drop off).take i.size))
      | false => False
    | false => match cs[off]? with
      | some v => K v
      | none => False

/-- bounds of a slice expression, and what becomes of them -/
def vcStrSlice (s : List UInt8) (lo hi : Option AV) (K : AV → Prop) : Prop :=
  match lo, hi with
  | none, none => K (.str s)
  | some (.int _ l), none => Ck (0 ≤ l ∧ l ≤ s.length) (K (.str (s.drop l.toNat)))
  | none, some (.int _ h) => Ck (0 ≤ h ∧ h ≤ s.length) (K (.str (s.take h.toNat)))
  | some (.int _ l), some (.int _ h) => Ck (0 ≤ l ∧ l ≤ h ∧ h ≤ s.length) (K (.str ((s.take h.toNat).drop l.toNat)))
  | _, _ => False

def mulSz (n sz : Nat) : Nat := match sz with
  | 1 => n
  | sz => n * sz

theorem mulSz_eq (n sz : Nat) : mulSz n sz = n * sz := by
  unfold mulSz
  split
  · simp
  · rfl

def vcSlice (sz b o n c : Nat) (lo hi mx : Option AV) (K : AV → Prop) : Prop :=
  match lo, hi, mx with
  | none, none, none => K (.slice b o n c)
  | some (.int _ l), none, none => Ck (0 ≤ l ∧ l ≤ n) (K (.slice b (o + mulSz l.toNat sz) (n - l.toNat) (c - l.toNat)))
  | none, some (.int _ h), none => Ck (0 ≤ h ∧ h ≤ c) (K (.slice b o h.toNat c))
  | some (.int _ l), some (.int _ h), none => Ck (0 ≤ l ∧ l ≤ h ∧ h ≤ c) (K (.slice b (o + mulSz l.toNat sz) (h.toNat - l.toNat) (c - l.toNat)))
  | some (.int _ l), some (.int _ h), some (.int _ m) => Ck (0 ≤ l ∧ l ≤ h ∧ h ≤ m ∧ m ≤ c) (K (.slice b (o + mulSz l.toNat sz) (h.toNat - l.toNat) (m.toNat - l.toNat)))
  | none, some (.int _ h), some (.int _ m) => Ck (0 ≤ h ∧ h ≤ m ∧ m ≤ c) (K (.slice b o h.toNat m.toNat))
  | _, _, _ => False

def vcNilSlice (lo hi mx : Option AV) (K : AV → Prop) : Prop :=
  match lo, hi, mx with
  | none, none, none => K .nilslice
  | some (.int _ l), none, none => Ck (l = 0) (K .nilslice)
  | none, some (.int _ h), none => Ck (h = 0) (K .nilslice)
  | some (.int _ l), some (.int _ h), none => Ck (l = 0 ∧ h = 0) (K .nilslice)
  | _, _, _ => False

/-- the cells of a literal -/
def fillA (place : Nat → Option (Nat × Nat)) (cells : List AV) : List (Nat × AV) → Option (List AV)
  | [] => some cells
  | (i, v) :: rest =>
    match place i with
    | none => none
    | some (off, size) =>
      match v with
      | .any => none
      | v => match Nat.beq v.cells.length size, Nat.ble (off + size) cells.length with
        | true, true => fillA place (cells.take off ++ v.cells ++ cells.drop (off + size)) rest
        | _, _ => none

def fieldSz (T : TT) (fs : Array Field) (i : Nat) : Option (Nat × Nat) :=
  match fs.toList[i]? with
  | none => none
  | some f => match tget T f.type with
    | none => none
    | some j => some (f.offset, j.size)

def allSz (T : TT) : List Field → Bool
  | [] => true
  | f :: r => match tget T f.type with
    | none => false
    | some _ => allSz T r

def vcLen (x : AV) (K : AV → Prop) : Prop :=
  match x with
  | .str s => K (.int .i64 s.length)
  | .slice _ _ n _ => K (.int .i64 n)
  | .nilslice => K (.int .i64 0)
  | .empt => K (.int .i64 0)
  | _ => False

def lenD (d : TypeDesc) (x : AV) : Bool :=
  match d, x with
  | .string, .str _ => true
  | .slice _, .slice _ _ _ _ => true
  | .slice _, .nilslice => true
  | .slice _, .empt => true
  | _, _ => false

def vcMax (mx : Bool) : List AV → AV → (AV → Prop) → Prop
  | [], x, K => match x with
    | .int _ _ => K x
    | _ => False
  | y :: rest, x, K => match x, y with
    | .int k a, .int k' b =>
      match sameK k k' with
      | true => match mx with
        | true => vcMax mx rest (.int k (max a b)) K
        | false => vcMax mx rest (.int k (min a b)) K
      | false => False
    | _, _ => False

/-- operations without memory -/
def vcP (T : TT) (op : Op) (fr : Fr) (K : AV → Prop) : Prop :=
  match op with
  | .move x => K (ev fr x)
  | .assign x => K (ev fr x)
  | .pick c a b => match ev fr c with
    | .bool t => Br t (K (ev fr a)) (K (ev fr b))
    | _ => False
  | .binOp op t x y _ => vcBin T op t (ev fr x) (ev fr y) K
  | .unOp op _ x => vcUn op (ev fr x) K
  | .nilCheck x => match ev fr x with
    | .ptr b o => K (.ptr b o)
    | .func f cs => K (.func f cs)
    | _ => False
  | .index t x i => match tget T t with
    | none => False
    | some d => match d.desc, ev fr x, ev fr i with
      | .string, .str s, .int _ i => Ck (0 ≤ i ∧ i < s.length) (K (.int .u8 (s.getD i.toNat 0).toNat))
      | _, _, _ => False
  | .indexAddr t x i => match tget T t with
    | none => False
    | some d => match d.desc, ev fr x, ev fr i with
      | .slice e, .slice b o n _, .int _ i => match tget T e with
        | none => False
        | some j => Ck (0 ≤ i ∧ i < n) (K (.ptr b (o + mulSz i.toNat j.size)))
      | _, _, _ => False
  | .slice t x lo hi mx => match tget T t with
    | none => False
    | some d => match d.desc, ev fr x with
      | .string, .str s => match mx with
        | none => vcStrSlice s (lo.map (ev fr)) (hi.map (ev fr)) K
        | some _ => False
      | .slice e, .slice b o n c => match tget T e with
        | none => False
        | some j => vcSlice j.size b o n c (lo.map (ev fr)) (hi.map (ev fr)) (mx.map (ev fr)) K
      | .slice e, .nilslice => match tget T e with
        | none => False
        | some _ => vcNilSlice (lo.map (ev fr)) (hi.map (ev fr)) (mx.map (ev fr)) K
      | _, _ => False
  | .field t x f => match tget T t with
    | none => False
    | some d => match d.desc, ev fr x with
      | .struct fs, .agg cs => match fs.toList[f]? with
        | none => False
        | some f => vcPart T f.type cs f.offset K
      | _, _ => False
  | .fieldAddr t x f => match tget T t with
    | none => False
    | some d => match d.desc, ev fr x with
      | .struct fs, .ptr b o => match fieldSz T fs f with
        | some (off, sz + 1) => K (.ptr b (o + off))
        | _ => False
      | _, _ => False
  | .extract x i => match ev fr x with
    | .tup vs => match vs[i]? with
      | some v => K v
      | none => False
    | _ => False
  | .makeFunc fn first cap => match fn, first.toList with
    | .func f, [] => forceL (cap.toList.map (ev fr)) fun cs => K (.func f cs)
    | _, _ => False
  | .build t ps => match tget T t with
    | none => False
    | some d => match d.desc with
      | .struct fs => match allSz T fs.toList with
        | true => match fillA (fieldSz T fs) (d.zero.cells.toList.map avScalar) (ps.toList.map fun (i, x) => (i, ev fr x)) with
          | some cs => forceL cs fun cs => K (.agg cs)
          | none => False
        | false => False
      | .array _ e => match tget T e with
        | none => False
        | some j => match fillA (fun i => some (i * j.size, j.size)) (d.zero.cells.toList.map avScalar) (ps.toList.map fun (i, x) => (i, ev fr x)) with
          | some cs => forceL cs fun cs => K (.agg cs)
          | none => False
      | _ => False
  | .convert s t x => match tget T s, tget T t with
    | some _, some d => match d.desc, ev fr x with
      | .int k, .int _ n => Wr k n fun n => K (.int k n)
      | _, _ => False
    | _, _ => False
  | .call c => match c.callee with
    | .builtin .len => match c.argTypes.toList, c.args.toList with
      | [t], [x] => match tget T t with
        | none => False
        | some d => match lenD d.desc (ev fr x) with
          | true => vcLen (ev fr x) K
          | false => False
      | _, _ => False
    | .builtin .max => match c.args.toList with
      | x :: rest => vcMax true (rest.map (ev fr)) (ev fr x) K
      | [] => False
    | .builtin .min => match c.args.toList with
      | x :: rest => vcMax false (rest.map (ev fr)) (ev fr x) K
      | [] => False
    | _ => False
  | _ => False

end Go.Proofs.Ytcepogfmajlcjaa.Ab
