/-
  The library's eighth text says in abstract values what the operations on memory give, and proves the reads.
  It holds no condition of its own.
-/
import Derived.Test.YtcepogfmajlcjaaAb7
set_option linter.unusedVariables false
set_option linter.unusedSimpArgs false
namespace Go.Proofs.Ytcepogfmajlcjaa.Ab
open Go.RowKit

/-! Reads -/
inductive LoadG (h : H) (b o : Nat) (K : AV → Prop) : Prop where
  | mk (own : Bool) (sz : Nat) (cs : List AV) (v : AV) (hb : h b = some (.cells own sz cs)) (hv : cs[o]? = some v) (hk : K v) : LoadG h b o K

inductive LoadsG (h : H) (b o n : Nat) (K : List AV → Prop) : Prop where
  | mk (own : Bool) (sz : Nat) (cs : List AV) (hb : h b = some (.cells own sz cs)) (hn : o + n ≤ cs.length) (hk : K ((cs.drop o).take n)) : LoadsG h b o n K

def bytesAV (s : List UInt8) : List AV := s.map fun c => .int .u8 c.toNat

inductive TextG (h : H) (b o n : Nat) (K : AV → Prop) : Prop where
  | mk (own : Bool) (sz : Nat) (cs : List AV) (s : List UInt8) (hb : h b = some (.cells own sz cs)) (hn : o + n ≤ cs.length) (hs : (cs.drop o).take n = bytesAV s) (hk : K (.str s)) : TextG h b o n K

def textD (T : TT) (s t : TypeId) : Bool :=
  match tget T s, tget T t with
  | some d, some d' => match d.desc, d'.desc with
    | .slice e, .string => match tget T e with
      | some j => match j.desc with
        | .int .u8 => true
        | _ => false
      | none => false
    | _, _ => false
  | _, _ => false

/-! Maps: keys that can be held side by side -/
def listEq : List AV → List AV → Option Bool
  | [], [] => some true
  | .int k a :: r, .int k' b :: r' => match sameK k k', listEq r r' with
    | true, some t => some (a == b && t)
    | _, _ => none
  | _, _ => none

def keyEq : AV → AV → Option Bool
  | .int k a, .int k' b => match sameK k k' with
    | true => some (a == b)
    | false => none
  | .str a, .str b => some (a == b)
  | .agg a, .agg b => listEq a b
  | _, _ => none

/-- the place of a key -/
def findA (k : AV) : List (AV × AV) → Option (Option Nat)
  | [] => some none
  | (k', _) :: r => match keyEq k k' with
    | some true => some (some 0)
    | some false => match findA k r with
      | some (some n) => some (some (n + 1))
      | some none => some none
      | none => none
    | none => none

/-- operations that read memory -/
def vcR (T : TT) (op : Op) (fr : Fr) (h : H) (K : AV → Prop) : Prop :=
  match op with
  | .load t x => match tget T t with
    | none => False
    | some d => match ev fr x with
      | .ptr b o => match isAggD d.desc with
        | false => LoadG h b o K
        | true => LoadsG h b o d.size fun cs => K (.agg cs)
      | _ => False
  | .convert s t x => match textD T s t with
    | true => match ev fr x with
      | .nilslice => K (.str [])
      | .slice b o n _ => TextG h b o n K
      | _ => False
    | false => False
  | _ => False

section
variable {P : Program} {T : TT} {base : Nat} {W0 : World} {β : Bt} {nxt : Nat} {h : H} {w : World} {fr : Fr} {a : Act}

def YldR (P : Program) (β : Bt) (s : Sem Next) (w : World) (K : AV → Prop) : Prop := ∃ v cv, RV β v cv ∧ s.run P w = .ok (.value cv) w ∧ K v

theorem Sim.cell (s : Sim base W0 β nxt h w) {b o : Nat} {own : Bool} {sz : Nat} {cs : List AV} {v : AV} {p : Pos} (hb : h b = some (.cells own sz cs)) (hv : cs[o]? = some v) (hp : β b = some p) :
    ∃ cv, w.cell? ⟨p.blk, p.off + o, none⟩ = some cv ∧ RV β v cv := s.read hb hp hv

theorem getElem?_take_drop (cs : List AV) (o n j : Nat) (v : AV) (h : ((cs.drop o).take n)[j]? = some v) : cs[o + j]? = some v ∧ j < n := by
  rw [List.getElem?_take] at h
  split at h
  · rename_i hj
    rw [List.getElem?_drop] at h
    exact ⟨h, hj⟩
  · cases h

/-- cells of a block as a list of values -/
theorem Sim.cells (s : Sim base W0 β nxt h w) {b o n : Nat} {own : Bool} {sz : Nat} {cs : List AV} {p : Pos} (hb : h b = some (.cells own sz cs)) (hp : β b = some p) (hn : o + n ≤ cs.length) :
    ∃ vs : List Value, vs.length = n ∧ RVs β ((cs.drop o).take n) vs ∧ ∀ j v, vs[j]? = some v → w.cell? ⟨p.blk, p.off + o + j, none⟩ = some v := by
  obtain ⟨q, h1, arr, e, frz, h2, _, h4, h5, _⟩ := s.live b _ hb
  rw [hp] at h1
  injection h1 with h1
  subst h1
  refine ⟨((arr.toList.drop (p.off + o)).take n), by simp; omega, ?_, fun j v hj => ?_⟩
  · have := (h5.drop o).take n
    have e1 : (((arr.toList.drop p.off).take cs.length).drop o).take n = (arr.toList.drop (p.off + o)).take n := by
      rw [List.drop_take, List.take_take, List.drop_drop]
      congr 1
      omega
    rwa [e1] at this
  · rw [List.getElem?_take] at hj
    split at hj
    · rw [List.getElem?_drop] at hj
      simp only [Array.getElem?_toList] at hj
      simp [World.cell?, h2, hj, Nat.add_assoc]
      simpa [Nat.add_assoc] using hj
    · cases hj

theorem bytes_back (s : List UInt8) : (s.map fun c : UInt8 => (c.toNat : Int)).foldl (fun (r : ByteArray) n => r.push (UInt8.ofNat n.toNat)) ByteArray.empty = ⟨s.toArray⟩ := by
  have key : ∀ (s : List UInt8) (acc : ByteArray), (s.map fun c : UInt8 => (c.toNat : Int)).foldl (fun (r : ByteArray) n => r.push (UInt8.ofNat n.toNat)) acc = ⟨(acc.data.toList ++ s).toArray⟩ := by
    intro s
    induction s with
    | nil => intro acc; simp
    | cons c r ih =>
      intro acc
      rw [List.map_cons, List.foldl_cons, ih]
      simp
  simpa using key s ByteArray.empty

theorem rvs_bytes {s : List UInt8} {vs : List Value} (r : RVs β (bytesAV s) vs) : vs = (s.map fun c : UInt8 => (c.toNat : Int)).map (Value.int .u8) := by
  induction s generalizing vs with
  | nil => exact List.eq_nil_of_length_eq_zero r.1.symm
  | cons c s ih =>
    cases vs with
    | nil => have := r.1; simp [bytesAV] at this
    | cons v vs =>
      obtain ⟨h1, h2⟩ := RVs.head (c := .int .u8 c.toNat) (cs := bytesAV s) r
      cases h1
      rw [ih h2]
      rfl

theorem vcR_sound {o : Oper} {K : AV → Prop} (tok : TOk P T) (s : Sim base W0 β nxt h w) (hf : FrRel β fr a) (hk : vcR T o.op fr h K) : YldR P β (execOp a.eval o) w K := by
  obtain ⟨dst, op, ty, pos, after, guard⟩ := o
  cases op <;> simp only [vcR] at hk
  case load t x =>
    split at hk
    · contradiction
    · rename_i d ht
      have hx := hf.ev x
      have hu := run_isAgg (P := P) (tok.under ht)
      dsimp only [execOp]
      generalize a.eval x = vx at hx ⊢
      split at hk
      · rename_i b o ex
        rw [ex] at hx
        cases hx with
        | @ptr _ _ p hb =>
        split at hk
        · rename_i hd
          obtain ⟨own, sz, cs, v, h1, h2, h3⟩ := hk
          obtain ⟨cv, h4, h5⟩ := s.cell h1 h2 hb
          exact ⟨v, cv, h5, by simp [Instr.loadAt, Instr.sureAddr, loadVar, hu, hd, h4], h3⟩
        · rename_i hd
          obtain ⟨own, sz, cs, h1, h2, h3⟩ := hk
          obtain ⟨vs, h4, h5, h6⟩ := s.cells h1 hb h2
          have h7 := run_loadCells_list (P := P) w ⟨p.blk, p.off + o, none⟩ vs (fun j v hj => by rw [Addr.add_lit]; exact h6 j v hj)
          rw [h4] at h7
          exact ⟨_, .agg vs.toArray, rvs_agg (by simpa using h5), by simp [Instr.loadAt, Instr.sureAddr, loadVar, hu, hd, run_size tok ht, h7], h3⟩
      · contradiction
  case convert sT t x =>
    split at hk
    · rename_i htx
      have hx := hf.ev x
      dsimp only [execOp]
      generalize a.eval x = vx at hx ⊢
      unfold textD at htx
      split at htx
      · rename_i d d' hs ht
        split at htx
        · rename_i e hd hd'
          split at htx
          · rename_i j he
            split at htx
            · rename_i hj
              have hu1 := tok.under hs
              have hu2 := tok.under ht
              have hu3 := tok.under he
              rw [hd] at hu1
              rw [hd'] at hu2
              rw [hj] at hu3
              split at hk
              · rename_i ex
                rw [ex] at hx
                cases hx
                refine ⟨_, _, .str [], ?_, hk⟩
                simp [convert, run_underlying hu1, run_underlying hu2, run_underlying hu3, Conv.bytesToString]
                rfl
              · rename_i b o n c ex
                rw [ex] at hx
                obtain ⟨own, sz, cs, str, h1, h2, h3, h4⟩ := hk
                cases hx with
                | @slice _ _ _ _ p cap co hb hc hn ho htt =>
                by_cases hn0 : n = 0
                · subst hn0
                  simp at h3
                  have hstr : str = [] := by cases str with
                    | nil => rfl
                    | cons c r => simp [bytesAV] at h3
                  subst hstr
                  refine ⟨_, _, .str [], ?_, h4⟩
                  have h7 := run_bytesToString (P := P) w ⟨p.blk, co, none⟩ 0 cap [] (by simp [loadCells, loadCellsFrom])
                  simp [run_convert_bytes_string w sT t e _ 0 cap hu1 hu3 hu2, h7]
                  rfl
                · obtain ⟨vs, h5, h6, h7⟩ := s.cells h1 hb h2
                  rw [h3] at h6
                  have h8 := rvs_bytes h6
                  have hco : co = p.off + o := by omega
                  subst hco
                  have h9 := run_loadCells_list (P := P) w ⟨p.blk, p.off + o, none⟩ vs (fun j v hj => by rw [Addr.add_lit]; exact h7 j v hj)
                  rw [h5, h8] at h9
                  have h10 := run_bytesToString (P := P) w ⟨p.blk, p.off + o, none⟩ n cap _ h9
                  rw [bytes_back] at h10
                  refine ⟨_, _, .str str, ?_, h4⟩
                  simp [run_convert_bytes_string w sT t e _ n cap hu1 hu3 hu2, h10]
              · contradiction
            · cases htx
          · cases htx
        · cases htx
      · cases htx
    · contradiction

end
end Go.Proofs.Ytcepogfmajlcjaa.Ab
