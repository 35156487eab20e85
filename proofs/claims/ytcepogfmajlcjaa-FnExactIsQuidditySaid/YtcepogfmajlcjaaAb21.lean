/-
  The library's twenty-first text proves laws of all blocks of one's own at once.
  It holds no condition of its own.
-/
import Derived.Test.YtcepogfmajlcjaaAb20
set_option linter.unusedVariables false
set_option linter.unusedSimpArgs false
namespace Go.Proofs.Ytcepogfmajlcjaa.Ab
open Go.RowKit

/-- a row of cells of one's own -/
abbrev row (cs : List AV) : Blk := .cells true 1 cs

/-- blocks that were made since, as they are now; what was there before is as it was -/
structure St (h0 h : H) (L : List (Nat × Blk)) : Prop where
  keeps : Keeps h0 h
  is : ∀ p ∈ L, h p.1 = some p.2
  new : ∀ p ∈ L, h0 p.1 = none
  nodup : (L.map Prod.fst).Nodup

section
variable {h0 h h' : H} {L A B : List (Nat × Blk)} {b b' i : Nat} {x x' : Blk}

theorem St.refl (h : H) : St h h [] := ⟨Keeps.refl h, fun p hp => (nomatch hp), fun p hp => (nomatch hp), List.nodup_nil⟩

theorem St.apart (s : St h0 h L) (hb : h b = none) : ∀ p ∈ L, p.1 ≠ b := fun p hp e => by
  have := s.is p hp
  rw [e, hb] at this
  cases this

theorem St.put (s : St h0 h L) (hb : h b = none) (x : Blk) : St h0 (upd h b x) ((b, x) :: L) := by
  refine ⟨s.keeps.upd hb x, fun p hp => ?_, fun p hp => ?_, ?_⟩
  · cases hp with
    | head => exact upd_same _ _ _
    | tail _ hp => rw [upd_ne _ _ (s.apart hb p hp)]; exact s.is p hp
  · cases hp with
    | head => exact s.keeps.none hb
    | tail _ hp => exact s.new p hp
  · rw [List.map_cons, List.nodup_cons]
    refine ⟨fun hm => ?_, s.nodup⟩
    obtain ⟨p, hp, e⟩ := List.mem_map.1 hm
    exact s.apart hb p hp e

theorem St.mid (s : St h0 h (A ++ (b, x) :: B)) : (∀ p ∈ A, p.1 ≠ b) ∧ ∀ p ∈ B, p.1 ≠ b := by
  have n := s.nodup
  rw [List.map_append, List.map_cons, List.nodup_append, List.nodup_cons] at n
  exact ⟨fun p hp => n.2.2 _ (List.mem_map.2 ⟨p, hp, rfl⟩) _ (.head _), fun p hp e => n.2.1.1 (e ▸ List.mem_map.2 ⟨p, hp, rfl⟩)⟩

theorem St.swap (s : St h0 h (A ++ (b, x) :: B)) (e1 : h' b' = some x') (e2 : ∀ y z, y ≠ b → h y = some z → h' y = some z) (e3 : h0 b' = none)
    (e4 : (∀ p ∈ A, p.1 ≠ b') ∧ ∀ p ∈ B, p.1 ≠ b') : St h0 h' (A ++ (b', x') :: B) := by
  have m := s.mid
  have nb : h0 b = none := s.new (b, x) (List.mem_append_right _ (.head _))
  refine ⟨fun y z e => e2 y z (fun e' => by subst e'; rw [nb] at e; cases e) (s.keeps y z e), fun p hp => ?_, fun p hp => ?_, ?_⟩
  · rcases List.mem_append.1 hp with hp | hp
    · exact e2 _ _ (m.1 p hp) (s.is p (List.mem_append_left _ hp))
    · cases hp with
      | head => exact e1
      | tail _ hp => exact e2 _ _ (m.2 p hp) (s.is p (List.mem_append_right _ (.tail _ hp)))
  · rcases List.mem_append.1 hp with hp | hp
    · exact s.new p (List.mem_append_left _ hp)
    · cases hp with
      | head => exact e3
      | tail _ hp => exact s.new p (List.mem_append_right _ (.tail _ hp))
  · have n := s.nodup
    rw [List.map_append, List.map_cons, List.nodup_append, List.nodup_cons] at n ⊢
    refine ⟨n.1, ⟨fun hm => ?_, n.2.1.2⟩, fun y hy z hz => ?_⟩
    · obtain ⟨p, hp, e⟩ := List.mem_map.1 hm
      exact e4.2 p hp e
    · cases hz with
      | head =>
        obtain ⟨p, hp, e⟩ := List.mem_map.1 hy
        subst e
        exact e4.1 p hp
      | tail _ hz => exact n.2.2 y hy z (.tail _ hz)

theorem St.set (s : St h0 h (A ++ (b, x) :: B)) (x' : Blk) : St h0 (upd h b x') (A ++ (b, x') :: B) :=
  s.swap (upd_same _ _ _) (fun y z hy e => by rw [upd_ne _ _ hy]; exact e) (s.new (b, x) (List.mem_append_right _ (.head _))) s.mid

theorem St.move (s : St h0 h (A ++ (b, x) :: B)) (hb' : h b' = none) (x' : Blk) : St h0 (upd (kill h b) b' x') (A ++ (b', x') :: B) :=
  s.swap (upd_same _ _ _) (fun y z hy e => by rw [upd_ne _ _ (fun e' => by subst e'; rw [e] at hb'; cases hb'), kill_ne _ hy]; exact e) (s.keeps.none hb')
    ⟨fun p hp => s.apart hb' p (List.mem_append_left _ hp), fun p hp => s.apart hb' p (List.mem_append_right _ (.tail _ hp))⟩

theorem St.keep (s : St h0 h L) (k : Keeps h h') : St h0 h' L := ⟨s.keeps.trans k, fun p hp => k _ _ (s.is p hp), s.new, s.nodup⟩

/-- a callee's blocks beside one's own -/
theorem St.call {M : List (Nat × Blk)} (s : St h0 h L) (t : St h h' M) : St h0 h' (M ++ L) := by
  refine ⟨s.keeps.trans t.keeps, fun p hp => ?_, fun p hp => ?_, ?_⟩
  · rcases List.mem_append.1 hp with hp | hp
    · exact t.is p hp
    · exact t.keeps _ _ (s.is p hp)
  · rcases List.mem_append.1 hp with hp | hp
    · exact s.keeps.none (t.new p hp)
    · exact s.new p hp
  · rw [List.map_append, List.nodup_append]
    refine ⟨t.nodup, s.nodup, fun y hy z hz e => ?_⟩
    obtain ⟨p, hp, e1⟩ := List.mem_map.1 hy
    obtain ⟨q, hq, e2⟩ := List.mem_map.1 hz
    have h1 := t.new p hp
    have h2 := s.is q hq
    rw [e1, e, ← e2, h2] at h1
    cases h1

theorem St.perm {L' : List (Nat × Blk)} (s : St h0 h L) (p : L.Perm L') : St h0 h L' :=
  ⟨s.keeps, fun q hq => s.is q (p.mem_iff.2 hq), fun q hq => s.new q (p.mem_iff.2 hq), (p.map _).nodup_iff.1 s.nodup⟩

theorem St.sub {L' : List (Nat × Blk)} (s : St h0 h L) (p : L'.Sublist L) : St h0 h L' :=
  ⟨s.keeps, fun q hq => s.is q (p.subset hq), fun q hq => s.new q (p.subset hq), (p.map _).nodup s.nodup⟩

theorem St.tail {p : Nat × Blk} (s : St h0 h (p :: L)) : St h0 h L := s.sub (List.sublist_cons_self _ _)

/-- the outer view: what was there before is older still -/
theorem St.older {h1 : H} (k : Keeps h1 h0) (s : St h0 h L) : St h1 h L := ⟨k.trans s.keeps, s.is, fun p hp => k.none (s.new p hp), s.nodup⟩

theorem New.st {cs : List AV} (n : New h0 h b cs) : St h0 h [(b, row cs)] :=
  ⟨n.keeps, fun p hp => by cases List.mem_singleton.1 hp; exact n.cells, fun p hp => by cases List.mem_singleton.1 hp; exact n.new, by simp⟩
theorem St.toNew {cs : List AV} (s : St h0 h ((b, row cs) :: L)) : New h0 h b cs := ⟨s.is _ (.head _), s.new _ (.head _), s.keeps⟩
theorem St.newCall {cs : List AV} {h' : H} (s : St h0 h L) (n : New h h' b cs) : St h0 h' ((b, row cs) :: L) := s.call n.st

/-! by places -/
inductive Spot {α : Type} : List α → α → α → List α → Prop where
  | here {a q : α} {l : List α} : Spot (a :: l) a q (q :: l)
  | there {a q z : α} {l l' : List α} (s : Spot l a q l') : Spot (z :: l) a q (z :: l')

theorem Spot.split {α : Type} {L L' : List α} {p q : α} (s : Spot L p q L') : ∃ A B, L = A ++ p :: B ∧ L' = A ++ q :: B := by
  induction s with
  | here => exact ⟨[], _, rfl, rfl⟩
  | there s ih =>
    obtain ⟨A, B, e1, e2⟩ := ih
    exact ⟨_ :: A, B, by rw [e1]; rfl, by rw [e2]; rfl⟩

theorem St.setAt {L' : List (Nat × Blk)} (s : St h0 h L) (sp : Spot L (b, x) (b, x') L') : St h0 (upd h b x') L' := by
  obtain ⟨A, B, rfl, rfl⟩ := sp.split
  exact s.set x'
theorem St.moveAt {L' : List (Nat × Blk)} (s : St h0 h L) (sp : Spot L (b, x) (b', x') L') (hb' : h b' = none) : St h0 (upd (kill h b) b' x') L' := by
  obtain ⟨A, B, rfl, rfl⟩ := sp.split
  exact s.move hb' x'
theorem Spot.mem {α : Type} {L L' : List α} {p q : α} (s : Spot L p q L') : p ∈ L := by
  obtain ⟨A, B, rfl, rfl⟩ := s.split
  exact List.mem_append_right _ (.head _)

theorem St.has {o : Bool} {sz : Nat} {cs : List AV} (s : St h0 h L) (hi : (b, .cells o sz cs) ∈ L) : Has h b cs := ⟨o, sz, s.is _ hi⟩
theorem St.arg {cs : List AV} (s : St h0 h L) (m : Has h0 b cs) : Has h b cs := m.keep s.keeps
theorem St.own {cs : List AV} (s : St h0 h L) (hi : (b, row cs) ∈ L) : Own h b cs := s.is _ hi
theorem St.ownSet {cs cs' : List AV} {L' : List (Nat × Blk)} (s : St h0 h L) (o : Own h' b cs') (k : Oth b h h') (sp : Spot L (b, row cs) (b, row cs') L') : St h0 h' L' := by
  obtain ⟨A, B, rfl, rfl⟩ := sp.split
  exact s.swap o k (s.new (b, row cs) (List.mem_append_right _ (.head _))) s.mid

/-! rows of truths -/
def bools (l : List Bool) : List AV := l.map AV.bool
@[simp] theorem bools_length (l : List Bool) : (bools l).length = l.length := List.length_map _
theorem bools_get (l : List Bool) (i : Nat) (h : i < l.length) : (bools l)[i]? = some (.bool (l.getD i false)) := by
  unfold bools
  rw [List.getElem?_map, List.getElem?_eq_getElem h]
  simp [List.getD, h]
theorem bools_set (l : List Bool) (i : Nat) (x : Bool) : (bools l).set i (.bool x) = bools (l.set i x) := by
  unfold bools
  rw [List.map_set]
theorem bools_replicate (n : Nat) : List.replicate n (AV.bool false) = bools (List.replicate n false) := by
  unfold bools
  rw [List.map_replicate]
theorem Has.loadB {l : List Bool} (m : Has h b (bools l)) {n sz : Nat} (hs : sz = 1) {K : AV → Prop} (ho : n < l.length) (hk : K (.bool (l.getD n false))) : LoadG h b (0 + mulSz n sz) K := by
  rw [off1 hs]
  exact m.load (bools_get l n ho) hk
theorem Has.load1 {v : AV} {K : AV → Prop} (m : Has h b [v]) (hk : K v) : LoadG h b 0 K := m.load rfl hk

/-! the checks, met -/
theorem NewG.st {K : Nat → H → Prop} (s : St h0 h L) (hk : ∀ b h', St h0 h' ((b, x) :: L) → K b h') : NewG h x K :=
  ⟨fun b hb => hk b _ (s.put hb x)⟩
theorem NewG.stZ {K : Nat → H → Prop} {n : Nat} {z : AV} (s : St h0 h L) (hz : z = .int .i64 0) (hk : ∀ b h', St h0 h' ((b, row (ints (List.replicate n 0))) :: L) → K b h') : NewG h (.cells true 1 (List.replicate n z)) K := by
  subst hz
  rw [ints_replicate]
  exact .st s hk
theorem NewG.stB {K : Nat → H → Prop} {n : Nat} {z : AV} (s : St h0 h L) (hz : z = .bool false) (hk : ∀ b h', St h0 h' ((b, row (bools (List.replicate n false))) :: L) → K b h') : NewG h (.cells true 1 (List.replicate n z)) K := by
  subst hz
  rw [bools_replicate]
  exact .st s hk
theorem NewG.stS {K : Nat → H → Prop} {n : Nat} {z : AV} (s : St h0 h L) (hz : z = .str []) (hk : ∀ b h', St h0 h' ((b, row (strs (List.replicate n []))) :: L) → K b h') : NewG h (.cells true 1 (List.replicate n z)) K := by
  subst hz
  have e : List.replicate n (AV.str []) = strs (List.replicate n []) := by unfold strs; rw [List.map_replicate]
  rw [e]
  exact .st s hk

theorem StoreG.st {K : H → Prop} {sz o : Nat} {cs : List AV} {v : AV} {L' : List (Nat × Blk)} (s : St h0 h L) (sp : Spot L (b, .cells true sz cs) (b, .cells true sz (cs.set o v)) L') (ho : o < cs.length) (h1 : v.one = true)
    (hk : ∀ h', St h0 h' L' → K h') : StoreG h b o v K :=
  .mk sz cs (s.is _ sp.mem) ho h1 (hk _ (s.setAt sp))
theorem StoreG.stZ {K : H → Prop} {n sz : Nat} {l : List (Int)} {y : Int} {L' : List (Nat × Blk)} (s : St h0 h L) (sp : Spot L (b, row (ints l)) (b, row (ints (l.set n y))) L') (hs : sz = 1) (ho : n < l.length)
    (hk : ∀ h', St h0 h' L' → K h') : StoreG h b (0 + mulSz n sz) (.int .i64 y) K := by
  rw [off1 hs]
  exact .st s (by rw [ints_set]; exact sp) (by simpa using ho) rfl hk
theorem StoreG.stB {K : H → Prop} {n sz : Nat} {l : List (Bool)} {y : Bool} {L' : List (Nat × Blk)} (s : St h0 h L) (sp : Spot L (b, row (bools l)) (b, row (bools (l.set n y))) L') (hs : sz = 1) (ho : n < l.length)
    (hk : ∀ h', St h0 h' L' → K h') : StoreG h b (0 + mulSz n sz) (.bool y) K := by
  rw [off1 hs]
  exact .st s (by rw [bools_set]; exact sp) (by simpa using ho) rfl hk
theorem StoreG.stS {K : H → Prop} {n sz : Nat} {l : List (List UInt8)} {y : List UInt8} {L' : List (Nat × Blk)} (s : St h0 h L) (sp : Spot L (b, row (strs l)) (b, row (strs (l.set n y))) L') (hs : sz = 1) (ho : n < l.length)
    (hk : ∀ h', St h0 h' L' → K h') : StoreG h b (0 + mulSz n sz) (.str y) K := by
  rw [off1 hs]
  exact .st s (by rw [strs_set]; exact sp) (by simpa using ho) rfl hk
/-- a variable that is shared -/
theorem StoreG.st1 {K : H → Prop} {sz : Nat} {u v : AV} {L' : List (Nat × Blk)} (s : St h0 h L) (sp : Spot L (b, .cells true sz [u]) (b, .cells true sz [v]) L') (h1 : v.one = true)
    (hk : ∀ h', St h0 h' L' → K h') : StoreG h b 0 v K :=
  .st s sp (by simp) h1 hk

theorem AppG.st {K : AV → H → Prop} {m bytes N C : Nat} {cs news : List AV} {L' : Nat → List (Nat × Blk)} (s : St h0 h L) (sp : ∀ b', Spot L (b, row cs) (b', row (cs ++ news)) (L' b')) (hN : N = cs.length) (hb : (cs.length + m) * bytes ≤ 140737488355328) (h1 : ∀ v ∈ news, v.one = true)
    (hk : ∀ b' h', St h0 h' (L' b') → K (.slice b' 0 (N + m) (N + m)) h') : AppG h (.slice b 0 N C) bytes news m K := by
  subst hN
  refine .grow b _ C cs rfl (s.is _ (sp 0).mem) (Nat.le_refl _) hb h1 fun b' hb' => ?_
  rw [List.take_length]
  exact hk b' _ (s.moveAt (sp b') hb')
theorem AppG.stZ {K : AV → H → Prop} {bytes N C : Nat} {l : List (Int)} {y : Int} {L' : Nat → List (Nat × Blk)} (s : St h0 h L) (sp : ∀ b', Spot L (b, row (ints l)) (b', row (ints (l ++ [y]))) (L' b')) (hN : N = l.length) (hb : l.length + 1 ≤ 1000000000) (hy : bytes ≤ 1000)
    (hk : ∀ b' h', St h0 h' (L' b') → K (.slice b' 0 (N + 1) (N + 1)) h') : AppG h (.slice b 0 N C) bytes [.int .i64 y] 1 K :=
  .st s (fun b' => (by have := sp b'; rw [ints_append] at this; exact this)) (by simpa using hN) (by
    have e : (l.length + 1) * bytes ≤ 1000000000 * 1000 := Nat.mul_le_mul hb hy
    rw [ints_length]
    omega) (by intro v hv; obtain ⟨z, _, rfl⟩ := List.mem_map.1 (show v ∈ ints [y] from hv); rfl) hk
theorem AppG.stZs {K : AV → H → Prop} {bytes N C : Nat} {l r : List (Int)} {m : Nat} {L' : Nat → List (Nat × Blk)} (s : St h0 h L) (sp : ∀ b', Spot L (b, row (ints l)) (b', row (ints (l ++ r))) (L' b')) (hN : N = l.length) (hb : l.length + m ≤ 1000000000) (hy : bytes ≤ 1000)
    (hk : ∀ b' h', St h0 h' (L' b') → K (.slice b' 0 (N + m) (N + m)) h') : AppG h (.slice b 0 N C) bytes (ints r) m K :=
  .st s (fun b' => (by have := sp b'; rw [ints_append] at this; exact this)) (by simpa using hN) (by
    have e : (l.length + m) * bytes ≤ 1000000000 * 1000 := Nat.mul_le_mul hb hy
    rw [ints_length]
    omega) (by intro v hv; obtain ⟨z, _, rfl⟩ := List.mem_map.1 (show v ∈ ints r from hv); rfl) hk
theorem AppG.stS {K : AV → H → Prop} {bytes N C : Nat} {l : List (List UInt8)} {y : List UInt8} {L' : Nat → List (Nat × Blk)} (s : St h0 h L) (sp : ∀ b', Spot L (b, row (strs l)) (b', row (strs (l ++ [y]))) (L' b')) (hN : N = l.length) (hb : l.length + 1 ≤ 1000000000) (hy : bytes ≤ 1000)
    (hk : ∀ b' h', St h0 h' (L' b') → K (.slice b' 0 (N + 1) (N + 1)) h') : AppG h (.slice b 0 N C) bytes [.str y] 1 K :=
  .st s (fun b' => (by have := sp b'; rw [strs_append] at this; exact this)) (by simpa using hN) (by
    have e : (l.length + 1) * bytes ≤ 1000000000 * 1000 := Nat.mul_le_mul hb hy
    rw [strs_length]
    omega) (by intro v hv; obtain ⟨z, _, rfl⟩ := List.mem_map.1 (show v ∈ strs [y] from hv); rfl) hk
theorem AppG.stSs {K : AV → H → Prop} {bytes N C : Nat} {l r : List (List UInt8)} {m : Nat} {L' : Nat → List (Nat × Blk)} (s : St h0 h L) (sp : ∀ b', Spot L (b, row (strs l)) (b', row (strs (l ++ r))) (L' b')) (hN : N = l.length) (hb : l.length + m ≤ 1000000000) (hy : bytes ≤ 1000)
    (hk : ∀ b' h', St h0 h' (L' b') → K (.slice b' 0 (N + m) (N + m)) h') : AppG h (.slice b 0 N C) bytes (strs r) m K :=
  .st s (fun b' => (by have := sp b'; rw [strs_append] at this; exact this)) (by simpa using hN) (by
    have e : (l.length + m) * bytes ≤ 1000000000 * 1000 := Nat.mul_le_mul hb hy
    rw [strs_length]
    omega) (by intro v hv; obtain ⟨z, _, rfl⟩ := List.mem_map.1 (show v ∈ strs r from hv); rfl) hk
/-- one made row is read whole -/
theorem LoadsG.has {cs : List AV} {n : Nat} {K : List AV → Prop} (m : Has h b cs) (hn : n = cs.length) (hk : K cs) : LoadsG h b 0 n K := m.loads hn hk

end

end Go.Proofs.Ytcepogfmajlcjaa.Ab
