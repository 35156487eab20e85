/-
  The library's eighteenth text proves laws of blocks that a function has made itself.
  It holds no condition of its own.
-/
import Derived.Test.YtcepogfmajlcjaaAb17
set_option linter.unusedVariables false
set_option linter.unusedSimpArgs false
namespace Go.Proofs.Ytcepogfmajlcjaa.Ab
open Go.RowKit

/-- the whole numbers as cells -/
def ints (l : List Int) : List AV := l.map (AV.int .i64)
theorem ints_length (l : List Int) : (ints l).length = l.length := List.length_map _
theorem ints_get (l : List Int) (i : Nat) (h : i < l.length) : (ints l)[i]? = some (.int .i64 (l.getD i 0)) := by
  unfold ints
  rw [List.getElem?_map, List.getElem?_eq_getElem h]
  simp [List.getD, h]
theorem ints_append (a b : List Int) : ints (a ++ b) = ints a ++ ints b := List.map_append
theorem ints_set (l : List Int) (i : Nat) (x : Int) : (ints l).set i (.int .i64 x) = ints (l.set i x) := by
  unfold ints
  rw [List.map_set]
theorem ints_replicate (n : Nat) : List.replicate n (AV.int .i64 0) = ints (List.replicate n 0) := by
  unfold ints
  rw [List.map_replicate]

/-- all blocks but one are as they were -/
def Oth (b : Nat) (h h' : H) : Prop := ∀ y x, y ≠ b → h y = some x → h' y = some x

/-- a block of cells that was not there before; what was there is as it was -/
structure New (h0 h : H) (b : Nat) (cs : List AV) : Prop where
  cells : h b = some (.cells true 1 cs)
  new : h0 b = none
  keeps : Keeps h0 h

theorem New.make {h0 h : H} {b : Nat} {cs : List AV} (k : Keeps h0 h) (hb : h b = none) : New h0 (upd h b (.cells true 1 cs)) b cs :=
  ⟨upd_same _ _ _, k.none hb, k.upd hb _⟩

theorem New.upd {h0 h : H} {b b' : Nat} {cs : List AV} (n : New h0 h b cs) (hb : h b' = none) (x : Blk) : New h0 (Ab.upd h b' x) b cs :=
  ⟨by rw [upd_ne _ _ (fun e => by subst e; rw [n.cells] at hb; cases hb)]; exact n.cells, n.new, n.keeps.upd hb _⟩

theorem New.keep {h0 h h' : H} {b : Nat} {cs : List AV} (n : New h0 h b cs) (k : Keeps h h') : New h0 h' b cs :=
  ⟨k _ _ n.cells, n.new, n.keeps.trans k⟩

theorem New.load {h0 h : H} {b : Nat} {cs : List AV} (n : New h0 h b cs) {o : Nat} {v : AV} {K : AV → Prop} (hv : cs[o]? = some v) (hk : K v) : LoadG h b o K :=
  .mk true 1 cs v n.cells hv hk

theorem New.store {h0 h : H} {b : Nat} {cs : List AV} (n : New h0 h b cs) {o : Nat} {v : AV} {K : H → Prop} (ho : o < cs.length) (h1 : v.one = true)
    (hk : ∀ h', New h0 h' b (cs.set o v) → Oth b h h' → K h') : StoreG h b o v K :=
  .mk 1 cs n.cells ho h1 (hk _ ⟨upd_same _ _ _, n.new, n.keeps.updNew n.new _⟩ fun y x hy e => by rw [upd_ne _ _ hy]; exact e)

theorem New.app {h0 h : H} {b m bytes : Nat} {cs news : List AV} (n : New h0 h b cs) {N C : Nat} {K : AV → H → Prop} (hN : N = cs.length) (hb : (cs.length + m) * bytes ≤ 140737488355328) (h1 : ∀ v ∈ news, v.one = true)
    (hk : ∀ b' h', New h0 h' b' (cs ++ news) → Oth b h h' → K (.slice b' 0 (N + m) (N + m)) h') : AppG h (.slice b 0 N C) bytes news m K := by
  subst hN
  refine .grow b _ C cs rfl n.cells (Nat.le_refl _) hb h1 fun b' hb' => ?_
  rw [List.take_length]
  have h2 : h0 b' = none := n.keeps.none hb'
  have hne : b' ≠ b := fun e => by subst e; rw [n.cells] at hb'; cases hb'
  refine hk b' _ ⟨upd_same _ _ _, h2, ?_⟩ fun y x hy e => ?_
  · exact (n.keeps.killNew n.new).updNew h2 _
  · rw [upd_ne _ _ (fun e' => by subst e'; rw [e] at hb'; cases hb'), kill_ne _ hy]
    exact e

/-- a loop whose first round leaves it -/
theorem AW.once {E : Env} {n : Nat} {c : Code} {fr : Fr} {h : H} {Q : Exit → Fr → H → Prop} (hk : AW E n c fr h fun e fr h => match e with
    | .normal => False
    | e => Q e fr h) : AW E n (.loop c) fr h Q := by
  refine ⟨fun base W0 β nxt a w s hf hs b k cs => ?_⟩
  have key : ∃ e a' w', lift base W0 β nxt n Q e a' w' ∧ Arrives E.P (lone (b.at a (.code c :: .inLoop c :: k)) cs w) b k cs e a' w' := by
    obtain ⟨e, a1, w1, hq, harr⟩ := hk.run base W0 β nxt a w s hf hs b (.inLoop c :: k) cs
    cases e with
    | normal =>
      obtain ⟨β', nxt', fr', h', he, hx, s', hf', hs', hF⟩ := hq
      exact hF.elim
    | exit id =>
      obtain ⟨β', nxt', fr', h', he, hx, s', hf', hs', kk⟩ := hq
      exact ⟨.exit id, a1, w1, ⟨β', nxt', fr', h', he, hx, s', hf', hs', kk⟩, .pass (x := .inLoop c) rfl (fun _ _ => .inl (by simp)) harr⟩
    | goto l =>
      obtain ⟨β', nxt', fr', h', he, hx, s', hf', hs', kk⟩ := hq
      exact ⟨.goto l, a1, w1, ⟨β', nxt', fr', h', he, hx, s', hf', hs', kk⟩, .pass (x := .inLoop c) rfl (fun _ _ => .inl (by simp)) harr⟩
    | ret =>
      obtain ⟨β', nxt', fr', h', he, hx, s', hf', hs', kk⟩ := hq
      exact ⟨.ret, a1, w1, ⟨β', nxt', fr', h', he, hx, s', hf', hs', kk⟩, .pass (x := .inLoop c) rfl (fun _ _ => .inl (by simp)) harr⟩
    | panic ch => exact hq.elim
    | outgrown => exact hq.elim
  obtain ⟨e, a', w', hq, harr⟩ := key
  exact ⟨e, a', w', hq, .of_steps (.one step_loop) harr⟩

end Go.Proofs.Ytcepogfmajlcjaa.Ab
