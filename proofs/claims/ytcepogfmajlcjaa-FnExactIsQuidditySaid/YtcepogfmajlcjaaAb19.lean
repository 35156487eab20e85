/-
  The library's nineteenth text proves laws of reading and of rows of numbers.
  It holds no condition of its own.
-/
import Derived.Test.YtcepogfmajlcjaaAb18
set_option linter.unusedVariables false
set_option linter.unusedSimpArgs false
namespace Go.Proofs.Ytcepogfmajlcjaa.Ab
open Go.RowKit

attribute [simp] ints_length

/-- a block that holds these cells -/
def Has (h : H) (b : Nat) (cs : List AV) : Prop := ∃ own sz, h b = some (.cells own sz cs)

theorem New.has {h0 h : H} {b : Nat} {cs : List AV} (n : New h0 h b cs) : Has h b cs := ⟨true, 1, n.cells⟩
theorem Has.keep {h h' : H} {b : Nat} {cs : List AV} (n : Has h b cs) (k : Keeps h h') : Has h' b cs := by
  obtain ⟨o, s, e⟩ := n
  exact ⟨o, s, k _ _ e⟩
theorem Has.oth {h h' : H} {b y : Nat} {cs : List AV} (n : Has h b cs) (k : Oth y h h') (hy : b ≠ y) : Has h' b cs := by
  obtain ⟨o, s, e⟩ := n
  exact ⟨o, s, k _ _ hy e⟩
theorem Has.load {h : H} {b : Nat} {cs : List AV} (n : Has h b cs) {o : Nat} {v : AV} {K : AV → Prop} (hv : cs[o]? = some v) (hk : K v) : LoadG h b o K := by
  obtain ⟨ow, s, e⟩ := n
  exact .mk ow s cs v e hv hk
theorem Has.new {h0 h : H} {b : Nat} {cs : List AV} (n : Has h0 b cs) (k : Keeps h0 h) : Has h b cs := n.keep k

theorem Has.loadI {h : H} {b : Nat} {l : List Int} (n : Has h b (ints l)) {o : Nat} {K : AV → Prop} (ho : o < l.length) (hk : K (.int .i64 (l.getD o 0))) : LoadG h b o K :=
  n.load (ints_get l o ho) hk
theorem New.loadI {h0 h : H} {b : Nat} {l : List Int} (n : New h0 h b (ints l)) {o : Nat} {K : AV → Prop} (ho : o < l.length) (hk : K (.int .i64 (l.getD o 0))) : LoadG h b o K :=
  n.has.loadI ho hk
theorem New.storeI {h0 h : H} {b : Nat} {l : List Int} (n : New h0 h b (ints l)) {o : Nat} {x : Int} {K : H → Prop} (ho : o < l.length)
    (hk : ∀ h', New h0 h' b (ints (l.set o x)) → Oth b h h' → K h') : StoreG h b o (.int .i64 x) K :=
  n.store (by simpa using ho) rfl fun h' hn => hk h' (by rw [← ints_set]; exact hn)
theorem New.appI {h0 h : H} {b bytes : Nat} {l : List Int} {x : Int} (n : New h0 h b (ints l)) {N C : Nat} {K : AV → H → Prop} (hN : N = l.length) (hb : l.length + 1 ≤ 1000000000) (hy : bytes ≤ 1000)
    (hk : ∀ b' h', New h0 h' b' (ints (l ++ [x])) → Oth b h h' → K (.slice b' 0 (N + 1) (N + 1)) h') : AppG h (.slice b 0 N C) bytes [.int .i64 x] 1 K :=
  n.app (by simpa using hN) (by
    have e : (l.length + 1) * bytes ≤ 1000000000 * 1000 := Nat.mul_le_mul hb hy
    rw [ints_length]
    omega) (by simp [AV.one]) fun b' h' hn => hk b' h' (by rw [ints_append]; exact hn)

/-- what the cells of a block that was just made are -/
theorem LoadsG.made {h : H} {b n : Nat} {cs : List AV} {K : List AV → Prop} (hn : n = cs.length) (hk : K cs) : LoadsG (upd h b (.cells true 1 cs)) b 0 n K := by
  subst hn
  exact .mk true 1 cs (upd_same _ _ _) (by omega) (by simpa using hk)

theorem Oth.has {h h' : H} {b y : Nat} {cs : List AV} (k : Oth y h h') (n : Has h b cs) (hy : b ≠ y) : Has h' b cs := n.oth k hy
theorem New.oth {h0 h h' h1 : H} {b y : Nat} {cs ds : List AV} (n : New h0 h b cs) (k : Oth y h h') (m : New h1 h' y ds) (hy : b ≠ y) (hk : Keeps h0 h') : New h0 h' b cs :=
  ⟨k _ _ hy n.cells, n.new, hk⟩

/-- a block of one's own that holds these cells -/
def Own (h : H) (b : Nat) (cs : List AV) : Prop := h b = some (.cells true 1 cs)
theorem New.own {h0 h : H} {b : Nat} {cs : List AV} (n : New h0 h b cs) : Own h b cs := n.cells
theorem Own.has {h : H} {b : Nat} {cs : List AV} (n : Own h b cs) : Has h b cs := ⟨true, 1, n⟩
theorem Own.keep {h h' : H} {b : Nat} {cs : List AV} (n : Own h b cs) (k : Keeps h h') : Own h' b cs := k _ _ n
theorem Own.oth {h h' : H} {b y : Nat} {cs : List AV} (n : Own h b cs) (k : Oth y h h') (hy : b ≠ y) : Own h' b cs := k _ _ hy n
theorem Own.storeI {h : H} {b : Nat} {l : List Int} (n : Own h b (ints l)) {o : Nat} {x : Int} {K : H → Prop} (ho : o < l.length)
    (hk : ∀ h', Own h' b (ints (l.set o x)) → Oth b h h' → K h') : StoreG h b o (.int .i64 x) K :=
  .mk 1 _ n (by simpa using ho) rfl (hk _ (by rw [← ints_set]; exact upd_same _ _ _) fun y x hy e => by rw [upd_ne _ _ hy]; exact e)
theorem Oth.refl (b : Nat) (h : H) : Oth b h h := fun _ _ _ e => e
theorem Oth.trans {b : Nat} {h h' h'' : H} (k : Oth b h h') (m : Oth b h' h'') : Oth b h h'' := fun y x hy e => m y x hy (k y x hy e)
theorem New.after {h0 h h' : H} {b : Nat} {cs cs' : List AV} (n : New h0 h b cs) (o : Own h' b cs') (k : Oth b h h') : New h0 h' b cs' :=
  ⟨o, n.new, fun y x e => k y x (fun e' => by subst e'; rw [n.new] at e; cases e) (n.keeps y x e)⟩
theorem New.ne {h0 h : H} {b y : Nat} {cs ds : List AV} (n : New h0 h b cs) (m : Has h0 y ds) : y ≠ b := by
  rintro rfl
  obtain ⟨o, s, e⟩ := m
  rw [n.new] at e
  cases e

theorem off1 {n sz : Nat} (hs : sz = 1) : 0 + mulSz n sz = n := by rw [mulSz_eq, hs]; omega
theorem Has.loadZ {h : H} {b : Nat} {l : List Int} (m : Has h b (ints l)) {n sz : Nat} (hs : sz = 1) {K : AV → Prop} (ho : n < l.length) (hk : K (.int .i64 (l.getD n 0))) : LoadG h b (0 + mulSz n sz) K := by
  rw [off1 hs]
  exact m.loadI ho hk
theorem New.loadZ {h0 h : H} {b : Nat} {l : List Int} (m : New h0 h b (ints l)) {n sz : Nat} (hs : sz = 1) {K : AV → Prop} (ho : n < l.length) (hk : K (.int .i64 (l.getD n 0))) : LoadG h b (0 + mulSz n sz) K :=
  m.has.loadZ hs ho hk
theorem Own.storeZ {h : H} {b : Nat} {l : List Int} (m : Own h b (ints l)) {n sz : Nat} (hs : sz = 1) {x : Int} {K : H → Prop} (ho : n < l.length)
    (hk : ∀ h', Own h' b (ints (l.set n x)) → Oth b h h' → K h') : StoreG h b (0 + mulSz n sz) (.int .i64 x) K := by
  rw [off1 hs]
  exact m.storeI ho hk
theorem New.storeZ {h0 h : H} {b : Nat} {l : List Int} (m : New h0 h b (ints l)) {n sz : Nat} (hs : sz = 1) {x : Int} {K : H → Prop} (ho : n < l.length)
    (hk : ∀ h', New h0 h' b (ints (l.set n x)) → Oth b h h' → K h') : StoreG h b (0 + mulSz n sz) (.int .i64 x) K := by
  rw [off1 hs]
  exact m.storeI ho hk

/-! Rows of numbers by their places -/
def tab (n : Nat) (f : Nat → Int) : List Int := (List.range n).map f
@[simp] theorem tab_length (n : Nat) (f : Nat → Int) : (tab n f).length = n := by simp [tab]
theorem tab_getD {n i : Nat} (f : Nat → Int) (h : i < n) : (tab n f).getD i 0 = f i := by simp [tab, List.getD, h]
theorem tab_congr {n : Nat} {f g : Nat → Int} (h : ∀ i, i < n → f i = g i) : tab n f = tab n g := by
  unfold tab
  exact List.map_congr_left fun i hi => h i (by simpa using hi)
theorem tab_set (n : Nat) (f : Nat → Int) (j : Nat) (x : Int) : (tab n f).set j x = tab n fun i => if i = j then x else f i := by
  apply List.ext_getElem
  · simp
  · intro i h1 h2
    simp only [tab, List.getElem_set, List.getElem_map, List.getElem_range]
    by_cases e : j = i
    · simp [e]
    · rw [if_neg e, if_neg (fun e' => e e'.symm)]
theorem tab_of (l : List Int) : l = tab l.length fun i => l.getD i 0 := by
  apply List.ext_getElem
  · simp
  · intro i h1 h2
    simp [tab, List.getD, h1]
theorem tab_succ (n : Nat) (f : Nat → Int) : tab (n + 1) f = tab n f ++ [f n] := by simp [tab, List.range_succ]
theorem tab_zero (f : Nat → Int) : tab 0 f = [] := rfl
theorem tab_replicate (n : Nat) (x : Int) : List.replicate n x = tab n fun _ => x := by
  apply List.ext_getElem
  · simp
  · intro i h1 h2
    simp [tab]

theorem zeros_eq (n : Nat) : List.replicate n (AV.int .i64 0) = ints (tab n fun _ => 0) := by rw [← tab_replicate, ← ints_replicate]

theorem New.made {h0 h : H} {b : Nat} {cs cs' : List AV} (k : Keeps h0 h) (hb : h b = none) (e : cs = cs') : New h0 (Ab.upd h b (.cells true 1 cs)) b cs' := e ▸ New.make k hb

theorem Ck.slice {l c : Int} {B : Nat} {P : Prop} (h0 : 0 ≤ l) (h1 : l ≤ c) (h2 : c ≤ 1000000000) (h3 : B ≤ 1000) (hp : P) : Ck (0 ≤ l ∧ l ≤ c ∧ c * (B : Int) ≤ 140737488355328 ∧ c ≤ 9223372036854775807) P :=
  Ck.mk ⟨h0, h1, by have := Int.mul_le_mul h2 (show (B : Int) ≤ 1000 by omega) (by omega) (by omega); omega, by omega⟩ hp

theorem NewG.zeros {h : H} {n : Nat} {z : AV} {K : Nat → H → Prop} (hz : z = .int .i64 0) (hk : ∀ b h', h b = none → New h h' b (ints (tab n fun _ => 0)) → K b h') : NewG h (.cells true 1 (List.replicate n z)) K := by
  subst hz
  exact ⟨fun b hb => hk b _ hb (New.made (Keeps.refl _) hb (zeros_eq n))⟩

end Go.Proofs.Ytcepogfmajlcjaa.Ab
