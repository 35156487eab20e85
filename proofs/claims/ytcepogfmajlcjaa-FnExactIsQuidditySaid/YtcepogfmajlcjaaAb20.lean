/-
  The library's twentieth text proves laws of rows of texts.
  It holds no condition of its own.
-/
import Derived.Test.YtcepogfmajlcjaaAb19
set_option linter.unusedVariables false
set_option linter.unusedSimpArgs false
namespace Go.Proofs.Ytcepogfmajlcjaa.Ab
open Go.RowKit

/-- texts as cells -/
def strs (l : List (List UInt8)) : List AV := l.map AV.str
@[simp] theorem strs_length (l : List (List UInt8)) : (strs l).length = l.length := List.length_map _
theorem strs_get (l : List (List UInt8)) (i : Nat) (h : i < l.length) : (strs l)[i]? = some (.str (l.getD i [])) := by
  unfold strs
  rw [List.getElem?_map, List.getElem?_eq_getElem h]
  simp [List.getD, h]
theorem strs_append (a b : List (List UInt8)) : strs (a ++ b) = strs a ++ strs b := List.map_append
theorem strs_set (l : List (List UInt8)) (i : Nat) (x : List UInt8) : (strs l).set i (.str x) = strs (l.set i x) := by
  unfold strs
  rw [List.map_set]
theorem strs_one (l : List (List UInt8)) : ∀ v ∈ strs l, v.one = true := by
  intro v hv
  unfold strs at hv
  obtain ⟨x, _, rfl⟩ := List.mem_map.1 hv
  rfl

theorem Has.loadS {h : H} {b : Nat} {l : List (List UInt8)} (m : Has h b (strs l)) {n sz : Nat} (hs : sz = 1) {K : AV → Prop} (ho : n < l.length) (hk : K (.str (l.getD n []))) : LoadG h b (0 + mulSz n sz) K := by
  rw [off1 hs]
  exact m.load (strs_get l n ho) hk
theorem New.loadS {h0 h : H} {b : Nat} {l : List (List UInt8)} (m : New h0 h b (strs l)) {n sz : Nat} (hs : sz = 1) {K : AV → Prop} (ho : n < l.length) (hk : K (.str (l.getD n []))) : LoadG h b (0 + mulSz n sz) K :=
  m.has.loadS hs ho hk
theorem Own.storeS {h : H} {b : Nat} {l : List (List UInt8)} (m : Own h b (strs l)) {n sz : Nat} (hs : sz = 1) {x : List UInt8} {K : H → Prop} (ho : n < l.length)
    (hk : ∀ h', Own h' b (strs (l.set n x)) → Oth b h h' → K h') : StoreG h b (0 + mulSz n sz) (.str x) K := by
  rw [off1 hs]
  exact .mk 1 _ m (by simpa using ho) rfl (hk _ (by rw [← strs_set]; exact upd_same _ _ _) fun y x hy e => by rw [upd_ne _ _ hy]; exact e)
theorem New.appS {h0 h : H} {b bytes m : Nat} {l r : List (List UInt8)} (n : New h0 h b (strs l)) {N C : Nat} {K : AV → H → Prop} (hN : N = l.length) (hb : l.length + m ≤ 1000000000) (hy : bytes ≤ 1000)
    (hk : ∀ b' h', New h0 h' b' (strs (l ++ r)) → Oth b h h' → K (.slice b' 0 (N + m) (N + m)) h') : AppG h (.slice b 0 N C) bytes (strs r) m K :=
  n.app (by simpa using hN) (by
    have e : (l.length + m) * bytes ≤ 1000000000 * 1000 := Nat.mul_le_mul hb hy
    rw [strs_length]
    omega) (strs_one r) fun b' h' hn => hk b' h' (by rw [strs_append]; exact hn)

theorem Wr.u8 {x : Int} {K : Int → Prop} (h : 0 ≤ x ∧ x ≤ 255) (hk : K x) : Wr .u8 x K := .fit (IntWalk.u8_in x h) hk
theorem Wr.u32 {x : Int} {K : Int → Prop} (h : 0 ≤ x ∧ x ≤ 4294967295) (hk : K x) : Wr .u32 x K := .fit (IntWalk.u32_in x h) hk
theorem Wr.u64 {x : Int} {K : Int → Prop} (h : 0 ≤ x ∧ x ≤ 18446744073709551615) (hk : K x) : Wr .u64 x K := .fit (IntWalk.u64_in x h) hk

theorem Has.loads {h : H} {b n : Nat} {cs : List AV} (m : Has h b cs) {K : List AV → Prop} (hn : n = cs.length) (hk : K cs) : LoadsG h b 0 n K := by
  subst hn
  obtain ⟨o, s, e⟩ := m
  exact .mk o s cs e (by omega) (by simpa using hk)
theorem New.loads {h0 h : H} {b n : Nat} {cs : List AV} (m : New h0 h b cs) {K : List AV → Prop} (hn : n = cs.length) (hk : K cs) : LoadsG h b 0 n K := m.has.loads hn hk

/-! one's own cells -/
theorem Own.load1 {h : H} {b : Nat} {v : AV} {K : AV → Prop} (m : Own h b [v]) (hk : K v) : LoadG h b 0 K := m.has.load rfl hk
theorem Own.store1 {h : H} {b : Nat} {v x : AV} {K : H → Prop} (m : Own h b [v]) (h1 : x.one = true) (hk : ∀ h', Own h' b [x] → Oth b h h' → K h') : StoreG h b 0 x K :=
  .mk 1 _ m (by simp) h1 (hk _ (upd_same _ _ _) fun y x hy e => by rw [upd_ne _ _ hy]; exact e)
theorem Own.app {h : H} {b m bytes : Nat} {cs news : List AV} (n : Own h b cs) {N C : Nat} {K : AV → H → Prop} (hN : N = cs.length) (hb : (cs.length + m) * bytes ≤ 140737488355328) (h1 : ∀ v ∈ news, v.one = true)
    (hk : ∀ b' h', Own h' b' (cs ++ news) → h b' = none → Oth b h h' → K (.slice b' 0 (N + m) (N + m)) h') : AppG h (.slice b 0 N C) bytes news m K := by
  subst hN
  refine .grow b _ C cs rfl n (Nat.le_refl _) hb h1 fun b' hb' => ?_
  rw [List.take_length]
  refine hk b' _ (upd_same _ _ _) hb' fun y x hy e => ?_
  rw [upd_ne _ _ (fun e' => by subst e'; rw [e] at hb'; cases hb'), kill_ne _ hy]
  exact e
theorem Own.appS {h : H} {b bytes m : Nat} {l r : List (List UInt8)} (n : Own h b (strs l)) {N C : Nat} {K : AV → H → Prop} (hN : N = l.length) (hb : l.length + m ≤ 1000000000) (hy : bytes ≤ 1000)
    (hk : ∀ b' h', Own h' b' (strs (l ++ r)) → h b' = none → Oth b h h' → K (.slice b' 0 (N + m) (N + m)) h') : AppG h (.slice b 0 N C) bytes (strs r) m K :=
  n.app (by simpa using hN) (by
    have e : (l.length + m) * bytes ≤ 1000000000 * 1000 := Nat.mul_le_mul hb hy
    rw [strs_length]
    omega) (strs_one r) fun b' h' hn => hk b' h' (by rw [strs_append]; exact hn)
theorem Own.ne {h : H} {b y : Nat} {cs : List AV} (n : Own h b cs) (m : h y = none) : b ≠ y := by
  rintro rfl
  rw [n] at m
  cases m
theorem Keeps.oth {h0 h h' : H} {b : Nat} (k : Keeps h0 h) (hb : h0 b = Option.none) (o : Oth b h h') : Keeps h0 h' :=
  fun y x e => o y x (fun e' => by subst e'; rw [hb] at e; cases e) (k y x e)

end Go.Proofs.Ytcepogfmajlcjaa.Ab
