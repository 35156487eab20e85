/-
  Contracts of ways of rotations and of distances are proved.
  They hold for all texts.
-/
import Derived.Test.YtbicfognbbeigaaGreatH28
import Derived.Test.YtbicfognbbeigaaGreatC60
import Derived.Test.YtbicfognbbeigaaGreatC102
import Derived.Test.YtbicfognbbeigaaGreatH16
import Derived.Test.YtbicfognbbeigaaGreatH20
import Derived.Test.YtbicfognbbeigaaGreatGZ
set_option linter.unusedVariables false
set_option linter.unusedSimpArgs false
namespace Go.Proofs.YtbicfognbbeigaaGreat
open Go.Proofs.YtbicfognbbeigaaGreat.Ab Go.Proofs.YtbicfognbbeigaaGreat.Pl

theorem ext_strs {l m : List (List UInt8)} (hl : l.length = m.length) (h : ∀ j, j < l.length → l.getD j [] = m.getD j []) : l = m := by
  refine List.ext_getElem hl fun j h1 h2 => ?_
  have := h j h1
  rwa [show l.getD j [] = l[j] by simp only [List.getD, List.getElem?_eq_getElem h1, Option.getD_some], show m.getD j [] = m[j] by simp only [List.getD, List.getElem?_eq_getElem h2, Option.getD_some]] at this
theorem getD_setS {l : List (List UInt8)} {i p : Nat} {x : List UInt8} (hi : i < l.length) : (l.set i x).getD p [] = if p = i then x else l.getD p [] := by
  by_cases c : p = i
  · subst c
    rw [if_pos rfl]
    simp [List.getD, hi]
  · rw [if_neg c]
    simp only [List.getD, List.getElem?_set_ne (Ne.symm c)]
theorem getD_rev {l : List (List UInt8)} {p : Nat} (h : p < l.length) : l.reverse.getD p [] = l.getD (l.length - 1 - p) [] := by
  have h2 : p < l.reverse.length := by simpa using h
  have h3 : l.length - 1 - p < l.length := by omega
  simp only [List.getD, List.getElem?_eq_getElem h2, List.getElem?_eq_getElem h3, Option.getD_some]
  exact List.getElem_reverse h2
set_option maxHeartbeats 1000000 in
theorem reverse_ok (l : List (List UInt8)) (b N C : Nat) (L : List (Nat × Blk)) (H0 hp : H) (hs : St H0 hp ((b, row (strs l)) :: L)) (hN : N = l.length) (hl : N ≤ 1000) : AC env 73 [.slice b 0 N C] hp fun w h' => w = .tup [] ∧ St H0 h' ((b, row (strs l.reverse)) :: L) := by
  refine AC.enter Tryz.func73 Tryz.call73 rfl Tryz.ntmps73 (of_decide_eq_true (by rfl)) ?_
  repeat' (first
    | refine AW.seq ?_
    | (refine AW.region ?_; conv => whnf)
    | refine AW.block ?_
    | (refine Wr.i64 (by omega) ?_; conv => whnf))
  refine AW.loop2 (fun (i : Nat) (m : List (List UInt8)) => [(0, .slice b 0 N C), (2, .int .i64 (i : Int)), (3, .int .i64 ((N : Int) - 1 - i))]) (fun i m h' => (2 * i ≤ N + 1 ∧ m.length = N ∧ ∀ p, p < N → m.getD p [] = if p < i ∨ N < p + 1 + i then l.getD (N - 1 - p) [] else l.getD p []) ∧ St H0 h' ((b, row (strs m)) :: L)) (fun i _ => N - i) 0 l
    (by rw [show (N : Int) - 1 - ((0 : Nat) : Int) = (N : Int) - 1 by omega]; exact (Less.cons rfl (Less.cons rfl (Less.cons rfl (Less.nil _))))) ⟨⟨by omega, hN.symm, fun p hp => by rw [if_neg (by omega)]⟩, hs⟩ ?_
  clear hs
  rintro i m h2 ⟨⟨hi, hm, hv⟩, hs2⟩
  by_cases hlt : i + 1 + i < N
  · obtain ⟨j, hj⟩ : ∃ j, j = N - 1 - i := ⟨_, rfl⟩
    have ej : (N : Int) - 1 - (i : Int) = (j : Int) := by omega
    rw [ej]
    repeat' (first
      | (refine Has.loadS (St.has hs2 (.head _)) rfl (by omega) ?_; conv => whnf)
      | (refine StoreG.stS (l := m) hs2 .here rfl (by omega) (fun h3 hs3 => ?_); conv => whnf)
      | (refine StoreG.stS hs3 .here rfl (by rw [List.length_set]; omega) (fun h4 hs4 => ?_); conv => whnf)
      | refine AW.seq ?_
      | (refine AW.region ?_; conv => whnf)
      | refine AW.block ?_
      | (refine AW.skip ?_; conv => whnf)
      | refine AW.cond (by rfl) ?_
      | (refine AW.draw (id := 3) (.p 0 (.p 1 (.p 2 (.p 3 (.p 4 (.p 5 (.p 6 (.p 8 (.p 9 (.p 10 (.r 7 [12, 13, 14, 15] (.r 11 [12, 13, 14, 15] (.p 12 (.all [13] fun _ => (.p 14 (.all [15] fun _ => .done)))))))))))))))) (by kernel_rfl) (by kernel_rfl) ?_; conv => whnf)
      | (refine Br.dt (by omega) ?_; conv => whnf)
      | (refine Wr.i64 (by omega) ?_; conv => whnf)
      | (refine Ck.mk (by omega) ?_; conv => whnf))
    refine ⟨i + 1, _, ?_, ⟨⟨by omega, ?_, fun p hp => ?_⟩, hs4⟩, by omega⟩
    · rw [show (N : Int) - 1 - ((i + 1 : Nat) : Int) = (j : Int) - 1 by omega]
      exact (Less.cons rfl (Less.cons rfl (Less.cons rfl (Less.nil _))))
    · rw [List.length_set, List.length_set, hm]
    · rw [Int.toNat_natCast, Int.toNat_natCast, getD_setS (by rw [List.length_set]; omega), getD_setS (by omega)]
      have v1 := hv i (by omega)
      have v2 := hv j (by omega)
      rw [if_neg (by omega)] at v1 v2
      by_cases c1 : p = j
      · rw [if_pos c1, if_pos (by omega), v1, show N - 1 - p = i by omega]
      · rw [if_neg c1]
        by_cases c2 : p = i
        · rw [if_pos c2, if_pos (by omega), v2, show N - 1 - p = j by omega]
        · rw [if_neg c2, hv p hp]
          by_cases c3 : p < i ∨ N < p + 1 + i
          · rw [if_pos c3, if_pos (by omega)]
          · rw [if_neg c3, if_neg (by omega)]
  · repeat' (first
      | refine AW.seq ?_
      | (refine AW.region ?_; conv => whnf)
      | (refine AW.exit ?_; conv => whnf)
      | refine AW.cond (by rfl) ?_
      | (refine Br.df (by omega) ?_; conv => whnf))
    refine ⟨rfl, ?_⟩
    have e : m = l.reverse := ext_strs (by rw [List.length_reverse]; omega) fun p hp => by
      rw [hv p (by omega), getD_rev (by omega), ← hN]
      by_cases c : p < i ∨ N < p + 1 + i
      · rw [if_pos c]
      · rw [if_neg c, show N - 1 - p = p by omega]
    rw [← e]
    exact hs2

/-! the map's entries -/
def ptx (n : Nat) : Option Nat → List UInt8
  | none => []
  | some x => (tr n x).txt
def ents (n : Nat) (E : List (Nat × Option Nat)) : List (AV × AV) := E.map fun p => (AV.str (tr n p.1).txt, AV.str (ptx n p.2))
theorem ents_append (n : Nat) (A B : List (Nat × Option Nat)) : ents n (A ++ B) = ents n A ++ ents n B := List.map_append
theorem txt_small {n i : Nat} (hn : n ≤ 5) (hi : i < (trs n).length) : (tr n i).txt.length ≤ 1000000 ∧ 1 ≤ (tr n i).txt.length := by
  have := (tr n i).txt_length
  have := (nb_ok hn hi).size
  omega
theorem ents_ok {n : Nat} (hn : n ≤ 5) {E : List (Nat × Option Nat)} (h : EOk n E) : ∀ p ∈ ents n E, KOk env.P 9 p.1 := fun p hp => by
  obtain ⟨q, hq, rfl⟩ := List.mem_map.1 hp
  exact strKOk strUnder (txt_small hn (h.mem q hq).1).1
theorem ents_no {n : Nat} (hn : n ≤ 5) {E : List (Nat × Option Nat)} (h : EOk n E) {y : Nat} (hy : y < (trs n).length) (no : y ∉ keysE E) : ∀ u, (AV.str (tr n y).txt, u) ∉ ents n E := fun u hu => by
  obtain ⟨q, hq, e⟩ := List.mem_map.1 hu
  injection e with e1 e2
  injection e1 with e1
  have := (tr_txt hn (h.mem q hq).1 hy).1 e1
  exact no (this ▸ List.mem_map.2 ⟨q, hq, rfl⟩)
theorem nodup_one : ∀ {E : List (Nat × Option Nat)} {p q : Nat × Option Nat}, (keysE E).Nodup → p ∈ E → q ∈ E → p.1 = q.1 → p = q
  | r :: E, p, q, h, hp, hq, e => by
    have h2 : r.1 ∉ keysE E ∧ (keysE E).Nodup := List.nodup_cons.1 h
    cases hp with
    | head =>
      cases hq with
      | head => rfl
      | tail _ hq => exact absurd (List.mem_map.2 ⟨q, hq, e.symm⟩) h2.1
    | tail _ hp =>
      cases hq with
      | head => exact absurd (List.mem_map.2 ⟨p, hp, e⟩) h2.1
      | tail _ hq => exact nodup_one h2.2 hp hq e
theorem LookG.tree {n : Nat} {h0 h : H} {L : List (Nat × Blk)} {b y : Nat} {E : List (Nat × Option Nat)} {K : AV → Bool → Prop} (hn : n ≤ 5) (s : St h0 h L) (m : (b, .map (ents n E)) ∈ L) (ok : EOk n E) (hy : y < (trs n).length)
    (hk : K (.str (ptx n (parE E y))) (decide (y ∈ keysE E))) : LookG env.P 9 h b (.str (tr n y).txt) (.str []) K := by
  have ka := strKOk (P := env.P) strUnder (txt_small hn hy).1
  by_cases c : y ∈ keysE E
  · rw [decide_eq_true c] at hk
    obtain ⟨p, hp, e⟩ := List.mem_map.1 c
    have f : ∃ q, E.find? (fun p => p.1 == y) = some q := by
      cases hf : E.find? (fun p => p.1 == y) with
      | none => exact absurd (List.find?_eq_none.1 hf p hp) (by simp [e])
      | some q => exact ⟨q, rfl⟩
    obtain ⟨q, hq⟩ := f
    have q1 := List.mem_of_find?_eq_some hq
    have q2 : q.1 = y := by simpa using List.find?_some hq
    have ep : parE E y = q.2 := by unfold parE; rw [hq]
    rw [ep] at hk
    refine .hitSt s m (strLaw strUnder) (ents_ok hn ok) ka (v := .str (ptx n q.2)) (List.mem_map.2 ⟨q, q1, by rw [q2]⟩) (fun u hu => ?_) hk
    obtain ⟨r, hr, e⟩ := List.mem_map.1 hu
    injection e with e1 e2
    injection e1 with e1
    have r1 := (tr_txt hn (ok.mem r hr).1 hy).1 e1
    have : r = q := nodup_one ok.nodup hr q1 (by rw [r1, q2])
    rw [← e2, this]
  · rw [decide_eq_false c] at hk
    have ep : parE E y = none := by
      unfold parE
      cases hf : E.find? (fun p => p.1 == y) with
      | none => rfl
      | some q =>
        have q1 := List.mem_of_find?_eq_some hf
        have q2 : q.1 = y := by simpa using List.find?_some hf
        exact absurd (List.mem_map.2 ⟨q, q1, q2⟩) c
    rw [ep] at hk
    exact .missSt s m (strLaw strUnder) (ents_ok hn ok) ka (ents_no hn ok hy c) hk

end Go.Proofs.YtbicfognbbeigaaGreat

/-
  What laws over codes have in common is proved: their size, their letters, and rows of statements.
  It holds for all codes.
-/
set_option linter.unusedVariables false
set_option linter.unusedSimpArgs false
namespace Go.Proofs.YtbicfognbbeigaaGreat
open Go.Proofs.YtbicfognbbeigaaGreat.Ab Go.Proofs.YtbicfognbbeigaaGreat.Pl

theorem CurSt.callN {H0 h h' : H} {c b : Nat} {cs : List AV} {L : List (Nat × Blk)} (s : CurSt H0 h c L) (n : New h h' b cs) : CurSt H0 h' c ((b, row cs) :: L) := by
  obtain ⟨v, l, i, k, h1, h2, h3, h4⟩ := s.ex
  exact ⟨v, l, i, k, h1, h2, h3, (h4.newCall n).perm (.swap _ _ _)⟩
theorem StoreG.curI {H0 h : H} {c b : Nat} {L L' : List (Nat × Blk)} {K : H → Prop} {n sz : Nat} {l : List Int} {y : Int} (s : CurSt H0 h c L) (sp : Spot L (b, row (ints l)) (b, row (ints (l.set n y))) L') (hs : sz = 1) (ho : n < l.length)
    (hk : ∀ h', CurSt H0 h' c L' → K h') : StoreG h b (0 + mulSz n sz) (.int .i64 y) K := by
  obtain ⟨v, a, i, k, h1, h2, h3, h4⟩ := s.ex
  exact StoreG.stZ h4 (.there sp) hs ho fun h' hs' => hk h' ⟨v, a, i, k, h1, h2, h3, hs'⟩
theorem codeBig_ok (l : List UInt8) (v : AV) (h0 : H) (hv : CellsAt h0 v (bytesAV l)) : AC env 5 [v] h0 fun w h' => w = .bool (decide ((l.length : Int) > 1048576)) ∧ h' = h0 := by
  rcases hv with ⟨rfl, e⟩ | ⟨b, cp, rfl, hb⟩
  · have e2 : l = [] := List.eq_nil_of_length_eq_zero (by rw [← bytesAV_length, e]; rfl)
    subst e2
    refine AC.enter Tryz.func5 Tryz.call5 rfl Tryz.ntmps5 (of_decide_eq_true (by rfl)) ?_
    repeat' (first
      | refine AW.seq ?_
      | (refine AW.region ?_; conv => whnf)
      | (refine AW.ret ?_; conv => whnf))
    exact ⟨rfl, rfl⟩
  · refine AC.enter Tryz.func5 Tryz.call5 rfl Tryz.ntmps5 (of_decide_eq_true (by rfl)) ?_
    repeat' (first
      | refine AW.seq ?_
      | (refine AW.region ?_; conv => whnf)
      | (refine AW.ret ?_; conv => whnf))
    exact ⟨by rw [bytesAV_length], rfl⟩

/-! a row of statements, and what holds behind it -/
def runS (E : Env) (n : Nat) (Q : Exit → Fr → H → Prop) : List Code → (Fr → H → Prop) → Fr → H → Prop
  | [], M, fr, h => M fr h
  | s :: l, M, fr, h => AW E n s fr h (thenK (runS E n Q l M) Q)
def seqS : List Code → Code → Code
  | [], R => R
  | s :: l, R => .seq s (seqS l R)
theorem AW.seqS {E : Env} {n : Nat} {Q : Exit → Fr → H → Prop} {M : Fr → H → Prop} {R : Code} : ∀ (l : List Code) {fr : Fr} {h : H}, runS E n Q l M fr h → (∀ fr h, M fr h → AW E n R fr h Q) → AW E n (seqS l R) fr h Q
  | [], _, _, hx, hy => hy _ _ hx
  | s :: l, fr, h, hx, hy => AW.seq (AW.mono hx fun e fr' h' q => match e, q with
    | .normal, q => AW.seqS l q hy
    | .exit _, q => q
    | .ret, q => q
    | .goto _, q => q
    | .panic _, q => q
    | .outgrown, q => q)
/-- the code is in the first slot, and memory has only grown -/
def MidC (h0 : H) (v : AV) (fr : Fr) (h : H) : Prop := Less fr [(0, v)] ∧ Keeps h0 h

end Go.Proofs.YtbicfognbbeigaaGreat
