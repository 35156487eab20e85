/-
  Contracts of the numbers of Schroeder are proved.
  They hold for all arguments.
-/
import Derived.Test.YtdfdlnjijccpeaaC26
import Derived.WideKeyPair
set_option linter.unusedVariables false
set_option linter.unusedSimpArgs false
namespace Go.Proofs.Ytdfdlnjijccpeaa
open Go.Proofs.Ytdfdlnjijccpeaa.Ab Go.Proofs.Ytdfdlnjijccpeaa.Pl

theorem schArr : Go.WideMaps.ArrKey env.P 98 3 2 := ⟨by kernel_rfl, by kernel_rfl, by kernel_rfl, by kernel_rfl⟩
theorem wf_i64 {n : Int} (h : -9223372036854775808 ≤ n ∧ n ≤ 9223372036854775807) : (Lit.int .i64 n).wf = true := by
  simpa [Lit.wf, IntKind.min, IntKind.max, IntKind.signed, IntKind.bits] using h
def schKey (a b : Nat) : AV := .agg [.int .i64 (a : Int), .int .i64 (b : Int)]
theorem schKey_ok {a b : Nat} (ha : a ≤ 1000) (hb : b ≤ 1000) : KOk env.P 98 (schKey a b) :=
  ⟨rfl, _, Go.WideMaps.keyOf_pair schArr (by kernel_rfl) ⟨125, by kernel_rfl⟩ (wf_i64 (by omega)) (wf_i64 (by omega))⟩
theorem schKey_inj {a b c d : Nat} (h : schKey a b = schKey c d) : a = c ∧ b = d := by
  unfold schKey at h
  injection h with h
  injection h with h1 h2
  injection h2 with h2 _
  injection h1 with _ h1
  injection h2 with _ h2
  omega
theorem two_one (a b : Int) : ∀ v ∈ [AV.int .i64 a, AV.int .i64 b], v.one = true := fun v hv => by
  rcases List.mem_cons.1 hv with rfl | hv
  · rfl
  · cases List.mem_singleton.1 hv
    rfl
structure GoodEs (es : List (AV × AV)) : Prop where
  all : ∀ p ∈ es, ∃ a b, a ≤ 1000 ∧ b ≤ 1000 ∧ p = (schKey a b, .int .i64 (waysW a b : Nat))
  nodup : (es.map Prod.fst).Nodup
theorem GoodEs.ok {es : List (AV × AV)} (g : GoodEs es) : ∀ p ∈ es, KOk env.P 98 p.1 := fun p hp => by
  obtain ⟨a, b, ha, hb, rfl⟩ := g.all p hp
  exact schKey_ok ha hb
theorem GoodEs.val {es : List (AV × AV)} (g : GoodEs es) {a b : Nat} {u : AV} (h : (schKey a b, u) ∈ es) : u = .int .i64 (waysW a b : Nat) := by
  obtain ⟨c, d, _, _, e⟩ := g.all _ h
  injection e with e1 e2
  obtain ⟨rfl, rfl⟩ := schKey_inj e1
  exact e2
theorem GoodEs.nil : GoodEs [] := ⟨fun p hp => (nomatch hp), List.nodup_nil⟩
abbrev schL (bm bk bw : Nat) (es : List (AV × AV)) (X : List (Nat × Blk)) : List (Nat × Blk) :=
  (bm, .map es) :: (bk, .cells true 1 [.map bm]) :: (bw, .cells true 1 [.func 129 [.ptr bk 0, .ptr bw 0]]) :: X
theorem schSet {H0 h : H} {bm bk bw : Nat} {es : List (AV × AV)} {X : List (Nat × Blk)} {K : H → Prop} {a b : Nat} {c d v : Int} (Y : Nat × Blk) (s : St H0 h (Y :: schL bm bk bw es X)) (g : GoodEs es) (ha : a ≤ 1000) (hb : b ≤ 1000) (hc : c = a) (hd : d = b) (hv : v = (waysW a b : Nat))
    (hk : ∀ h' es', GoodEs es' → St H0 h' (schL bm bk bw es' X) → K h') : MapSetG env.P 98 h bm (.agg [.int .i64 c, .int .i64 d]) (.int .i64 v) K := by
  subst hc hd hv
  by_cases hm : ∃ u, (schKey a b, u) ∈ es
  · obtain ⟨u, hm⟩ := hm
    obtain ⟨n, hn⟩ := List.getElem?_of_mem hm
    have eu := g.val hm
    subst eu
    refine .setSt s (n := n) (.there .here) schArr.law g.ok (schKey_ok ha hb) hn (fun j w hj => ?_) fun h' s' => hk h' es g ?_
    · have h1 := List.getElem?_eq_some_iff.1 hn
      have h2 := List.getElem?_eq_some_iff.1 hj
      obtain ⟨l1, e1⟩ := h1
      obtain ⟨l2, e2⟩ := h2
      have := List.pairwise_iff_getElem.1 g.nodup
      apply Classical.byContradiction
      intro hne
      rcases Nat.lt_or_gt_of_ne hne with c | c
      · exact this j n (by simpa using l2) (by simpa using l1) c (by simp [e1, e2, schKey])
      · exact this n j (by simpa using l1) (by simpa using l2) c (by simp [e1, e2, schKey])
    · have e : es.set n (schKey a b, .int .i64 (waysW a b : Nat)) = es := by
        apply List.ext_getElem?
        intro i
        rw [List.getElem?_set]
        split
        · rename_i h
          subst h
          have := (List.getElem?_eq_some_iff.1 hn).1
          rw [if_pos this, hn]
        · rfl
      have s'' : St H0 h' (Y :: schL bm bk bw (es.set n (schKey a b, .int .i64 (waysW a b : Nat))) X) := s'
      rw [e] at s''
      exact s''.tail
  · refine .putSt s (.there .here) schArr.law g.ok (schKey_ok ha hb) (fun u hu => hm ⟨u, hu⟩) fun h' s' => hk h' (es ++ [(schKey a b, .int .i64 (waysW a b : Nat))]) ⟨fun p hp => ?_, ?_⟩ (St.tail s')
    · rcases List.mem_append.1 hp with hp | hp
      · exact g.all p hp
      · cases List.mem_singleton.1 hp
        exact ⟨a, b, ha, hb, rfl⟩
    · rw [List.map_append, List.nodup_append]
      refine ⟨g.nodup, by simp, fun x hx y hy e => ?_⟩
      simp only [List.map_cons, List.map_nil, List.mem_singleton] at hy
      subst hy e
      obtain ⟨p, hp, e⟩ := List.mem_map.1 hx
      exact hm ⟨p.2, by rw [← e]; exact hp⟩

structure WaysRes (bm bk bw : Nat) (H0 : H) (l h : Nat) (X : List (Nat × Blk)) (v : AV) (h' : H) : Prop where
  eq : v = .int .i64 (waysW l h : Nat)
  st : ∃ es, GoodEs es ∧ St H0 h' (schL bm bk bw es X)
theorem waysW_bd {l h : Nat} (hb : l + h ≤ 12) : waysW l h ≤ 282429536481 := Nat.le_trans (waysW_le l h) (Nat.le_trans (Nat.pow_le_pow_right (n := 3) (by decide) (show 2 * l + h ≤ 24 by omega)) (by decide))

/-- a call beside the block of a key -/
theorem waysCall {bm bk bw l h : Nat} {H0 hp : H} {a b : Int} {es : List (AV × AV)} {X : List (Nat × Blk)} {Y : Nat × Blk}
    (ih : ∀ (a b : Int), a = l → b = h → ∀ (es : List (AV × AV)) (hp : H) (X : List (Nat × Blk)), GoodEs es → St H0 hp (schL bm bk bw es X) → AC env 129 [.int .i64 a, .int .i64 b, .ptr bk 0, .ptr bw 0] hp (WaysRes bm bk bw H0 l h X))
    (ha : a = l) (hb : b = h) (s : St H0 hp (Y :: schL bm bk bw es X)) (g : GoodEs es) : AC env 129 [.int .i64 a, .int .i64 b, .ptr bk 0, .ptr bw 0] hp fun v h' => v = .int .i64 (waysW l h : Nat) ∧ ∃ es, GoodEs es ∧ St H0 h' (Y :: schL bm bk bw es X) := by
  have p1 : (Y :: schL bm bk bw es X).Perm (schL bm bk bw es (Y :: X)) := (List.perm_middle (l₁ := [_, _, _]) (l₂ := X) (a := Y)).symm
  refine (ih a b ha hb es hp (Y :: X) g (s.perm p1)).mono fun v h' ⟨e, es', g', s'⟩ => ⟨e, es', g', s'.perm ?_⟩
  exact List.perm_middle (l₁ := [_, _, _]) (l₂ := X) (a := Y)
set_option maxHeartbeats 4000000 in
theorem ways_ok (bm bk bw : Nat) (H0 : H) : ∀ (l h : Nat), l + h ≤ 12 → ∀ (a b : Int), a = l → b = h → ∀ (es : List (AV × AV)) (hp : H) (X : List (Nat × Blk)), GoodEs es → St H0 hp (schL bm bk bw es X) →
    AC env 129 [.int .i64 a, .int .i64 b, .ptr bk 0, .ptr bw 0] hp (WaysRes bm bk bw H0 l h X) := by
  intro l
  induction l with
  | zero =>
    intro h hb a b ha hb2 es hp X g hs
    subst ha hb2
    refine AC.enter Try.func129 Try.call129 rfl Try.ntmps129 (of_decide_eq_true (by rfl)) ?_
    repeat' (first
      | refine AW.seq ?_
      | (refine AW.region ?_; conv => whnf)
      | (refine AW.ret ?_; conv => whnf)
      | refine AW.cond (by rfl) ?_
      | (refine Br.tt ?_; conv => whnf))
    exact ⟨rfl, es, g, hs⟩
  | succ l ih1 =>
    intro h
    induction h with
    | zero =>
      intro hb a b ha hb2 es hp X g hs
      subst ha hb2
      have wb1 := waysW_bd (l := l) (h := 1) (by omega)
      have wb2 := waysW_bd (l := l) (h := 0) (by omega)
      by_cases hm : ∃ u, (schKey (l + 1) 0, u) ∈ es
      · obtain ⟨u, hm⟩ := hm
        have eu := g.val hm
        subst eu
        refine AC.enter Try.func129 Try.call129 rfl Try.ntmps129 (of_decide_eq_true (by rfl)) ?_
        repeat' (first
          | (refine LoadsG.has (St.has (by assumption) (.head _)) (by rfl) ?_; conv => whnf)
          | (refine StoresG.st (by assumption) .here (by rfl) (two_one _ _) (fun h' hs' => ?_); conv => whnf)
          | (refine LookG.hitSt (by assumption) (.tail _ (.head _)) schArr.law g.ok (schKey_ok (a := l + 1) (b := 0) (by omega) (by omega)) hm (fun u hu => g.val hu) ?_; conv => whnf)
          | refine AW.seq ?_
          | (refine AW.region ?_; conv => whnf)
          | (refine AW.skip ?_; conv => whnf)
          | (refine AW.ret ?_; conv => whnf)
          | refine AW.cond (by rfl) ?_
          | (refine Br.tt ?_; conv => whnf)
          | (refine Br.ff ?_; conv => whnf)
          | (refine NewG.st (by assumption) (fun bt h' hs' => ?_); conv => whnf)
          | (refine Has.load1 (by first | assumption | exact St.has (by assumption) (by repeat first | exact .head _ | apply List.Mem.tail) | exact St.arg (by assumption) (by assumption)) ?_; conv => whnf))
        exact ⟨rfl, es, g, hs'.tail⟩
      · refine AC.enter Try.func129 Try.call129 rfl Try.ntmps129 (of_decide_eq_true (by rfl)) ?_
        repeat' (first
          | (refine And.intro ?_ ?_ <;> (conv => whnf))
          | (refine LoadsG.has (St.has (by assumption) (.head _)) (by rfl) ?_; conv => whnf)
          | (refine StoresG.st (by assumption) .here (by rfl) (two_one _ _) (fun h' hs' => ?_); conv => whnf)
          | (refine LookG.missSt (by assumption) (.tail _ (.head _)) schArr.law g.ok (schKey_ok (a := l + 1) (b := 0) (by omega) (by omega)) (fun u hu => hm ⟨u, hu⟩) ?_; conv => whnf)
          | (refine (waysCall (ih1 1 (by omega)) (by omega) (by omega) (by assumption) (by assumption)).mono ?_; rintro v h' ⟨rfl, es', g', s'⟩; conv => whnf)
          | (refine (waysCall (ih1 0 (by omega)) (by omega) (by omega) (by assumption) (by assumption)).mono ?_; rintro v h' ⟨rfl, es', g', s'⟩; conv => whnf)
          | (refine schSet (a := l + 1) (b := 0) _ (by assumption) (by assumption) (by omega) (by omega) (by omega) (by omega) (by rw [waysW_low]; omega) (fun h' es' g' s' => ?_); conv => whnf)
          | refine AW.seq ?_
          | (refine AW.region ?_; conv => whnf)
          | (refine AW.skip ?_; conv => whnf)
          | (refine AW.ret ?_; conv => whnf)
          | refine AW.cond (by rfl) ?_
          | (refine AW.draw (id := 7) (.p 1 (.p 2 (.p 3 (.p 4 (.p 7 (.p 8 (.p 9 (.r 0 [5, 10, 11, 12] (.all [5, 6] fun i => bif Nat.beq i 5 then (.r 6 [10, 11, 12] (.all [10] fun _ => (.p 11 (.p 12 .done)))) else (.all [5] fun _ => (.all [10] fun _ => (.p 11 (.p 12 .done))))))))))))) (by kernel_rfl) (by kernel_rfl) ?_; conv => whnf)
          | (refine Br.ff ?_; conv => whnf)
          | (refine Wr.i64 (by omega) ?_; conv => whnf)
          | (refine NewG.st (by assumption) (fun bt h' hs' => ?_); conv => whnf)
          | (refine Has.load1 (by first | assumption | exact St.has (by assumption) (by repeat first | exact .head _ | apply List.Mem.tail) | exact St.arg (by assumption) (by assumption)) ?_; conv => whnf))
        all_goals exact ⟨by rw [waysW_low, Int.natCast_add], _, g', s'⟩
    | succ h ih2 =>
      intro hb a b ha hb2 es hp X g hs
      subst ha hb2
      have wb1 := waysW_bd (l := l) (h := h + 2) (by omega)
      have wb2 := waysW_bd (l := l) (h := h + 1) (by omega)
      have wb3 := waysW_bd (l := l + 1) (h := h) (by omega)
      by_cases hm : ∃ u, (schKey (l + 1) (h + 1), u) ∈ es
      · obtain ⟨u, hm⟩ := hm
        have eu := g.val hm
        subst eu
        refine AC.enter Try.func129 Try.call129 rfl Try.ntmps129 (of_decide_eq_true (by rfl)) ?_
        repeat' (first
          | (refine LoadsG.has (St.has (by assumption) (.head _)) (by rfl) ?_; conv => whnf)
          | (refine StoresG.st (by assumption) .here (by rfl) (two_one _ _) (fun h' hs' => ?_); conv => whnf)
          | (refine LookG.hitSt (by assumption) (.tail _ (.head _)) schArr.law g.ok (schKey_ok (a := l + 1) (b := h + 1) (by omega) (by omega)) hm (fun u hu => g.val hu) ?_; conv => whnf)
          | refine AW.seq ?_
          | (refine AW.region ?_; conv => whnf)
          | (refine AW.skip ?_; conv => whnf)
          | (refine AW.ret ?_; conv => whnf)
          | refine AW.cond (by rfl) ?_
          | (refine Br.tt ?_; conv => whnf)
          | (refine Br.ff ?_; conv => whnf)
          | (refine NewG.st (by assumption) (fun bt h' hs' => ?_); conv => whnf)
          | (refine Has.load1 (by first | assumption | exact St.has (by assumption) (by repeat first | exact .head _ | apply List.Mem.tail) | exact St.arg (by assumption) (by assumption)) ?_; conv => whnf))
        exact ⟨rfl, es, g, hs'.tail⟩
      · refine AC.enter Try.func129 Try.call129 rfl Try.ntmps129 (of_decide_eq_true (by rfl)) ?_
        repeat' (first
          | (refine And.intro ?_ ?_ <;> (conv => whnf))
          | (refine LoadsG.has (St.has (by assumption) (.head _)) (by rfl) ?_; conv => whnf)
          | (refine StoresG.st (by assumption) .here (by rfl) (two_one _ _) (fun h' hs' => ?_); conv => whnf)
          | (refine LookG.missSt (by assumption) (.tail _ (.head _)) schArr.law g.ok (schKey_ok (a := l + 1) (b := h + 1) (by omega) (by omega)) (fun u hu => hm ⟨u, hu⟩) ?_; conv => whnf)
          | (refine (waysCall (ih1 (h + 2) (by omega)) (by omega) (by omega) (by assumption) (by assumption)).mono ?_; rintro v h' ⟨rfl, es', g', s'⟩; conv => whnf)
          | (refine (waysCall (ih1 (h + 1) (by omega)) (by omega) (by omega) (by assumption) (by assumption)).mono ?_; rintro v h' ⟨rfl, es', g', s'⟩; conv => whnf)
          | (refine (waysCall (ih2 (by omega)) (by omega) (by omega) (by assumption) (by assumption)).mono ?_; rintro v h' ⟨rfl, es', g', s'⟩; conv => whnf)
          | (refine schSet (a := l + 1) (b := h + 1) _ (by assumption) (by assumption) (by omega) (by omega) (by omega) (by omega) (by rw [waysW_step]; omega) (fun h' es' g' s' => ?_); conv => whnf)
          | refine AW.seq ?_
          | (refine AW.region ?_; conv => whnf)
          | (refine AW.skip ?_; conv => whnf)
          | (refine AW.ret ?_; conv => whnf)
          | refine AW.cond (by rfl) ?_
          | (refine AW.draw (id := 7) (.p 1 (.p 2 (.p 3 (.p 4 (.p 7 (.p 8 (.p 9 (.r 0 [5, 10, 11, 12] (.all [5, 6] fun i => bif Nat.beq i 5 then (.r 6 [10, 11, 12] (.all [10] fun _ => (.p 11 (.p 12 .done)))) else (.all [5] fun _ => (.all [10] fun _ => (.p 11 (.p 12 .done))))))))))))) (by kernel_rfl) (by kernel_rfl) ?_; conv => whnf)
          | (refine Br.ff ?_; conv => whnf)
          | (refine Br.dt (by omega) ?_; conv => whnf)
          | (refine Wr.i64 (by omega) ?_; conv => whnf)
          | (refine NewG.st (by assumption) (fun bt h' hs' => ?_); conv => whnf)
          | (refine Has.load1 (by first | assumption | exact St.has (by assumption) (by repeat first | exact .head _ | apply List.Mem.tail) | exact St.arg (by assumption) (by assumption)) ?_; conv => whnf))
        all_goals exact ⟨by rw [waysW_step, Int.natCast_add, Int.natCast_add], _, g', s'⟩

def schN (n : Int) : Int := if 0 ≤ n ∧ n ≤ 12 then (waysW n.toNat 0 : Nat) else -1
theorem schN_bd (n : Int) : -1 ≤ schN n ∧ schN n ≤ 282429536481 := by
  unfold schN
  split
  · rename_i h
    have := waysW_bd (l := n.toNat) (h := 0) (by omega)
    omega
  · omega
theorem iSchroeder_ok (n : Int) (h0 : H) (hn : -9223372036854775808 ≤ n ∧ n ≤ 9223372036854775807) : AC env 78 [.int .i64 n] h0 fun v h' => v = .int .i64 (schN n) ∧ Keeps h0 h' := by
  have hs := St.refl h0
  by_cases ok : 0 ≤ n ∧ n ≤ 12
  · have e : schN n = (waysW n.toNat 0 : Nat) := if_pos ok
    refine AC.enter Try.func78 Try.call78 rfl Try.ntmps78 (of_decide_eq_true (by rfl)) ?_
    repeat' (first
      | (refine NewG.st hs (fun bw h1 hs1 => ?_); conv => whnf)
      | (refine NewG.st hs1 (fun bm h2 hs2 => ?_); conv => whnf)
      | (refine NewG.st hs2 (fun bk h3 hs3 => ?_); conv => whnf)
      | (refine StoreG.st1 hs3 .here rfl (fun h4 hs4 => ?_); conv => whnf)
      | (refine StoreG.st1 hs4 (.there (.there .here)) rfl (fun h5 hs5 => ?_); conv => whnf)
      | (refine (ways_ok bm bk bw h0 n.toNat 0 (by omega) _ _ (by omega) rfl [] _ [] GoodEs.nil (hs5.perm (.swap _ _ _))).mono ?_; rintro v h' ⟨rfl, es', g', s'⟩; conv => whnf)
      | refine AW.seq ?_
      | (refine AW.region ?_; conv => whnf)
      | (refine AW.skip ?_; conv => whnf)
      | (refine AW.ret ?_; conv => whnf)
      | refine AW.cond (by rfl) ?_
      | (refine (within_ok _ _ _ _).mono ?_; rintro v h' ⟨rfl, e'⟩; subst h'; conv => whnf)
      | refine Br.not ?_
      | (refine Br.dt (by omega) ?_; conv => whnf)
      | (refine Has.load1 (by first | assumption | exact St.has (by assumption) (by repeat first | exact .head _ | apply List.Mem.tail) | exact St.arg (by assumption) (by assumption)) ?_; conv => whnf))
    exact ⟨by rw [e], s'.keeps⟩
  · have e : schN n = -1 := if_neg ok
    refine AC.enter Try.func78 Try.call78 rfl Try.ntmps78 (of_decide_eq_true (by rfl)) ?_
    repeat' (first
      | refine AW.seq ?_
      | (refine AW.region ?_; conv => whnf)
      | (refine AW.ret ?_; conv => whnf)
      | refine AW.cond (by rfl) ?_
      | (refine (within_ok _ _ _ _).mono ?_; rintro v h' ⟨rfl, e'⟩; subst h'; conv => whnf)
      | refine Br.not ?_
      | (refine Br.df (by omega) ?_; conv => whnf))
    all_goals exact ⟨by rw [e], Keeps.refl _⟩

def catN (n : Int) : Int := if 0 ≤ n ∧ n ≤ 15 then (bal n.toNat n.toNat : Nat) else -1
theorem sCatalan_ok (n : Int) (h0 : H) (hn : -9223372036854775808 ≤ n ∧ n ≤ 9223372036854775807) : AC env 15 [.int .i64 n] h0 fun v h' => v = .int .i64 (catN n) ∧ Keeps h0 h' := by
  have hs := St.refl h0
  by_cases ok : 0 ≤ n ∧ n ≤ 15
  · have e : catN n = (bal n.toNat n.toNat : Nat) := if_pos ok
    refine AC.enter Try.func15 Try.call15 rfl Try.ntmps15 (of_decide_eq_true (by rfl)) ?_
    repeat' (first
      | refine AW.seq ?_
      | (refine AW.region ?_; conv => whnf)
      | (refine AW.skip ?_; conv => whnf)
      | (refine AW.ret ?_; conv => whnf)
      | refine AW.cond (by rfl) ?_
      | (refine (l1In_ok _ _ _ _).mono ?_; rintro v h' ⟨rfl, e'⟩; subst h'; conv => whnf)
      | (refine (l3Ways_ok _ _ _ (by omega)).mono ?_; rintro v h' ⟨rfl, hk'⟩; have hs' := St.keep (by assumption) hk'; conv => whnf)
      | refine Br.not ?_
      | (refine Br.dt (by omega) ?_; conv => whnf))
    exact ⟨by rw [e], hk'⟩
  · have e : catN n = -1 := if_neg ok
    refine AC.enter Try.func15 Try.call15 rfl Try.ntmps15 (of_decide_eq_true (by rfl)) ?_
    repeat' (first
      | refine AW.seq ?_
      | (refine AW.region ?_; conv => whnf)
      | (refine AW.ret ?_; conv => whnf)
      | refine AW.cond (by rfl) ?_
      | (refine (l1In_ok _ _ _ _).mono ?_; rintro v h' ⟨rfl, e'⟩; subst h'; conv => whnf)
      | refine Br.not ?_
      | (refine Br.df (by omega) ?_; conv => whnf))
    all_goals exact ⟨by rw [e], Keeps.refl _⟩

set_option maxHeartbeats 1000000 in
theorem sSchroeder_ok (n : Int) (h0 : H) (hn : -9223372036854775808 ≤ n ∧ n ≤ 9223372036854775807) : AC env 90 [.int .i64 n] h0 fun v h' => v = .int .i64 (schN n) ∧ Keeps h0 h' := by
  have hs := St.refl h0
  by_cases ok : 0 ≤ n ∧ n ≤ 12
  · obtain ⟨m, rfl⟩ := Int.eq_ofNat_of_zero_le ok.1
    have hm : m < 13 := by omega
    have e : schN m = sumS m (m + 1) := (if_pos ok).trans (by rw [Int.toNat_natCast, schroeder_num hm])
    obtain ⟨f1, f2, f3⟩ := schroeder_fine m hm
    refine AC.enter Try.func90 Try.call90 rfl Try.ntmps90 (of_decide_eq_true (by rfl)) ?_
    repeat' (first
      | refine AW.seq ?_
      | (refine AW.region ?_; conv => whnf)
      | refine AW.block ?_
      | (refine AW.skip ?_; conv => whnf)
      | refine AW.cond (by rfl) ?_
      | (refine (l1In_ok _ _ _ _).mono ?_; rintro v h' ⟨rfl, e'⟩; subst h'; conv => whnf)
      | refine Br.not ?_
      | (refine Br.dt (by omega) ?_; conv => whnf))
    refine AW.loop1 (fun (k : Nat) => [(0, .int .i64 (m : Int)), (3, .int .i64 (sumS m k)), (4, .int .i64 k)]) (fun k h' => k ≤ m + 1 ∧ Keeps h0 h') (fun k => m + 1 - k) 0
      (Less.cons rfl (Less.cons rfl (Less.cons rfl (Less.nil _)))) ⟨by omega, Keeps.refl _⟩ ?_
    rintro k h1 ⟨hk, hk1⟩
    have hs := (St.refl h0).keep hk1
    by_cases hlt : k < m + 1
    · have ec : catN (k : Int) = (bal k k : Nat) := (if_pos (by omega)).trans (by rw [Int.toNat_natCast])
      have g1 := f2 k (by omega)
      have g2 := f2 (k + 1) (by omega)
      have es : sumS m (k + 1) = sumS m k + (bal k k : Int) * binI ((m + k : Nat) : Int) (m - k) := rfl
      obtain ⟨b1, b2, b3, b4⟩ := f3 k hlt
      have en : ((m : Int) + (k : Int)) = ((m + k : Nat) : Int) := by omega
      have ek : ((m : Int) - (k : Int)) = ((m - k : Nat) : Int) := by omega
      repeat' (first
        | (rw [ec])
        | (rw [en, ek]; refine (l3Binomial_at ((m + k : Nat) : Int) ((m - k : Nat) : Int) (by omega) b1 _).mono ?_; rw [Int.toNat_natCast]; rintro v h' ⟨rfl, e'⟩; subst h'; conv => whnf)
        | refine AW.seq ?_
        | (refine AW.region ?_; conv => whnf)
        | refine AW.block ?_
        | (refine AW.skip ?_; conv => whnf)
        | refine AW.cond (by rfl) ?_
        | (refine (sCatalan_ok _ _ (by omega)).mono ?_; rintro v h' ⟨rfl, hk'⟩; have hs' := St.keep (by assumption) hk'; conv => whnf)
        | (refine Br.dt (by omega) ?_; conv => whnf)
        | (refine Wr.i64 (by omega) ?_; conv => whnf))
      exact ⟨k + 1, (Less.cons rfl (Less.cons rfl (Less.cons rfl (Less.nil _)))), ⟨by omega, hs'.keeps⟩, by omega⟩
    · obtain rfl : k = m + 1 := by omega
      repeat' (first
        | refine AW.seq ?_
        | (refine AW.region ?_; conv => whnf)
        | (refine AW.ret ?_; conv => whnf)
        | (refine AW.exit ?_; conv => whnf)
        | refine AW.cond (by rfl) ?_
        | (refine Br.df (by omega) ?_; conv => whnf))
      exact ⟨by rw [e], hk1⟩
  · have e : schN n = -1 := if_neg ok
    refine AC.enter Try.func90 Try.call90 rfl Try.ntmps90 (of_decide_eq_true (by rfl)) ?_
    repeat' (first
      | refine AW.seq ?_
      | (refine AW.region ?_; conv => whnf)
      | (refine AW.ret ?_; conv => whnf)
      | refine AW.cond (by rfl) ?_
      | (refine (l1In_ok _ _ _ _).mono ?_; rintro v h' ⟨rfl, e'⟩; subst h'; conv => whnf)
      | refine Br.not ?_
      | (refine Br.df (by omega) ?_; conv => whnf))
    all_goals exact ⟨by rw [e], Keeps.refl _⟩


end Go.Proofs.Ytdfdlnjijccpeaa
