/-
  Contracts of the triangles of a triangulation are proved.
  They hold for all rows of rows.
-/
import Derived.Test.YtbicfognbbeigaaGreatC61
set_option linter.unusedVariables false
set_option linter.unusedSimpArgs false
namespace Go.Proofs.YtbicfognbbeigaaGreat
open Go.Proofs.YtbicfognbbeigaaGreat.Ab Go.Proofs.YtbicfognbbeigaaGreat.Pl

theorem isTri_int {n : Int} {f : List (List Int)} (h : isTri n f = true) : ∃ N : Nat, n = N := by
  have := (isTri_spec h).1.1
  exact ⟨n.toNat, by omega⟩
theorem tri_size {N : Nat} {f : List (List Int)} (h : isTri N f = true) : (2 ≤ N ∧ N ≤ 10) ∧ f.length = N - 3 ∧ f.length ≤ 7 := by
  have s := (isTri_spec h).1
  have a := s.1
  have b := s.2
  omega
/-! triples and their numbers -/
def dec3 (c : Nat) : List Int := [((c / 256 : Nat) : Int), ((c / 16 % 16 : Nat) : Int), ((c % 16 : Nat) : Int)]
theorem dec3_tr {a b c : Nat} (hb : b < 16) (hc : c < 16) : dec3 (trC a b c) = [(a : Int), (b : Int), (c : Int)] := by
  have e : trC a b c = 256 * a + 16 * b + c := rfl
  unfold dec3
  rw [e, show (256 * a + 16 * b + c) / 256 = a by omega, show (256 * a + 16 * b + c) / 16 % 16 = b by omega, show (256 * a + 16 * b + c) % 16 = c by omega]
theorem dec3_le {x y : Nat} (h : x < y) : leL (dec3 x) (dec3 y) := by
  unfold leL dec3
  simp only [cmpL]
  repeat' split
  all_goals omega
theorem recFind (p q : Nat → Bool) (g : Nat → List Nat) : ∀ L : List Nat, @List.rec Nat (fun _ => List Nat) [] (fun i _ rest => bif p i then (bif q i then g i else rest) else rest) L = (match L.find? (fun i => p i && q i) with
    | none => []
    | some i => g i)
  | [] => rfl
  | x :: L => by
    have ih := recFind p q g L
    show (bif p x then (bif q x then g x else @List.rec Nat (fun _ => List Nat) [] (fun i _ rest => bif p i then (bif q i then g i else rest) else rest) L) else @List.rec Nat (fun _ => List Nat) [] (fun i _ rest => bif p i then (bif q i then g i else rest) else rest) L) = _
    rw [ih, List.find?_cons]
    cases p x <;> cases q x <;> rfl
def midC (m l r i : Nat) : Bool := jnC 0 m l (l + 1 + i) && jnC 0 m (l + 1 + i) r
theorem trisC_eq (m k l r : Nat) : trisC m (k + 1) l r = match (List.range (r - l - 1)).find? (midC m l r) with
    | none => []
    | some i => trC l (l + 1 + i) r :: (trisC m k l (l + 1 + i) ++ trisC m k (l + 1 + i) r) :=
  recFind (fun i => jnC 0 m l (l + 1 + i)) (fun i => jnC 0 m (l + 1 + i) r) (fun i => trC l (l + 1 + i) r :: (trisC m k l (l + 1 + i) ++ trisC m k (l + 1 + i) r)) _
theorem jn0_code {N : Nat} {f : List (List Int)} (h : isTri N f = true) {a b : Nat} (hb : b < 16) : jnR 0 f a b = jnC 0 (mskC (revC f)) a b := by
  have s := isTri_spec h
  unfold jnR
  rw [Bool.eq_iff_iff, decide_eq_true_iff, jnC_iff, tb_rev]
  constructor
  · rintro (e | ⟨e1, e2⟩ | ⟨i, hi, e1, e2⟩)
    · left; omega
    · exfalso; omega
    · right; left
      refine ⟨f.getD i [], ?_, ?_⟩
      · simp [List.getD, hi]
      · unfold ent at e1 e2
        unfold encR
        rw [e1, e2]
        omega
  · rintro (e | e | ⟨e1, e2⟩)
    · left; omega
    · right; right
      obtain ⟨x, hx, e⟩ := e
      obtain ⟨i, hi, rfl⟩ := List.getElem_of_mem hx
      have p := encR_parts (s.2 i hi).1 s.1.1.2
      have eg : f.getD i [] = f[i] := by simp [List.getD, hi]
      refine ⟨i, hi, ?_, ?_⟩
      · unfold ent
        rw [← p.1, eg, e]
        omega
      · unfold ent
        rw [← p.2, eg, e]
        omega
    · exfalso; omega
theorem find_congr {p q : Nat → Bool} : ∀ {L : List Nat}, (∀ i ∈ L, p i = q i) → L.find? p = L.find? q
  | [], _ => rfl
  | x :: L, h => by rw [List.find?_cons, List.find?_cons, h x (.head _), find_congr fun i hi => h i (.tail _ hi)]
theorem firstM_code {N : Nat} {f : List (List Int)} (h : isTri N f = true) {l r : Nat} (hr : r < 16) : firstM f l r = (List.range (r - l - 1)).find? (midC (mskC (revC f)) l r) := by
  unfold firstM
  refine find_congr fun i hi => ?_
  have hi := List.mem_range.1 hi
  unfold midP midC
  rw [jn0_code h (a := l) (b := l + 1 + i) (by omega), jn0_code h (a := l + 1 + i) (b := r) hr]
theorem tris_len {N : Nat} {f : List (List Int)} (h : isTri N f = true) : ∀ (k l r : Nat), r < 16 → (trisC (mskC (revC f)) k l r).length = (treeT f k l r).size
  | 0, l, r, _ => rfl
  | k + 1, l, r, hr => by
    have fc := firstM_code h (l := l) hr
    rw [trisC_eq, ← fc]
    cases e : firstM f l r with
    | none => rw [treeT_none e]; rfl
    | some i =>
      have hi := firstM_lt e
      rw [treeT_some e]
      simp only [List.length_cons, List.length_append, BT.size]
      rw [tris_len h k l (l + 1 + i) (by omega), tris_len h k (l + 1 + i) r hr]
theorem tris_map {N : Nat} {f : List (List Int)} (h : isTri N f = true) : ∀ (k l r : Nat), r < 16 → (treeT f k l r).size = r - l - 1 → trisB (treeT f k l r) l r = (trisC (mskC (revC f)) k l r).map dec3
  | 0, l, r, _, _ => rfl
  | k + 1, l, r, hr, hz => by
    have fc := firstM_code h (l := l) hr
    rw [trisC_eq, ← fc]
    cases e : firstM f l r with
    | none => rw [treeT_none e]; rfl
    | some i =>
      have hi := firstM_lt e
      rw [treeT_some e] at hz ⊢
      have h1 := treeT_size f k l (l + 1 + i)
      have h2 := treeT_size f k (l + 1 + i) r
      simp only [BT.size] at hz
      have z1 : (treeT f k l (l + 1 + i)).size = l + 1 + i - l - 1 := by omega
      have z2 : (treeT f k (l + 1 + i) r).size = r - (l + 1 + i) - 1 := by omega
      have em : l + (treeT f k l (l + 1 + i)).size + 1 = l + 1 + i := by omega
      rw [trisB, em, tris_map h k l (l + 1 + i) (by omega) z1, tris_map h k (l + 1 + i) r hr z2]
      simp only [List.map_cons, List.map_append]
      rw [dec3_tr (by omega) hr]

/-! triples by loops -/
def inP (N : Nat) (f : List (List Int)) (a b c : Nat) : Bool := decide (b < c) && (jnR N f (a : Nat) (b : Nat) && jnR N f (b : Nat) (c : Nat) && jnR N f (a : Nat) (c : Nat))
def triIn (N : Nat) (f : List (List Int)) (a b : Nat) (L : List Nat) : List (List Int) := (L.filter (inP N f a b)).map fun (c : Nat) => [(a : Int), (b : Int), (c : Int)]
def triMid (N : Nat) (f : List (List Int)) (a : Nat) (L : List Nat) : List (List Int) := L.flatMap fun b => if a < b then triIn N f a b (List.range N) else []
def triOut (N : Nat) (f : List (List Int)) (L : List Nat) : List (List Int) := L.flatMap fun a => triMid N f a (List.range N)
def triR (N : Nat) (f : List (List Int)) : List (List Int) := triOut N f (List.range N)
theorem triIn_low {N : Nat} {f : List (List Int)} {a b : Nat} : triIn N f a b (List.range (b + 1)) = [] := by
  unfold triIn
  have : (List.range (b + 1)).filter (inP N f a b) = [] := by
    rw [List.filter_eq_nil_iff]
    intro c hc
    have := List.mem_range.1 hc
    unfold inP
    rw [decide_eq_false (by omega), Bool.false_and]
    decide
  rw [this]
  rfl
theorem triIn_succ (N : Nat) (f : List (List Int)) (a b c : Nat) : triIn N f a b (List.range (c + 1)) = triIn N f a b (List.range c) ++ if inP N f a b c = true then [[(a : Int), (b : Int), (c : Int)]] else [] := by
  unfold triIn
  rw [List.range_succ, List.filter_append, List.map_append]
  congr 1
  by_cases h : inP N f a b c = true
  · rw [if_pos h]; simp [h]
  · rw [if_neg h]; simp [h]
theorem triMid_low {N : Nat} {f : List (List Int)} {a : Nat} : triMid N f a (List.range (a + 1)) = [] := by
  unfold triMid
  rw [List.flatMap_eq_nil_iff]
  intro b hb
  have := List.mem_range.1 hb
  rw [if_neg (by omega)]
theorem triMid_succ (N : Nat) (f : List (List Int)) (a b : Nat) : triMid N f a (List.range (b + 1)) = triMid N f a (List.range b) ++ if a < b then triIn N f a b (List.range N) else [] := by
  unfold triMid
  rw [List.range_succ, List.flatMap_append]
  simp
theorem triOut_succ (N : Nat) (f : List (List Int)) (a : Nat) : triOut N f (List.range (a + 1)) = triOut N f (List.range a) ++ triMid N f a (List.range N) := by
  unfold triOut
  rw [List.range_succ, List.flatMap_append]
  simp
theorem triIn_code {N : Nat} {f : List (List Int)} (h : isTri N f = true) {a b : Nat} (hb : b < 16) (j : jnR N f (a : Nat) (b : Nat) = true) : ∀ L : List Nat, (∀ c ∈ L, c < 16) → triIn N f a b L = (triInC N (mskC (revC f)) a b L).map dec3
  | [], _ => rfl
  | c :: L, hL => by
    have hc := hL c (.head _)
    have ih := triIn_code h hb j L fun x hx => hL x (.tail _ hx)
    have e : triInC N (mskC (revC f)) a b (c :: L) = bif Nat.ble (Nat.succ b) c then (bif jnC N (mskC (revC f)) b c then (bif jnC N (mskC (revC f)) a c then trC a b c :: triInC N (mskC (revC f)) a b L else triInC N (mskC (revC f)) a b L) else triInC N (mskC (revC f)) a b L) else triInC N (mskC (revC f)) a b L := rfl
    have d : inP N f a b c = (decide (b < c) && (jnR N f (a : Nat) (b : Nat) && jnR N f (b : Nat) (c : Nat) && jnR N f (a : Nat) (c : Nat))) := rfl
    rw [j, Bool.true_and] at d
    rw [e, ble_of, cond_decide, ← jnR_code h hc, ← jnR_code h hc]
    unfold triIn at ih ⊢
    rw [List.filter_cons]
    by_cases q : b < c
    · rw [decide_eq_true q, Bool.true_and] at d
      rw [if_pos (show Nat.succ b ≤ c from q), d]
      cases jnR N f (b : Nat) (c : Nat) with
      | false => exact ih
      | true =>
        cases jnR N f (a : Nat) (c : Nat) with
        | false => exact ih
        | true =>
          show [(a : Int), (b : Int), (c : Int)] :: _ = dec3 (trC a b c) :: _
          rw [dec3_tr hb hc, ih]
    · rw [decide_eq_false q, Bool.false_and] at d
      rw [if_neg (show ¬ Nat.succ b ≤ c from q), d]
      exact ih
theorem triIn_no {N : Nat} {f : List (List Int)} {a b : Nat} (j : jnR N f (a : Nat) (b : Nat) = false) (L : List Nat) : triIn N f a b L = [] := by
  unfold triIn
  have : L.filter (inP N f a b) = [] := by
    rw [List.filter_eq_nil_iff]
    intro c hc
    unfold inP
    rw [j, Bool.false_and, Bool.false_and, Bool.and_false]
    decide
  rw [this]
  rfl
theorem triMid_code {N : Nat} {f : List (List Int)} (h : isTri N f = true) (hN : N ≤ 10) {a : Nat} : ∀ L : List Nat, (∀ c ∈ L, c < 16) → triMid N f a L = (triMidC N (mskC (revC f)) a L).map dec3
  | [], _ => rfl
  | b :: L, hL => by
    have hb := hL b (.head _)
    have ih := triMid_code h hN (a := a) L fun x hx => hL x (.tail _ hx)
    have e : triMidC N (mskC (revC f)) a (b :: L) = bif Nat.ble (Nat.succ a) b then (bif jnC N (mskC (revC f)) a b then triInC N (mskC (revC f)) a b (List.range N) ++ triMidC N (mskC (revC f)) a L else triMidC N (mskC (revC f)) a L) else triMidC N (mskC (revC f)) a L := rfl
    rw [e, ble_of, cond_decide, ← jnR_code h hb]
    unfold triMid at ih ⊢
    rw [List.flatMap_cons, ih]
    by_cases q : a < b
    · rw [if_pos (show Nat.succ a ≤ b from q), if_pos q]
      cases j : jnR N f (a : Nat) (b : Nat) with
      | false => rw [triIn_no j]; rfl
      | true =>
        rw [triIn_code h hb j _ fun c hc => by have := List.mem_range.1 hc; omega]
        exact (List.map_append).symm
    · rw [if_neg (show ¬ Nat.succ a ≤ b from q), if_neg q]
      rfl
theorem triOut_code {N : Nat} {f : List (List Int)} (h : isTri N f = true) (hN : N ≤ 10) : ∀ L : List Nat, triOut N f L = (triOutC N (mskC (revC f)) L).map dec3
  | [] => rfl
  | a :: L => by
    have ih := triOut_code h hN L
    have e : triOutC N (mskC (revC f)) (a :: L) = triMidC N (mskC (revC f)) a (List.range N) ++ triOutC N (mskC (revC f)) L := rfl
    rw [e, List.map_append, ← ih, ← triMid_code h hN _ fun c hc => by have := List.mem_range.1 hc; omega]
    rfl
/-- the triangles by the tree, in order, are the triples that are joined -/
theorem tri_tree {N : Nat} {f : List (List Int)} (h : isTri N f = true) : (treeT f N 0 (N - 1)).size = N - 2 ∧ (triR N f).length = N - 2 ∧ (triR N f).Pairwise leL ∧ sortL (trisB (treeT f N 0 (N - 1)) 0 (N - 1)) = triR N f := by
  have s := isTri_spec h
  have n2 : 2 ≤ N ∧ N ≤ 10 := by have := s.1.1; omega
  have o := (isTri_codes h).all (tris_fine n2)
  have o : triOk N (revC f) = true := o
  have od : triOk N (revC f) = bif eqN (sortN (trisC (mskC (revC f)) N 0 (N - 1))) (triOutC N (mskC (revC f)) (List.range N)) then (bif upN (triOutC N (mskC (revC f)) (List.range N)) 0 then Nat.beq (triOutC N (mskC (revC f)) (List.range N)).length (N - 2) else false) else false := rfl
  rw [od] at o
  cases e1 : eqN (sortN (trisC (mskC (revC f)) N 0 (N - 1))) (triOutC N (mskC (revC f)) (List.range N)) with
  | false => rw [e1] at o; cases o
  | true =>
    rw [e1, cond_true] at o
    cases e2 : upN (triOutC N (mskC (revC f)) (List.range N)) 0 with
    | false => rw [e2] at o; cases o
    | true =>
      rw [e2, cond_true, beq_of, decide_eq_true_iff] at o
      have e1 := eqN_eq e1
      have up := (upN_sorted e2).1
      have pm := sortN_perm (trisC (mskC (revC f)) N 0 (N - 1))
      rw [e1] at pm
      have lz := tris_len h N 0 (N - 1) (by omega)
      rw [← pm.length_eq, o] at lz
      have ro : triR N f = (triOutC N (mskC (revC f)) (List.range N)).map dec3 := triOut_code h n2.2 _
      have so : (triR N f).Pairwise leL := by
        rw [ro, List.pairwise_map]
        exact up.imp fun h => dec3_le h
      refine ⟨lz.symm, by rw [ro, List.length_map, o], so, ?_⟩
      rw [tris_map h N 0 (N - 1) (by omega) (by omega)]
      refine sortL_eq so ?_
      rw [ro]
      exact (pm.map dec3).symm
def trisF (n : Int) (f : List (List Int)) : List (List Int) × Bool := if isTri n f = true then (triR n.toNat f, true) else ([], false)


set_option maxHeartbeats 4000000 in
theorem sTris_ok (n : Int) (R : RL) (f : List (List Int)) (b M C : Nat) (h0 : H) (hb : Grid h0 b R) (hR : rws R = f) (hM : M = f.length) (hl : M ≤ 1000000000) (hn : -9223372036854775808 ≤ n ∧ n ≤ 9223372036854775807) :
    AC env 65 [.int .i64 n, .slice b 0 M C] h0 (RetC (trisF n f) h0) := by
  have hs := St.refl h0
  by_cases ht : isTri n f = true
  · have e : trisF n f = (triR n.toNat f, true) := if_pos ht
    obtain ⟨N, rfl⟩ := isTri_int ht
    rw [Int.toNat_natCast] at e
    have sz := tri_size ht
    have two := tri_two ht
    refine AC.enter Tryz.func65 Tryz.call65 rfl Tryz.ntmps65 (of_decide_eq_true (by rfl)) ?_
    repeat' (first
      | (refine (sIsTri_ok (N : Int) R f _ _ _ _ (hb.arg (by assumption)) hR hM (by omega) (by omega)).mono ?_; rw [ht]; rintro v h' ⟨rfl, e'⟩; subst h'; conv => whnf)
      | refine AW.seq ?_
      | (refine AW.region ?_; conv => whnf)
      | refine AW.block ?_
      | (refine AW.skip ?_; conv => whnf)
      | refine AW.cond (by rfl) ?_
      | (refine Br.ff ?_; conv => whnf)
      | (refine NewG.st (by assumption) (fun bt h' hs' => ?_); conv => whnf))
    refine AW.loop4 (fun (a bo m : Nat) (S : RL) => [(0, .int .i64 N), (1, .slice b 0 M C), (6, .slice bo 0 m m), (7, .int .i64 a)]) (fun a bo m S h' => a ≤ N ∧ S.length = m ∧ m ≤ 100 * a ∧ rws S = triOut N f (List.range a) ∧ St h0 h' ((bo, row (slcs S)) :: (blks S ++ []))) (fun a _ _ _ => N - a) 0 bt 0 []
      (Less.cons rfl (Less.cons rfl (Less.cons rfl (Less.cons rfl (Less.nil _))))) ⟨by omega, rfl, by omega, rfl, nilRows hs'⟩ ?_
    rintro a bo m S h1 ⟨ha, lS, hm, hS, hs1⟩
    clear hs' hs
    by_cases hlt : a < N
    · have so := triOut_succ N f a
      repeat' (first
        | refine AW.seq ?_
        | (refine AW.region ?_; conv => whnf)
        | refine AW.block ?_
        | (refine AW.skip ?_; conv => whnf)
        | refine AW.cond (by rfl) ?_
        | (refine Br.dt (by omega) ?_; conv => whnf)
        | (refine Wr.i64 (by omega) ?_; conv => whnf))
      refine AW.loop4 (fun (B bo m : Nat) (S : RL) => [(0, .int .i64 N), (1, .slice b 0 M C), (6, .slice bo 0 m m), (7, .int .i64 a), (8, .int .i64 B)]) (fun B bo m S h' => (a + 1 ≤ B ∧ B ≤ N) ∧ S.length = m ∧ m ≤ 100 * a + 10 * B ∧ rws S = triOut N f (List.range a) ++ triMid N f a (List.range B) ∧ St h0 h' ((bo, row (slcs S)) :: (blks S ++ []))) (fun B _ _ _ => N - B) (a + 1) bo m S
        (Less.cons rfl (Less.cons rfl (Less.cons rfl (Less.cons rfl (Less.cons rfl (Less.nil _)))))) ⟨by omega, lS, by omega, by rw [triMid_low, List.append_nil]; exact hS, hs1⟩ ?_
      rintro B bo2 m2 S2 h2 ⟨hq, lS2, hm2, hS2, hs2⟩
      clear hs1
      by_cases hlt2 : B < N
      · have sm := triMid_succ N f a B
        rw [if_pos (by omega)] at sm
        repeat' (first
          | refine AW.seq ?_
          | (refine AW.region ?_; conv => whnf)
          | refine AW.block ?_
          | (refine AW.skip ?_; conv => whnf)
          | refine AW.cond (by rfl) ?_
          | (refine Br.dt (by omega) ?_; conv => whnf)
          | (refine Wr.i64 (by omega) ?_; conv => whnf))
        refine AW.loop4 (fun (D bo m : Nat) (S : RL) => [(0, .int .i64 N), (1, .slice b 0 M C), (6, .slice bo 0 m m), (7, .int .i64 a), (8, .int .i64 B), (9, .int .i64 D)]) (fun D bo m S h' => (B + 1 ≤ D ∧ D ≤ N) ∧ S.length = m ∧ m ≤ 100 * a + 10 * B + D ∧ rws S = triOut N f (List.range a) ++ triMid N f a (List.range B) ++ triIn N f a B (List.range D) ∧ St h0 h' ((bo, row (slcs S)) :: (blks S ++ []))) (fun D _ _ _ => N - D) (B + 1) bo2 m2 S2
          (Less.cons rfl (Less.cons rfl (Less.cons rfl (Less.cons rfl (Less.cons rfl (Less.cons rfl (Less.nil _))))))) ⟨by omega, lS2, by omega, by rw [triIn_low, List.append_nil]; exact hS2, hs2⟩ ?_
        rintro D bo3 m3 S3 h3 ⟨hp, lS3, hm3, hS3, hs3⟩
        clear hs2
        by_cases hlt3 : D < N
        · have si := triIn_succ N f a B D
          have hg := hb.arg hs3
          have pd : inP N f a B D = (decide (B < D) && (jnR N f (a : Nat) (B : Nat) && jnR N f (B : Nat) (D : Nat) && jnR N f (a : Nat) (D : Nat))) := rfl
          rw [decide_eq_true (by omega), Bool.true_and] at pd
          cases j1 : jnR N f (a : Nat) (B : Nat) with
          | false =>
            rw [j1, Bool.false_and, Bool.false_and] at pd
            rw [pd, if_neg (by decide), List.append_nil] at si
            repeat' (first
              | (refine (l7Side_ok (N : Int) R f _ _ _ (a : Nat) (B : Nat) _ hg hR hM (by omega) two (by omega) (by omega)).mono ?_; rw [j1]; rintro v h' ⟨rfl, e'⟩; subst h'; conv => whnf)
              | refine AW.seq ?_
              | (refine AW.region ?_; conv => whnf)
              | refine AW.block ?_
              | (refine AW.skip ?_; conv => whnf)
              | refine AW.cond (by rfl) ?_
              | (refine Br.ff ?_; conv => whnf)
              | (refine Br.dt (by omega) ?_; conv => whnf)
              | (refine Wr.i64 (by omega) ?_; conv => whnf))
            exact ⟨D + 1, bo3, m3, S3, (Less.cons rfl (Less.cons rfl (Less.cons rfl (Less.cons rfl (Less.cons rfl (Less.cons rfl (Less.nil _))))))), ⟨by omega, lS3, by omega, by rw [si]; exact hS3, hs3⟩, by omega⟩
          | true =>
            rw [j1, Bool.true_and] at pd
            cases j2 : jnR N f (B : Nat) (D : Nat) with
            | false =>
              rw [j2, Bool.false_and] at pd
              rw [pd, if_neg (by decide), List.append_nil] at si
              repeat' (first
                | (refine (l7Side_ok (N : Int) R f _ _ _ (a : Nat) (B : Nat) _ hg hR hM (by omega) two (by omega) (by omega)).mono ?_; rw [j1]; rintro v h' ⟨rfl, e'⟩; subst h'; conv => whnf)
                | (refine (l7Side_ok (N : Int) R f _ _ _ (B : Nat) (D : Nat) _ hg hR hM (by omega) two (by omega) (by omega)).mono ?_; rw [j2]; rintro v h' ⟨rfl, e'⟩; subst h'; conv => whnf)
                | refine AW.seq ?_
                | (refine AW.region ?_; conv => whnf)
                | refine AW.block ?_
                | (refine AW.skip ?_; conv => whnf)
                | refine AW.cond (by rfl) ?_
                | (refine Br.tt ?_; conv => whnf)
                | (refine Br.ff ?_; conv => whnf)
                | (refine Br.dt (by omega) ?_; conv => whnf)
                | (refine Wr.i64 (by omega) ?_; conv => whnf))
              exact ⟨D + 1, bo3, m3, S3, (Less.cons rfl (Less.cons rfl (Less.cons rfl (Less.cons rfl (Less.cons rfl (Less.cons rfl (Less.nil _))))))), ⟨by omega, lS3, by omega, by rw [si]; exact hS3, hs3⟩, by omega⟩
            | true =>
              rw [j2, Bool.true_and] at pd
              cases j3 : jnR N f (a : Nat) (D : Nat) with
              | false =>
                rw [j3] at pd
                rw [pd, if_neg (by decide), List.append_nil] at si
                repeat' (first
                  | (refine (l7Side_ok (N : Int) R f _ _ _ (a : Nat) (B : Nat) _ hg hR hM (by omega) two (by omega) (by omega)).mono ?_; rw [j1]; rintro v h' ⟨rfl, e'⟩; subst h'; conv => whnf)
                  | (refine (l7Side_ok (N : Int) R f _ _ _ (B : Nat) (D : Nat) _ hg hR hM (by omega) two (by omega) (by omega)).mono ?_; rw [j2]; rintro v h' ⟨rfl, e'⟩; subst h'; conv => whnf)
                  | (refine (l7Side_ok (N : Int) R f _ _ _ (a : Nat) (D : Nat) _ hg hR hM (by omega) two (by omega) (by omega)).mono ?_; rw [j3]; rintro v h' ⟨rfl, e'⟩; subst h'; conv => whnf)
                  | refine AW.seq ?_
                  | (refine AW.region ?_; conv => whnf)
                  | refine AW.block ?_
                  | (refine AW.skip ?_; conv => whnf)
                  | refine AW.cond (by rfl) ?_
                  | (refine Br.tt ?_; conv => whnf)
                  | (refine Br.ff ?_; conv => whnf)
                  | (refine Br.dt (by omega) ?_; conv => whnf)
                  | (refine Wr.i64 (by omega) ?_; conv => whnf))
                exact ⟨D + 1, bo3, m3, S3, (Less.cons rfl (Less.cons rfl (Less.cons rfl (Less.cons rfl (Less.cons rfl (Less.cons rfl (Less.nil _))))))), ⟨by omega, lS3, by omega, by rw [si]; exact hS3, hs3⟩, by omega⟩
              | true =>
                rw [j3] at pd
                rw [pd, if_pos rfl] at si
                repeat' (first
                  | (refine (l7Side_ok (N : Int) R f _ _ _ (a : Nat) (B : Nat) _ hg hR hM (by omega) two (by omega) (by omega)).mono ?_; rw [j1]; rintro v h' ⟨rfl, e'⟩; subst h'; conv => whnf)
                  | (refine (l7Side_ok (N : Int) R f _ _ _ (B : Nat) (D : Nat) _ hg hR hM (by omega) two (by omega) (by omega)).mono ?_; rw [j2]; rintro v h' ⟨rfl, e'⟩; subst h'; conv => whnf)
                  | (refine (l7Side_ok (N : Int) R f _ _ _ (a : Nat) (D : Nat) _ hg hR hM (by omega) two (by omega) (by omega)).mono ?_; rw [j3]; rintro v h' ⟨rfl, e'⟩; subst h'; conv => whnf)
                  | (refine AppG.stR1 (l := [(a : Int), (B : Int), (D : Int)]) (by assumption) lS3.symm rfl (by omega) (by decide) (fun b' h' hs4 => ?_); conv => whnf)
                  | refine AW.seq ?_
                  | (refine AW.region ?_; conv => whnf)
                  | refine AW.block ?_
                  | (refine AW.skip ?_; conv => whnf)
                  | refine AW.cond (by rfl) ?_
                  | (refine Br.tt ?_; conv => whnf)
                  | (refine Br.dt (by omega) ?_; conv => whnf)
                  | (refine Wr.i64 (by omega) ?_; conv => whnf)
                  | (refine NewG.st (by assumption) (fun bt h' hs' => ?_); conv => whnf)
                  | (refine LoadsG.has (by first | assumption | exact St.has (by assumption) (by repeat first | exact .head _ | apply List.Mem.tail) | exact St.arg (by assumption) (by assumption)) (by simp) ?_; conv => whnf))
                exact ⟨D + 1, b', m3 + 1, _, (Less.cons rfl (Less.cons rfl (Less.cons rfl (Less.cons rfl (Less.cons rfl (Less.cons rfl (Less.nil _))))))), ⟨by omega, by simp [lS3], by omega, by rw [si, rws_append, hS3, List.append_assoc _ (triIn N f a B (List.range D))]; rfl, hs4⟩, by omega⟩
        · obtain rfl : D = N := by omega
          repeat' (first
            | refine AW.seq ?_
            | (refine AW.region ?_; conv => whnf)
            | (refine AW.exit ?_; conv => whnf)
            | refine AW.cond (by rfl) ?_
            | (refine Br.df (by omega) ?_; conv => whnf)
            | (refine Wr.i64 (by omega) ?_; conv => whnf))
          exact ⟨B + 1, bo3, m3, S3, (Less.cons rfl (Less.cons rfl (Less.cons rfl (Less.cons rfl (Less.cons rfl (Less.nil _)))))), ⟨by omega, lS3, by omega, by rw [sm, ← List.append_assoc]; exact hS3, hs3⟩, by omega⟩
      · obtain rfl : B = N := by omega
        repeat' (first
          | refine AW.seq ?_
          | (refine AW.region ?_; conv => whnf)
          | (refine AW.exit ?_; conv => whnf)
          | refine AW.cond (by rfl) ?_
          | (refine Br.df (by omega) ?_; conv => whnf)
          | (refine Wr.i64 (by omega) ?_; conv => whnf))
        exact ⟨a + 1, bo2, m2, S2, (Less.cons rfl (Less.cons rfl (Less.cons rfl (Less.cons rfl (Less.nil _))))), ⟨by omega, lS2, by omega, by rw [so]; exact hS2, hs2⟩, by omega⟩
    · obtain rfl : a = N := by omega
      repeat' (first
        | refine AW.seq ?_
        | (refine AW.region ?_; conv => whnf)
        | (refine AW.ret ?_; conv => whnf)
        | (refine AW.exit ?_; conv => whnf)
        | refine AW.cond (by rfl) ?_
        | (refine Br.df (by omega) ?_; conv => whnf))
      exact RetC.mk' (by rw [e, hS]; rfl) lS.symm hs1
  · have e : trisF n f = ([], false) := if_neg ht
    have ht : isTri n f = false := by simpa using ht
    refine AC.enter Tryz.func65 Tryz.call65 rfl Tryz.ntmps65 (of_decide_eq_true (by rfl)) ?_
    repeat' (first
      | (refine (sIsTri_ok n R f _ _ _ _ (hb.arg (by assumption)) hR hM (by omega) (by omega)).mono ?_; rw [ht]; rintro v h' ⟨rfl, e'⟩; subst h'; conv => whnf)
      | refine AW.seq ?_
      | (refine AW.region ?_; conv => whnf)
      | (refine AW.ret ?_; conv => whnf)
      | refine AW.cond (by rfl) ?_
      | (refine Br.tt ?_; conv => whnf)
      | (refine NewG.st (by assumption) (fun bt h' hs' => ?_); conv => whnf))
    all_goals exact RetC.mk' (R := []) e rfl (nilRows hs')

end Go.Proofs.YtbicfognbbeigaaGreat
