/-
  Contracts of the functions that draw triangulations are proved.
  They hold for all codes of at most 1048576 bytes.
-/
import Derived.Test.YtbicfognbbeigaaGreatH4
import Derived.Test.YtbicfognbbeigaaGreatH11
import Derived.Test.YtbicfognbbeigaaGreatH8
import Derived.Test.YtbicfognbbeigaaGreatC49
set_option linter.unusedVariables false
set_option linter.unusedSimpArgs false
namespace Go.Proofs.YtbicfognbbeigaaGreat
open Go.Proofs.YtbicfognbbeigaaGreat.Ab Go.Proofs.YtbicfognbbeigaaGreat.Pl

/-! the tree of a path -/
def hgtS (c : UInt8) (h : Int) : Int := if (c.toNat : Int) = 117 then h + 1 else h - 1
def cutF : List UInt8 → Int → Option Nat
  | [], _ => none
  | c :: s, h => if hgtS c h = 0 then some 0 else (cutF s (hgtS c h)).map Nat.succ
theorem cutF_lt : ∀ (s : List UInt8) (h : Int) (i : Nat), cutF s h = some i → i < s.length
  | [], _, i, e => by cases e
  | c :: s, h, i, e => by
    unfold cutF at e
    split at e
    · cases e
      simp
    · cases g : cutF s (hgtS c h) with
      | none => rw [g] at e; cases e
      | some j =>
        rw [g] at e
        cases e
        have := cutF_lt s _ j g
        simp
        omega
theorem cutF_pos {s : List UInt8} {i : Nat} (e : cutF s 0 = some i) : 1 ≤ i := by
  cases s with
  | nil => cases e
  | cons c s =>
    unfold cutF at e
    have : hgtS c 0 ≠ 0 := by unfold hgtS; split <;> omega
    rw [if_neg this] at e
    cases g : cutF s (hgtS c 0) with
    | none => rw [g] at e; cases e
    | some j => rw [g] at e; cases e; exact Nat.succ_le_succ (Nat.zero_le _)
def binF : Nat → List UInt8 → Option BT
  | 0, _ => none
  | k + 1, w => if w = [] then some .leaf else match cutF w 0 with
    | none => none
    | some i => match binF k ((w.take i).drop 1), binF k (w.drop (i + 1)) with
      | some a, some b => some (.node a b)
      | _, _ => none
theorem binF_nil {k : Nat} {t : BT} (e : binF k [] = some t) : t = .leaf := by
  cases k with
  | zero => cases e
  | succ k =>
    unfold binF at e
    rw [if_pos rfl] at e
    cases e
    rfl
theorem binF_node {k : Nat} {w : List UInt8} {t : BT} (hw : w ≠ []) (e : binF (k + 1) w = some t) : ∃ i a b, cutF w 0 = some i ∧ binF k ((w.take i).drop 1) = some a ∧ binF k (w.drop (i + 1)) = some b ∧ t = .node a b := by
  unfold binF at e
  rw [if_neg hw] at e
  cases g : cutF w 0 with
  | none => rw [g] at e; cases e
  | some i =>
    rw [g] at e
    dsimp only at e
    cases ga : binF k ((w.take i).drop 1) with
    | none => rw [ga] at e; cases e
    | some a =>
      cases gb : binF k (w.drop (i + 1)) with
      | none => rw [ga, gb] at e; cases e
      | some b =>
        rw [ga, gb] at e
        cases e
        exact ⟨i, a, b, rfl, ga, gb, rfl⟩
def binOk (n : Nat) (w : List UInt8) : Bool := match binF 20 w with
  | some t => t.size == n
  | none => false
set_option maxRecDepth 100000 in
theorem bin_fine : (List.range 7).all (fun n => (dyP n).all (binOk n)) = true := by decide +kernel
theorem bin_at {n : Nat} {w : List UInt8} (hn : n ≤ 6) (h : w ∈ dyP n) : ∃ t, binF 20 w = some t ∧ t.size = n := by
  have := List.all_eq_true.1 (List.all_eq_true.1 bin_fine n (List.mem_range.2 (by omega))) w h
  unfold binOk at this
  cases e : binF 20 w with
  | none => rw [e] at this; cases this
  | some t => rw [e] at this; exact ⟨t, rfl, by simpa using this⟩

theorem l2Cut_ok (w : List UInt8) (i : Nat) (h0 : H) (hc : cutF w 0 = some i) (hw : w.length ≤ 1000) : AC env 116 [.str w] h0 fun v h' => v = .int .i64 i ∧ h' = h0 := by
  refine AC.enter Tryz.func116 Tryz.call116 rfl Tryz.ntmps116 (of_decide_eq_true (by rfl)) ?_
  repeat' (first
    | refine AW.seq ?_
    | (refine AW.region ?_; conv => whnf)
    | refine AW.block ?_)
  refine AW.loop2 (fun (k : Nat) (h : Int) => [(0, .str w), (3, .int .i64 h), (4, .int .i64 k)]) (fun k h h' => (k ≤ w.length ∧ -(k : Int) ≤ h ∧ h ≤ k) ∧ (∃ j, cutF (w.drop k) h = some j ∧ j + k = i) ∧ h' = h0) (fun k _ => w.length - k) 0 0
    (Less.cons rfl (Less.cons rfl (Less.cons rfl (Less.nil _)))) ⟨by omega, ⟨i, by rw [List.drop_zero]; exact hc, rfl⟩, rfl⟩ ?_
  rintro k h h' ⟨hk, ⟨j, hj, hij⟩, rfl⟩
  by_cases hlt : k < w.length
  · have ed : w.drop k = w.getD k 0 :: w.drop (k + 1) := by
      rw [List.drop_eq_getElem_cons hlt]
      simp [List.getD, hlt]
    have ek : ((k : Nat) : Int).toNat = k := Int.toNat_natCast k
    rw [ed] at hj
    unfold cutF at hj
    have hs : hgtS (w.getD k 0) h = (if ((w.getD ((k : Nat) : Int).toNat 0).toNat : Int) = 117 then h + 1 else h - 1) := by rw [ek]; rfl
    by_cases c : ((w.getD ((k : Nat) : Int).toNat 0).toNat : Int) = 117
    · rw [if_pos c] at hs
      rw [hs] at hj
      by_cases z : h + 1 = 0
      · rw [if_pos z] at hj
        cases hj
        repeat' (first
          | refine AW.seq ?_
          | (refine AW.region ?_; conv => whnf)
          | refine AW.block ?_
          | (refine AW.skip ?_; conv => whnf)
          | (refine AW.ret ?_; conv => whnf)
          | refine AW.cond (by rfl) ?_
          | (refine Br.dt (by omega) ?_; conv => whnf)
          | (refine Wr.i64 (by omega) ?_; conv => whnf)
          | (refine Ck.mk (by omega) ?_; conv => whnf))
        exact ⟨by congr 1; omega, rfl⟩
      · rw [if_neg z] at hj
        cases g : cutF (w.drop (k + 1)) (h + 1) with
        | none => rw [g] at hj; cases hj
        | some m =>
          rw [g] at hj
          cases hj
          repeat' (first
            | refine AW.seq ?_
            | (refine AW.region ?_; conv => whnf)
            | refine AW.block ?_
            | (refine AW.skip ?_; conv => whnf)
            | refine AW.cond (by rfl) ?_
            | (refine Br.dt (by omega) ?_; conv => whnf)
            | (refine Br.df (by omega) ?_; conv => whnf)
            | (refine Wr.i64 (by omega) ?_; conv => whnf)
            | (refine Ck.mk (by omega) ?_; conv => whnf))
          exact ⟨k + 1, h + 1, (Less.cons rfl (Less.cons rfl (Less.cons rfl (Less.nil _)))), ⟨by omega, ⟨m, g, by omega⟩, rfl⟩, by omega⟩
    · rw [if_neg c] at hs
      rw [hs] at hj
      by_cases z : h - 1 = 0
      · rw [if_pos z] at hj
        cases hj
        repeat' (first
          | refine AW.seq ?_
          | (refine AW.region ?_; conv => whnf)
          | refine AW.block ?_
          | (refine AW.skip ?_; conv => whnf)
          | (refine AW.ret ?_; conv => whnf)
          | refine AW.cond (by rfl) ?_
          | (refine Br.dt (by omega) ?_; conv => whnf)
          | (refine Br.df (by omega) ?_; conv => whnf)
          | (refine Wr.i64 (by omega) ?_; conv => whnf)
          | (refine Ck.mk (by omega) ?_; conv => whnf))
        exact ⟨by congr 1; omega, rfl⟩
      · rw [if_neg z] at hj
        cases g : cutF (w.drop (k + 1)) (h - 1) with
        | none => rw [g] at hj; cases hj
        | some m =>
          rw [g] at hj
          cases hj
          repeat' (first
            | refine AW.seq ?_
            | (refine AW.region ?_; conv => whnf)
            | refine AW.block ?_
            | (refine AW.skip ?_; conv => whnf)
            | refine AW.cond (by rfl) ?_
            | (refine Br.dt (by omega) ?_; conv => whnf)
            | (refine Br.df (by omega) ?_; conv => whnf)
            | (refine Wr.i64 (by omega) ?_; conv => whnf)
            | (refine Ck.mk (by omega) ?_; conv => whnf))
          exact ⟨k + 1, h - 1, (Less.cons rfl (Less.cons rfl (Less.cons rfl (Less.nil _)))), ⟨by omega, ⟨m, g, by omega⟩, rfl⟩, by omega⟩
  · rw [List.drop_eq_nil_of_le (by omega)] at hj
    cases hj

theorem l6Binary_ok : ∀ (k : Nat) (w : List UInt8) (t : BT) (h0 : H), binF k w = some t → w.length ≤ 1000 → t.size ≤ 1000 → AC env 88 [.str w] h0 fun v h' => v = .str t.txt ∧ h' = h0 := by
  intro k
  induction k with
  | zero => intro w t h0 e _ _; cases e
  | succ k ih =>
    intro w t h0 e hw hz
    by_cases hn : w = []
    · subst hn
      cases binF_nil e
      refine AC.enter Tryz.func88 Tryz.call88 rfl Tryz.ntmps88 (of_decide_eq_true (by rfl)) ?_
      repeat' (first
        | refine AW.seq ?_
        | (refine AW.region ?_; conv => whnf)
        | (refine AW.ret ?_; conv => whnf)
        | refine AW.cond (by rfl) ?_
        | (refine Br.tt ?_; conv => whnf))
      exact ⟨rfl, rfl⟩
    · obtain ⟨i, a, b, hc, ha, hb, rfl⟩ := binF_node hn e
      have hi := cutF_lt w 0 i hc
      have hp := cutF_pos hc
      have ez : (BT.node a b).size = a.size + b.size + 1 := rfl
      have la := a.txt_length
      have lb := b.txt_length
      have et : (BT.node a b).txt = [40] ++ a.txt ++ b.txt ++ [41] := by
        simp [BT.txt]
      have i1 : ((i : Nat) : Int).toNat = i := Int.toNat_natCast i
      have i2 : ((i : Int) + 1).toNat = i + 1 := by omega
      have lt : (w.take i).length = i := by rw [List.length_take]; omega
      have hnb : (w == []) = false := beq_eq_false_iff_ne.2 hn
      refine AC.enter Tryz.func88 Tryz.call88 rfl Tryz.ntmps88 (of_decide_eq_true (by rfl)) ?_
      repeat' (first
        | (refine Br.f hnb ?_; conv => whnf)
        | (refine (l2Cut_ok w i _ hc hw).mono ?_; rintro v h' ⟨rfl, e'⟩; subst h'; conv => whnf)
        | (refine (ih ((w.take i).drop 1) a _ ha (by rw [List.length_drop]; omega) (by omega)).mono ?_; rintro v h' ⟨rfl, e'⟩; subst h'; conv => whnf)
        | (refine (ih (w.drop (i + 1)) b _ hb (by rw [List.length_drop]; omega) (by omega)).mono ?_; rintro v h' ⟨rfl, e'⟩; subst h'; conv => whnf)
        | refine AW.seq ?_
        | (refine AW.region ?_; conv => whnf)
        | (refine AW.skip ?_; conv => whnf)
        | (refine AW.ret ?_; conv => whnf)
        | refine AW.cond (by rfl) ?_
        | (refine AW.draw (id := 4) (.p 0 (.p 1 (.p 2 (.p 5 (.p 6 (.p 7 (.p 8 (.all [3] fun _ => (.p 4 (.all [9] fun _ => (.p 10 (.p 11 (.p 12 .done))))))))))))) (by kernel_rfl) (by kernel_rfl) ?_; conv => whnf)
        | (refine Wr.i64 (by omega) ?_; conv => whnf)
        | (refine Ck.mk (by omega) ?_; conv => whnf)
        | (refine Ck.mk (by simp only [List.length_drop, List.length_take, List.length_append, List.length_cons, List.length_nil]; omega) ?_; conv => whnf))
      exact ⟨by rw [et], rfl⟩

/-- rows of a callee beside the drawer -/
theorem CurSt.callR {H0 h h' : H} {c b : Nat} {L : List (Nat × Blk)} {R : RL} (s : CurSt H0 h c L) (t : St h h' ((b, row (slcs R)) :: (blks R ++ []))) : CurSt H0 h' c ((b, row (slcs R)) :: (blks R ++ L)) := by
  obtain ⟨v, l, i, k, h1, h2, h3, h4⟩ := s.ex
  refine ⟨v, l, i, k, h1, h2, h3, (h4.callR t).perm ?_⟩
  refine (List.Perm.cons _ List.perm_middle).trans (.swap _ _ _)

/-- what is known of a triangulation that was drawn -/
structure SmallD (n : Int) (d : List (List Int)) : Prop where
  nb : -1 ≤ n ∧ n ≤ 9223372036854775807
  len : d.length ≤ 6
  rows : ∀ x ∈ d, x.length ≤ 2
  tri : isTri n d = true → 2 ≤ n ∧ n ≤ 8
theorem tri_small {n : Int} {d : List (List Int)} (hd : d.length ≤ 5) (h : isTri n d = true) : 2 ≤ n ∧ n ≤ 8 := by
  have := (isTri_spec h).1
  unfold triSz at this
  omega
theorem tri_one {n : Int} {d : List (List Int)} {x : List Int} (hx : x ∈ d) (h1 : x.length ≠ 2) (h : isTri n d = true) : 2 ≤ n ∧ n ≤ 8 := by
  obtain ⟨i, hi, rfl⟩ := List.getElem_of_mem hx
  have := tri_two h i hi
  rw [show d.getD i [] = d[i] by simp [List.getD, hi]] at this
  exact absurd this h1
def TriDraw (H0 : H) (c : Nat) (L : List (Nat × Blk)) (w : AV) (h' : H) : Prop :=
  ∃ (n : Int) (d : List (List Int)) (b C : Nat) (R : RL), w = .tup [.int .i64 n, .slice b 0 d.length C] ∧ d.length ≤ C ∧ rws R = d ∧ SmallD n d ∧ CurSt H0 h' c ((b, row (slcs R)) :: (blks R ++ L))
theorem tup_len {n : Int} {b N M C : Nat} (e : N = M) : AV.tup [.int .i64 n, .slice b 0 N C] = AV.tup [.int .i64 n, .slice b 0 M C] := by rw [e]
theorem TriDraw.mk' {H0 h' : H} {c : Nat} {L : List (Nat × Blk)} {n : Int} {b N C : Nat} {R : RL} (hN : N = R.length) (hC : N ≤ C) (sm : SmallD n (rws R)) (s : CurSt H0 h' c ((b, row (slcs R)) :: (blks R ++ L))) : TriDraw H0 c L (.tup [.int .i64 n, .slice b 0 N C]) h' := by
  subst hN
  exact ⟨n, rws R, b, C, R, by rw [rws_length], by rw [rws_length]; exact hC, rfl, sm, s⟩
theorem Wr.halfN {m n : Nat} {K : Int → Prop} (h : m = 2 * n) (hn : n ≤ 1000) (hk : K (n : Int)) : Wr .i64 ((m : Int).tdiv 2) K := by
  have e : (m : Int).tdiv 2 = (n : Int) := by
    rw [h]
    have := half_len (2 * n)
    omega
  rw [e]
  exact Wr.i64 (by omega) hk
theorem sTriOfT_ok {t : BT} (h : t.size ≤ 8) (h0 : H) : AC env 68 [.str t.txt] h0 fun v h' => ∃ b C R, v = .tup [.slice b 0 (diagsT t).length C, .bool true] ∧ (diagsT t).length ≤ C ∧ rws R = diagsT t ∧ R.length = (diagsT t).length ∧ St h0 h' ((b, row (slcs R)) :: (blks R ++ [])) := by
  have := sTriOfC_ok t.txt h0
  rw [show triOfS t.txt = (diagsT t, true) from (by unfold triOfS; rw [treeOf_txt h])] at this
  exact this
theorem diagsT_small {t : BT} {n : Nat} (h : t.size = n) (hn : n ≤ 6) : (diagsT t).length ≤ 5 := by
  unfold diagsT
  rw [sortL_len]
  have := sidesB_len t 0 (t.size + 1)
  cases t with
  | leaf => simp [sidesB]
  | node a b =>
    have e : oneB (.node a b) 0 ((BT.node a b).size + 1) = [[((0 : Nat) : Int), (((BT.node a b).size + 1 : Nat) : Int)]] := rfl
    rw [e] at this
    simp only [List.length_cons, List.length_nil] at this
    omega
/-- the first row is replaced -/
theorem StoreG.curRow {H0 h : H} {c b bx sz n : Nat} {L : List (Nat × Blk)} {R : RL} {l : List Int} {K : H → Prop} {u : Nat} (s : CurSt H0 h c ((bx, row (ints l)) :: (b, row (slcs R)) :: (blks R ++ L))) (hi : 0 < R.length) (hs : sz = 1) (hn : n = 0) (hu : u = l.length)
    (hk : ∀ h' R', rws R' = (rws R).set 0 l → R'.length = R.length → CurSt H0 h' c ((b, row (slcs R')) :: (blks R' ++ L)) → K h') : StoreG h b (0 + mulSz n sz) (.slice bx 0 u u) K := by
  subst hn hu
  cases R with
  | nil => simp at hi
  | cons r0 R1 =>
    obtain ⟨v, a, i, k, h1, h2, h3, h4⟩ := s.ex
    refine StoreG.stV (cs := slcs (r0 :: R1)) (n := 0) h4 (.there (.there .here)) hs (by simp) rfl fun h' hs' => hk h' ((bx, l) :: R1) rfl rfl ⟨v, a, i, k, h1, h2, h3, ?_⟩
    have e : (slcs (r0 :: R1)).set 0 (.slice bx 0 l.length l.length) = slcs ((bx, l) :: R1) := rfl
    rw [e] at hs'
    have s2 := hs'.sub (.cons_cons _ (.cons_cons _ (.cons_cons _ (List.sublist_cons_self _ _))))
    exact s2.perm (.cons _ (.swap _ _ _))
/-- a row is put behind the rows -/
theorem AppG.curR {H0 h : H} {c b bz : Nat} {p : Nat × Blk} {L : List (Nat × Blk)} {R : RL} {l : List Int} {K : AV → H → Prop} {bytes N C n' : Nat} (s : CurSt H0 h c (p :: (bz, row (ints l)) :: (b, row (slcs R)) :: (blks R ++ L))) (hN : N = R.length) (hl : n' = l.length) (hb : R.length + 1 ≤ 1000000000) (hy : bytes ≤ 1000)
    (hk : ∀ b' h', CurSt H0 h' c ((b', row (slcs (R ++ [(bz, l)]))) :: (blks (R ++ [(bz, l)]) ++ L)) → K (.slice b' 0 (N + 1) (N + 1)) h') : AppG h (.slice b 0 N C) bytes [.slice bz 0 n' n'] 1 K := by
  obtain ⟨v, a, i, k, h1, h2, h3, h4⟩ := s.ex
  have h5 : St H0 h (p :: (bz, row (ints l)) :: (b, row (slcs R)) :: (blks R ++ (c, curB v i k) :: L)) := h4.perm ((List.Perm.swap _ _ _).trans (.cons _ ((List.Perm.swap _ _ _).trans (.cons _ ((List.Perm.swap _ _ _).trans (.cons _ List.perm_middle.symm))))))
  refine AppG.stR1 h5 hN hl hb hy fun b' h' hs' => hk b' h' ⟨v, a, i, k, h1, h2, h3, ?_⟩
  exact hs'.perm ((List.Perm.cons _ List.perm_middle).trans (.swap _ _ _))
theorem dMem {d : List (List Int)} {l : List Int} (h : ∀ x ∈ d, x.length = 2) (hl : l.length = 2) : ∀ x ∈ d.set 0 l, x.length = 2 := fun x hx => by
  rcases List.mem_or_eq_of_mem_set hx with hx | rfl
  · exact h x hx
  · exact hl
set_option maxHeartbeats 4000000 in
theorem l7Any_ok (H0 h : H) (c : Nat) (L : List (Nat × Blk)) (s : CurSt H0 h c L) : AC env 45 [.ptr c 0] h (TriDraw H0 c L) := by
  refine AC.enter Tryz.func45 Tryz.call45 rfl Tryz.ntmps45 (of_decide_eq_true (by rfl)) ?_
  repeat' (first
    | (refine (l2PathP_ok _ _ _ _ s).mono ?_; rintro w h1 ⟨n, x, rfl, hn6, hx, hc1⟩; obtain ⟨t, ht, htz⟩ := bin_at hn6 hx; have hxl : x.length = 2 * n := (okW_spec (List.all_eq_true.1 (paths_fine n (by omega)) _ hx)).1; conv => whnf)
    | (refine (l6Binary_ok 20 x t _ ht (by omega) (by omega)).mono ?_; rintro v h' ⟨rfl, e'⟩; subst h'; conv => whnf)
    | (refine (sTriOfT_ok (t := t) (by omega) _).mono ?_; rintro v h2 ⟨bD, CD, R, rfl, hCD, hR, hRl, hsR⟩; have hc2 := CurSt.callR hc1 hsR; have hd5 := diagsT_small htz hn6; have hd2 := diagsT_two t; conv => whnf)
    | (refine Wr.halfN hxl (by omega) ?_; conv => whnf)
    | (refine (l1Below_ok 14 _ _ _ _ hc2).mono ?_; rintro w h3 ⟨x14, rfl, hx1, hx2, hc3⟩; conv => whnf)
    | (refine NewG.cur (x := .cells true 1 [.int .i64 _, .int .i64 _, .int .i64 _, .int .i64 _]) hc3 (fun bp h' hc4 => ?_); conv => whnf)
    | (refine (l1PickInt_ok [(n : Int) + 2 + 1, 0, -1, 9223372036854775807] _ _ _ _ _ _ _ hc4 (.head _) rfl (by simp) (by simp)).mono ?_; rintro w h7 ⟨m, rfl, hm, hc5⟩; conv => whnf)
    | (refine (l1Below_ok 5 _ _ _ _ hc3).mono ?_; rintro w h4 ⟨x5, rfl, hx51, hx52, hc4⟩; conv => whnf)
    | (refine (l1Below_ok 6 _ _ _ _ hc4).mono ?_; rintro w h5 ⟨x6, rfl, hx61, hx62, hc5⟩; conv => whnf)
    | (refine NewG.cur (x := .cells true 1 [.int .i64 _, .int .i64 _]) hc5 (fun bp h' hc6 => ?_); conv => whnf)
    | (refine StoreG.curRow (l := [x5 - 1, x6]) (R := R) hc6 (by omega) rfl rfl rfl (fun h8 R' hR' hRl' hc7 => ?_); conv => whnf)
    | (refine NewG.cur (x := .cells true 1 [.int .i64 _]) hc3 (fun bz h' hc4 => ?_); conv => whnf)
    | (refine NewG.cur (x := .cells true 1 [.slice _ _ _ _]) hc4 (fun by' h' hc5 => ?_); conv => whnf)
    | (refine LoadsG.has (St.has (CurSt.st hc5) (.head _)) (by simp) ?_; conv => whnf)
    | (refine AppG.curR (l := [0]) (R := R) hc5 hRl.symm rfl (by omega) (by decide) (fun b' h' hc6 => ?_); conv => whnf)
    | refine AW.seq ?_
    | (refine AW.region ?_; conv => whnf)
    | refine AW.block ?_
    | (refine AW.skip ?_; conv => whnf)
    | (refine AW.ret ?_; conv => whnf)
    | refine AW.cond (by rfl) ?_
    | (refine Br.dec (fun hc => ?_) (fun hc => ?_) <;> conv => whnf)
    | (refine Wr.i64 (by omega) ?_; conv => whnf)
    | (refine Ck.mk (by omega) ?_; conv => whnf))
  all_goals
    have sm : ∀ k : Int, -1 ≤ k ∧ k ≤ 9223372036854775807 → SmallD k (rws R) := fun k hk => by
      rw [hR]
      exact ⟨hk, by omega, fun x hx => by have := hd2 x hx; omega, tri_small hd5⟩
  · refine TriDraw.mk' hRl.symm hCD (sm m ?_) (hc5.sub (List.sublist_cons_self _ _))
    simp only [List.mem_cons, List.not_mem_nil, or_false] at hm
    omega
  · refine TriDraw.mk' (by omega) hCD ?_ hc7
    rw [hR', hR]
    exact ⟨by omega, by rw [List.length_set]; omega, fun x hx => by have := dMem hd2 rfl x hx; omega, tri_small (by rw [List.length_set]; omega)⟩
  · exact TriDraw.mk' hRl.symm hCD (sm _ (by omega)) hc3
  · refine TriDraw.mk' (by rw [List.length_append, hRl]; rfl) (Nat.le_refl _) ?_ hc6
    have e : rws (R ++ [(bz, [0])]) = diagsT t ++ [[0]] := by rw [rws_append, hR]; rfl
    rw [e]
    refine ⟨by omega, by rw [List.length_append]; simp only [List.length_cons, List.length_nil]; omega, fun x hx => ?_, fun h => tri_one (x := [0]) (List.mem_append_right _ (.head _)) (by simp) h⟩
    rcases List.mem_append.1 hx with hx | hx
    · have := hd2 x hx
      omega
    · cases List.mem_singleton.1 hx
      simp
  · exact TriDraw.mk' hRl.symm hCD (sm _ (by omega)) hc3

end Go.Proofs.YtbicfognbbeigaaGreat
