/-
  Flips between triangulations have their contract proved for the program: its search finds the distance of their trees.
  It holds for at most seven corners.
-/
import Derived.Test.YtbicfognbbeigaaGreatH39
import Derived.Test.YtbicfognbbeigaaGreatC130
set_option linter.unusedVariables false
set_option linter.unusedSimpArgs false
namespace Go.Proofs.YtbicfognbbeigaaGreat
open Go.Proofs.YtbicfognbbeigaaGreat.Ab Go.Proofs.YtbicfognbbeigaaGreat.Pl

theorem nbR_num {n i : Nat} (hn : n ≤ 5) (hi : i < (trs n).length) : nbR ((n + 2 : Nat) : Int) (dg n i) = ((flI n i).map (dg n), true) := by
  have k := num_ok hn hi
  unfold nbR
  rw [if_pos k.tri, Int.toNat_natCast, k.flips]
theorem getD_mapD {n : Nat} {l : List Nat} {q : Nat} (h : q < l.length) : (l.map (dg n)).getD q [] = dg n (l.getD q 0) := by
  simp only [List.getD, List.getElem?_map, List.getElem?_eq_getElem h, Option.map_some, Option.getD_some]
theorem getD_memN {l : List Nat} {q : Nat} (h : q < l.length) : l.getD q 0 ∈ l := by
  rw [show l.getD q 0 = l[q] by simp only [List.getD, List.getElem?_eq_getElem h, Option.getD_some]]
  exact List.getElem_mem h
theorem T_getI {T : List AV} {k : Nat} {i : Int} {v : AV} (e : i = k) (h : T[k]? = some v) : T[i.toNat]? = some v := by
  subst e
  exact h
theorem St.front2 {h0 h : H} {p q : Nat × Blk} {Y X : List (Nat × Blk)} {r : Nat × Blk} (s : St h0 h (r :: (Y ++ (p :: q :: X)))) : St h0 h (p :: q :: (r :: (Y ++ X))) := by
  refine s.perm ?_
  have e1 : (Y ++ (p :: q :: X)).Perm (p :: (Y ++ (q :: X))) := List.perm_middle
  have e2 : (Y ++ (q :: X)).Perm (q :: (Y ++ X)) := List.perm_middle
  have e3 : (Y ++ (p :: q :: X)).Perm (p :: q :: (Y ++ X)) := e1.trans (e2.cons p)
  exact (e3.cons r).trans ((List.Perm.swap p r _).trans ((List.Perm.swap q r _).cons p))

theorem headG_inj {E : List (Nat × Nat)} (nd : (keysG E).Nodup) {a b : Nat} (ha : a < E.length) (hb : b < E.length) (h : headG E a = headG E b) : a = b := by
  have la : a < (keysG E).length := by rw [keysG_len]; exact ha
  have lb : b < (keysG E).length := by rw [keysG_len]; exact hb
  have ka : headG E a = (keysG E)[a] := by simp [headG, keysG, List.getD, ha]
  have kb : headG E b = (keysG E)[b] := by simp [headG, keysG, List.getD, hb]
  rw [ka, kb] at h
  exact (List.getElem_inj nd).1 h
set_option maxHeartbeats 8000000 in
theorem iBetween_ok (n i j : Nat) (R S : RL) (b c M M' C C' : Nat) (h0 : H) (hn : n ≤ 5) (hi : i < (trs n).length) (hj : j < (trs n).length) (hb : Grid h0 b R) (hR : rws R = dg n i) (hM : M = (dg n i).length) (hC : M ≤ C) (hc' : Grid h0 c S) (hS : rws S = dg n j) (hM' : M' = (dg n j).length) (hC' : M' ≤ C') :
    AC env 25 [.int .i64 ((n + 2 : Nat) : Int), .slice b 0 M C, .slice c 0 M' C'] h0 fun w h' => w = .int .i64 (((wayI n i j).length : Int) - 1) ∧ Keeps h0 h' := by
  have hs := St.refl h0
  have ki := num_ok hn hi
  have kj := num_ok hn hj
  have li := ki.len
  have lj := kj.len
  have bg := bfsG_ok hn hi hj
  have bgE := fun k hk => bfsG_E hn hi bg.more k hk
  have bsteps := bg.steps
  obtain ⟨P, hP⟩ : ∃ P, P = goalG (bfsG n i (trs n).length) j := ⟨_, rfl⟩
  have pC : P < (trs n).length := by rw [hP]; exact bg.pos
  have pH : headG (bfsG n i P) P = j ∧ stG (bfsG n i P) P + 1 = (wayI n i j).length := by
    obtain ⟨G, e⟩ := bfsG_pre n i ((trs n).length - P) P
    rw [show P + ((trs n).length - P) = (trs n).length by omega] at e
    have pp := headG_pre (G := G) (bg.more P pC)
    rw [← e] at pp
    rw [← pp.1, ← pp.2, hP]
    exact ⟨bg.head, bg.steps⟩
  have pN : ∀ k, k < P → headG (bfsG n i k) k ≠ j := fun k hk e => by
    obtain ⟨G, e2⟩ := bfsG_pre n i ((trs n).length - k) k
    rw [show k + ((trs n).length - k) = (trs n).length by omega] at e2
    have pp := headG_pre (G := G) (bg.more k (by omega))
    rw [← e2, e] at pp
    have hk2 : k < (bfsG n i (trs n).length).length := by rw [bg.len]; omega
    have hP3 : P < (bfsG n i (trs n).length).length := by rw [bg.len]; omega
    have := headG_inj (bgE _ (Nat.le_refl _)).nodup hk2 hP3 (pp.1.trans (by rw [hP]; exact bg.head.symm))
    omega
  have pM := bg.more
  have c42 := trs_le hn
  have ex : ((n + 2 : Nat) : Int) ≤ 7 := by omega
  have fi := fmtD_ok R (dg n i) b M C
  have kti : fmtD (dg n i) = kt n i := rfl
  have ktj : fmtD (dg n j) = kt n j := rfl
  obtain ⟨W, hW⟩ : ∃ W, W = wayI n i j := ⟨_, rfl⟩
  rw [← hW] at pH ⊢
  clear hP bsteps
  refine AC.enter Tryz.func25 Tryz.call25 rfl Tryz.ntmps25 (of_decide_eq_true (by rfl)) ?_
  repeat' (first
    | (refine (iIsTri_ok ((n + 2 : Nat) : Int) R (dg n i) _ _ _ _ hb hR hM (by omega) hC (by omega)).mono ?_; rw [ki.tri]; rintro v h' ⟨rfl, e'⟩; subst h'; conv => whnf)
    | (refine (iIsTri_ok ((n + 2 : Nat) : Int) S (dg n j) _ _ _ _ hc' hS hM' (by omega) hC' (by omega)).mono ?_; rw [kj.tri]; rintro v h' ⟨rfl, e'⟩; subst h'; conv => whnf)
    | (refine (fmtD_ok S (dg n j) c M' C' _ hc' hS hM' (by omega) kj.dig).mono ?_; rw [ktj]; rintro w h1 ⟨rfl, hk⟩; have hs1 := hs.keep hk; clear hk; conv => whnf)
    | (refine NewG.st hs1 (fun bm h2 hs2 => ?_); conv => whnf)
    | (refine (fmtD_ok R (dg n i) b M C _ (hb.arg hs2) hR hM (by omega) ki.dig).mono ?_; rw [kti]; rintro w h3 ⟨rfl, hk⟩; have hs3 := hs2.keep hk; clear hk; conv => whnf)
    | (refine MapSetG.putSt hs3 .here (strLaw strUnder) (by simp) (strKOk strUnder (kt_small hn hi)) (by simp) (fun h4 hs4 => ?_); conv => whnf)
    | (refine NewG.st hs4 (fun bt h5 hs5 => ?_); conv => whnf)
    | refine AW.seq ?_
    | (refine AW.region ?_; conv => whnf)
    | refine AW.block ?_
    | (refine AW.skip ?_; conv => whnf)
    | refine AW.cond (by rfl) ?_
    | (refine Br.ff ?_; conv => whnf)
    | (refine Br.df (by omega) ?_; conv => whnf))
  have hsB : St h0 h5 ((bt, row [.slice b 0 M C]) :: (bm, .map (entsG n (bfsG n i 0))) :: []) := hs5
  have t0 : TodoOk h0 [] n [.slice b 0 M C] (bfsG n i 0) := ⟨rfl, fun q hq => by
    have hq : q < 1 := hq
    obtain rfl : q = 0 := by omega
    subst hM
    exact ⟨b, R, C, rfl, hC, hR, .inl hb⟩⟩
  clear hs5 hs4 hs3 hs2 hs1 hs
  refine AW.loop3 (fun (k bt N : Nat) => [(0, .int .i64 ((n + 2 : Nat) : Int)), (7, .str (kt n j)), (8, .map bm), (9, .slice bt 0 N N), (10, .int .i64 (k : Int))]) (fun k bt N h' => (k ≤ P ∧ N = (bfsG n i k).length) ∧ ∃ X T, TodoOk h0 X n T (bfsG n i k) ∧ St h0 h' ((bt, row T) :: (bm, .map (entsG n (bfsG n i k))) :: X)) (fun k _ _ => P + 1 - k) 0 bt 1
    (Less.cons rfl (Less.cons rfl (Less.cons rfl (Less.cons rfl (Less.cons rfl (Less.nil _)))))) ⟨⟨by omega, rfl⟩, [], _, t0, hsB⟩ ?_
  clear hsB t0
  rintro k bt N h2 ⟨⟨hk, hN⟩, X, T, td, hs2⟩
  have eok := bgE k (by omega)
  have kE := pM k (by omega)
  have e2 : bfsG n i (k + 1) = rowG n k (bfsG n i k) := rfl
  have le := gents_bound eok
  have hx := pN k
  have hP2 : k = P → headG (bfsG n i k) k = j ∧ stG (bfsG n i k) k + 1 = W.length := fun e => by rw [e]; exact pH
  obtain ⟨E, hE⟩ : ∃ E, E = bfsG n i k := ⟨_, rfl⟩
  rw [← hE] at hN td hs2 eok kE e2 le hx hP2
  clear hE
  have hh := eok.head kE
  have va := valG_at eok kE
  obtain ⟨bx, RX, CX, q1, q2, q3, q4⟩ := td.is k kE
  obtain ⟨x, ex2⟩ : ∃ x, x = headG E k := ⟨_, rfl⟩
  obtain ⟨s, es⟩ : ∃ s, s = stG E k := ⟨_, rfl⟩
  rw [← ex2] at q1 q2 q3 va hh hx hP2
  rw [← es] at va hh hP2
  have kx := num_ok hn hh.1
  have lx := kx.len
  have ktx : fmtD (dg n x) = kt n x := rfl
  have dk : decide (x ∈ keysG E) = true := decide_eq_true va.2
  have tl := td.len
  have gX : ∀ {h : H} {L : List (Nat × Blk)}, St h0 h L → (∀ p ∈ X, p ∈ L) → Grid h bx RX := fun s hX => q4.at s hX
  have inX : ∀ p ∈ X, p ∈ ((bt, row T) :: (bm, .map (entsG n E)) :: X) := fun p hp => .tail _ (.tail _ hp)
  by_cases hit : x = j
  · have hkP : k = P := by
      apply Classical.byContradiction
      intro h
      exact hx (by omega) hit
    have hst := (hP2 hkP).2
    have heq : (kt n x == kt n j) = true := by rw [hit]; exact beq_self_eq_true _
    repeat' (first
      | (refine Has.loadAt (v := .slice bx 0 (dg n x).length CX) (St.has (by assumption) (.head _)) rfl (T_getI rfl q1) ?_; conv => whnf)
      | (refine (fmtD_ok RX (dg n x) bx _ CX _ (gX (by assumption) inX) q3 rfl (by omega) kx.dig).mono ?_; rw [ktx]; rintro w h3 ⟨rfl, hk⟩; have hs3 := St.keep (by assumption) hk; clear hk; conv => whnf)
      | (refine LookG.key hn (by assumption) (.tail _ (.head _)) eok hh.1 ?_; rw [dk, va.1]; conv => whnf)
      | (refine Br.t heq ?_; conv => whnf)
      | refine AW.seq ?_
      | (refine AW.region ?_; conv => whnf)
      | refine AW.block ?_
      | (refine AW.skip ?_; conv => whnf)
      | (refine AW.ret ?_; conv => whnf)
      | refine AW.cond (by rfl) ?_
      | (refine Br.dt (by omega) ?_; conv => whnf)
      | (refine Ck.mk (by omega) ?_; conv => whnf))
    exact ⟨by congr 1; omega, St.keeps (by assumption)⟩
  · have hkP : k < P := by
      apply Classical.byContradiction
      intro h
      exact hit (hP2 (by omega)).1
    have hne : (kt n x == kt n j) = false := beq_eq_false_iff_ne.2 fun h => hit ((kt_inj hn hh.1 hj).1 h)
    have nb := nbR_num hn hh.1
    obtain ⟨m, hm⟩ : ∃ m, m = (flI n x).length := ⟨_, rfl⟩
    have lm : ((flI n x).map (dg n)).length = m := by rw [List.length_map, hm]
    have fx := kx.flips
    have ml : m = (dg n x).length := by
      rw [← lm, ← fx, List.length_map, List.length_range]
    repeat' (first
      | (refine Has.loadAt (v := .slice bx 0 (dg n x).length CX) (St.has (by assumption) (.head _)) rfl (T_getI rfl q1) ?_; conv => whnf)
      | (refine (fmtD_ok RX (dg n x) bx _ CX _ (gX (by assumption) inX) q3 rfl (by omega) kx.dig).mono ?_; rw [ktx]; rintro w h3 ⟨rfl, hk⟩; have hs3 := St.keep (by assumption) hk; clear hk; conv => whnf)
      | (refine LookG.key hn (by assumption) (.tail _ (.head _)) eok hh.1 ?_; rw [dk, va.1]; conv => whnf)
      | (refine Br.f hne ?_; conv => whnf)
      | (refine (iNb_ok ((n + 2 : Nat) : Int) RX (dg n x) bx _ CX _ (gX (by assumption) inX) q3 rfl (by omega) q2 (by omega)).mono ?_; rw [nb]; rintro w h4 ⟨bF, SF, rfl, hSF, hLF, hsF⟩; rw [lm] at hLF ⊢; have hs4 := St.front2 (St.call3 (by assumption) hsF); clear hsF; conv => whnf)
      | refine AW.seq ?_
      | (refine AW.region ?_; conv => whnf)
      | refine AW.block ?_
      | (refine AW.skip ?_; conv => whnf)
      | refine AW.cond (by rfl) ?_
      | (refine Br.dt (by omega) ?_; conv => whnf)
      | (refine Ck.mk (by omega) ?_; conv => whnf))
    rename_i hs3a
    clear hs2 hs3 hs3a
    obtain ⟨Y, hY⟩ : ∃ Y, Y = (bF, row (slc3 SF)) :: (blk3 SF ++ X) := ⟨_, rfl⟩
    rw [← hY] at hs4
    have tdY : TodoOk h0 Y n T E := td.more fun p hp => by rw [hY]; exact .tail _ (List.mem_append_right _ hp)
    have mF : (bF, row (slc3 SF)) ∈ Y := by rw [hY]; exact .head _
    have mS : ∀ p ∈ blk3 SF, p ∈ Y := fun p hp => by rw [hY]; exact .tail _ (List.mem_append_left _ hp)
    refine AW.loop3 (fun (q bt N : Nat) => [(0, .int .i64 ((n + 2 : Nat) : Int)), (7, .str (kt n j)), (8, .map bm), (9, .slice bt 0 N N), (10, .int .i64 (k : Int)), (11, .int .i64 ((s : Nat) : Int)), (70, .slice bF 0 m m), (71, .int .i64 (m : Int)), (72, .int .i64 (q : Int))]) (fun q bt N h' => (q ≤ m ∧ N = (rowToG n k E q).length) ∧ ∃ T, TodoOk h0 Y n T (rowToG n k E q) ∧ St h0 h' ((bt, row T) :: (bm, .map (entsG n (rowToG n k E q))) :: Y)) (fun q _ _ => m - q) 0 bt N
      (Less.cons rfl (Less.cons rfl (Less.cons rfl (Less.cons rfl (Less.cons rfl (Less.cons rfl (Less.cons rfl (Less.cons rfl (Less.cons rfl (Less.nil _)))))))))) ⟨⟨by omega, hN⟩, T, tdY, hs4⟩ ?_
    clear hs4 tdY hN td
    rintro q bt N h5 ⟨⟨hq, hN⟩, T2, td2, hs5⟩
    have rok := rowToG_E q hn eok kE
    have rle := gents_bound rok
    have rpre : ∃ G, rowToG n k E q = E ++ G := foldG_pre _ _ _
    have tl2 := td2.len
    by_cases hlt : q < m
    · obtain ⟨y, hy⟩ : ∃ y, y = (flI n x).getD q 0 := ⟨_, rfl⟩
      have yC : y < (trs n).length := by rw [hy]; exact kx.lt _ (getD_memN (by omega))
      have ky := num_ok hn yC
      have ly := ky.len
      have kty : fmtD (dg n y) = kt n y := rfl
      have e1 : rowToG n k E (q + 1) = addG s (rowToG n k E q) y := by
        have := rowToG_succ (n := n) (i := k) (E := E) (k := q) (by rw [← ex2]; omega)
        rw [this, ← es, ← ex2, hy]
      have gl : ((flI n x).map (dg n)).getD q [] = dg n y := by rw [getD_mapD (by omega), hy]
      have sl : rws (rl3 SF q) = dg n y := by rw [← rw3_at hSF, gl]
      have mq := rl3_mem SF q (by omega)
      have gy : GridX h0 Y (rb3 SF q) (rl3 SF q) := .inr ⟨mS _ (blk3_mem mq).1, fun p hp => mS _ ((blk3_mem mq).2 p hp)⟩
      have inY : ∀ {A : Nat × Blk} {B : Nat × Blk}, ∀ p ∈ Y, p ∈ (A :: B :: Y) := fun p hp => .tail _ (.tail _ hp)
      have cub : ∀ {h : H} {L : List (Nat × Blk)}, St h0 h L → (∀ p ∈ Y, p ∈ L) → Cube h bF SF := fun s hX => St.cubeIn s (hX _ mF) fun p hp => hX _ (mS p hp)
      obtain ⟨V, hV⟩ : ∃ V, V = rowToG n k E q := ⟨_, rfl⟩
      rw [← hV] at hN td2 hs5 rok rle e1 tl2 rpre
      have sV : s ≤ V.length := by
        obtain ⟨G, e⟩ := rpre
        have := hh.2
        rw [e, List.length_append]
        omega
      by_cases hit2 : y ∈ keysG V
      · have hd2 : decide (y ∈ keysG V) = true := decide_eq_true hit2
        have e3 : addG s V y = V := if_pos hit2
        repeat' (first
          | (refine Cube.rowAt (cub (by assumption) inY) hSF q rfl (by omega) (by omega) (by rw [gl]) ?_; conv => whnf)
          | (refine (fmtD_ok (rl3 SF q) (dg n y) (rb3 SF q) _ _ _ (gy.at (by assumption) inY) sl rfl (by omega) ky.dig).mono ?_; rw [kty]; rintro w h6 ⟨rfl, hk⟩; have hs6 := St.keep (by assumption) hk; clear hk; conv => whnf)
          | (refine LookG.key hn (by assumption) (.tail _ (.head _)) rok yC ?_; rw [hd2]; conv => whnf)
          | refine AW.seq ?_
          | (refine AW.region ?_; conv => whnf)
          | refine AW.block ?_
          | (refine AW.skip ?_; conv => whnf)
          | refine AW.cond (by rfl) ?_
          | (refine Br.ff ?_; conv => whnf)
          | (refine Br.dt (by omega) ?_; conv => whnf)
          | (refine Wr.i64 (by omega) ?_; conv => whnf)
          | (refine Ck.mk (by omega) ?_; conv => whnf))
        exact ⟨q + 1, bt, N, (Less.cons rfl (Less.cons rfl (Less.cons rfl (Less.cons rfl (Less.cons rfl (Less.cons rfl (Less.cons rfl (Less.cons rfl (Less.cons rfl (Less.nil _)))))))))), ⟨⟨by omega, by rw [e1, e3]; exact hN⟩, T2, by rw [e1, e3]; exact td2, by rw [e1, e3]; exact hs6⟩, by omega⟩
      · have hd2 : decide (y ∈ keysG V) = false := decide_eq_false hit2
        have e3 : addG s V y = V ++ [(y, s + 1)] := if_neg hit2
        have t2 : entsG n (V ++ [(y, s + 1)]) = entsG n V ++ [(.str (kt n y), .int .i64 ((s : Int) + 1))] := by
          rw [entsG_append]
          rfl
        have td3 := td2.snoc (s := s + 1) (R := rl3 SF q) (b := rb3 SF q) (y := y) (C := (dg n y).length) rfl (Nat.le_refl _) sl gy
        repeat' (first
          | (refine Cube.rowAt (cub (by assumption) inY) hSF q rfl (by omega) (by omega) (by rw [gl]) ?_; conv => whnf)
          | (refine (fmtD_ok (rl3 SF q) (dg n y) (rb3 SF q) _ _ _ (gy.at (by assumption) inY) sl rfl (by omega) ky.dig).mono ?_; rw [kty]; rintro w h6 ⟨rfl, hk⟩; have hs6 := St.keep (by assumption) hk; clear hk; conv => whnf)
          | (refine LookG.key hn (by assumption) (.tail _ (.head _)) rok yC ?_; rw [hd2]; conv => whnf)
          | (refine MapSetG.putSt hs6 (.there .here) (strLaw strUnder) (entsG_ok hn rok) (strKOk strUnder (kt_small hn yC)) (entsG_no hn rok yC hit2) (fun h7 hs7 => ?_); conv => whnf)
          | (refine NewG.st hs7 (fun bq h8 hs8 => ?_); conv => whnf)
          | (refine LoadsG.has (St.has hs8 (.head _)) (by simp) ?_; conv => whnf)
          | (refine AppG.stV (cs := T2) hs8 (fun b' => .there .here) (by omega) (by omega) (by decide) rfl (fun bt' h9 hs9 => ?_); have hs10 := hs9.tail; conv => whnf)
          | refine AW.seq ?_
          | (refine AW.region ?_; conv => whnf)
          | refine AW.block ?_
          | (refine AW.skip ?_; conv => whnf)
          | refine AW.cond (by rfl) ?_
          | (refine Br.tt ?_; conv => whnf)
          | (refine Br.dt (by omega) ?_; conv => whnf)
          | (refine Wr.i64 (by omega) ?_; conv => whnf)
          | (refine Ck.mk (by omega) ?_; conv => whnf))
        exact ⟨q + 1, bt', N + 1, (Less.cons rfl (Less.cons rfl (Less.cons rfl (Less.cons rfl (Less.cons rfl (Less.cons rfl (Less.cons rfl (Less.cons rfl (Less.cons rfl (Less.nil _)))))))))), ⟨⟨by omega, by rw [e1, e3, hN]; simp⟩, _, by rw [e1, e3]; exact td3, by rw [e1, e3, t2]; exact hs10⟩, by omega⟩
    · obtain rfl : q = m := by omega
      have e1 : rowToG n k E q = rowG n k E := by
        have := rowToG_all n k E
        rw [← ex2, ← hm] at this
        exact this
      rw [e1] at hN hs5 td2
      repeat' (first
        | refine AW.seq ?_
        | (refine AW.region ?_; conv => whnf)
        | (refine AW.exit ?_; conv => whnf)
        | refine AW.cond (by rfl) ?_
        | (refine Br.df (by omega) ?_; conv => whnf)
        | (refine Wr.i64 (by omega) ?_; conv => whnf))
      exact ⟨k + 1, bt, N, (Less.cons rfl (Less.cons rfl (Less.cons rfl (Less.cons rfl (Less.cons rfl (Less.nil _)))))), ⟨⟨by omega, by rw [e2]; exact hN⟩, Y, T2, by rw [e2]; exact td2, by rw [e2]; exact hs5⟩, by omega⟩
theorem iBetweenNo_ok (n : Int) (f g : List (List Int)) (R S : RL) (b c M M' C C' : Nat) (h0 : H) (no : ¬ fitT n f g) (hn : -9223372036854775808 ≤ n ∧ n ≤ 9223372036854775807) (hb : Grid h0 b R) (hR : rws R = f) (hM : M = f.length) (hl : M ≤ 1000000000) (hC : M ≤ C) (hc' : Grid h0 c S) (hS : rws S = g) (hM' : M' = g.length) (hl' : M' ≤ 1000000000) (hC' : M' ≤ C') :
    AC env 25 [.int .i64 n, .slice b 0 M C, .slice c 0 M' C'] h0 fun w h' => w = .int .i64 (-1) ∧ h' = h0 := by
  cases h1 : isTri n f with
  | false =>
    refine AC.enter Tryz.func25 Tryz.call25 rfl Tryz.ntmps25 (of_decide_eq_true (by rfl)) ?_
    repeat' (first
      | (refine (iIsTri_ok n R f _ _ _ _ hb hR hM hl hC hn).mono ?_; rw [h1]; rintro v h' ⟨rfl, e'⟩; subst h'; conv => whnf)
      | refine AW.seq ?_
      | (refine AW.region ?_; conv => whnf)
      | (refine AW.ret ?_; conv => whnf)
      | refine AW.cond (by rfl) ?_
      | (refine Br.tt ?_; conv => whnf))
    all_goals exact ⟨rfl, rfl⟩
  | true =>
    cases h2 : isTri n g with
    | false =>
      refine AC.enter Tryz.func25 Tryz.call25 rfl Tryz.ntmps25 (of_decide_eq_true (by rfl)) ?_
      repeat' (first
        | (refine (iIsTri_ok n R f _ _ _ _ hb hR hM hl hC hn).mono ?_; rw [h1]; rintro v h' ⟨rfl, e'⟩; subst h'; conv => whnf)
        | (refine (iIsTri_ok n S g _ _ _ _ hc' hS hM' hl' hC' hn).mono ?_; rw [h2]; rintro v h' ⟨rfl, e'⟩; subst h'; conv => whnf)
        | refine AW.seq ?_
        | (refine AW.region ?_; conv => whnf)
        | (refine AW.ret ?_; conv => whnf)
        | refine AW.cond (by rfl) ?_
        | (refine Br.tt ?_; conv => whnf)
        | (refine Br.ff ?_; conv => whnf))
      all_goals exact ⟨rfl, rfl⟩
    | true =>
      have big : ¬ n ≤ 7 := fun h => no ⟨h1, h2, h⟩
      refine AC.enter Tryz.func25 Tryz.call25 rfl Tryz.ntmps25 (of_decide_eq_true (by rfl)) ?_
      repeat' (first
        | (refine (iIsTri_ok n R f _ _ _ _ hb hR hM hl hC hn).mono ?_; rw [h1]; rintro v h' ⟨rfl, e'⟩; subst h'; conv => whnf)
        | (refine (iIsTri_ok n S g _ _ _ _ hc' hS hM' hl' hC' hn).mono ?_; rw [h2]; rintro v h' ⟨rfl, e'⟩; subst h'; conv => whnf)
        | refine AW.seq ?_
        | (refine AW.region ?_; conv => whnf)
        | (refine AW.ret ?_; conv => whnf)
        | refine AW.cond (by rfl) ?_
        | (refine Br.ff ?_; conv => whnf)
        | (refine Br.dt (by omega) ?_; conv => whnf))
      all_goals exact ⟨rfl, rfl⟩

end Go.Proofs.YtbicfognbbeigaaGreat

/-
  The law of flips is proved.
  It holds for all codes.
-/
set_option linter.unusedVariables false
set_option linter.unusedSimpArgs false
namespace Go.Proofs.YtbicfognbbeigaaGreat
open Go.Proofs.YtbicfognbbeigaaGreat.Ab Go.Proofs.YtbicfognbbeigaaGreat.Pl

set_option maxRecDepth 100000 in
theorem fanTri_fine : (List.range 13).all (fun n => (List.range 10).all fun k => !((fan (n : Nat) (k : Nat)).2) || isTri (n : Nat) (fan (n : Nat) (k : Nat)).1) = true := by decide +kernel
theorem fan2_cases {n k : Int} (hn : 0 ≤ n ∧ n ≤ 12) (hk : -1 ≤ k ∧ k ≤ 9) : (∃ F, fan n k = (F, true) ∧ isTri n F = true) ∨ fan n k = ([], false) := by
  by_cases h : fanOk n k
  · left
    have h2 : 0 ≤ k := h.2.1
    obtain ⟨N, rfl⟩ := Int.eq_ofNat_of_zero_le hn.1
    obtain ⟨K, rfl⟩ := Int.eq_ofNat_of_zero_le h2
    have e : fan (N : Int) (K : Int) = (sortL (fanL (N : Int) (K : Int) ((N : Int)).toNat), true) := if_pos h
    have c := List.all_eq_true.1 (List.all_eq_true.1 fanTri_fine N (List.mem_range.2 (by omega))) K (List.mem_range.2 (by omega))
    rw [e] at c
    exact ⟨_, e, c⟩
  · exact .inr (if_neg h)
set_option maxHeartbeats 16000000 in
theorem flSeg5 {h0 : H} (l : List UInt8) (v : AV) (hv : CellsAt h0 v (bytesAV l)) (hl : l.length ≤ 1048576) : ∀ fr h, MidC h0 v fr h → AW env 311 (restL 13 (bodyOf Tryz.f3)) fr h (retK Tryz.f3.results.toList fun v _ => v = .bool true) := by
  rintro fr h ⟨l1, k1⟩
  refine AW.less l1 ?_
  have hv1 := hv.keep k1
  have hv2 := hv1
  have nilS : ∀ x ∈ ([] : List (List Int)), x.length ≤ 1000 := fun x hx => (nomatch hx)
  obtain ⟨rfl, e⟩ | ⟨b, c, rfl, hbb⟩ := hv2
  all_goals
    refine AW.seq ?_
    repeat' (first
      | (refine (drawFan_ok _ _ _ hv1 hl).mono ?_; rintro w h1 ⟨n, k, rfl, hn, hk, k2⟩; rcases fan2_cases hn hk with ⟨F, hF, ftri⟩ | hF <;> (conv => whnf))
      | (refine (iFanK_ok hF _ (by omega) (by omega)).mono ?_; rintro w h2 ⟨bf, RF, rfl, hRF, hRl, hn3⟩; have gF := St.rows hn3; have k3 := hn3.keeps; clear hn3; conv => whnf)
      | (refine (sFanK_ok hF _ (by omega) (by omega)).mono ?_; rintro w h3 ⟨bg, RG, rfl, hRG, hGl, hn4⟩; have gG := St.rows hn4; have k4 := hn4.keeps; clear hn4; conv => whnf)
      | (refine (drawBetween_ok _ _ _ (((hv1.keep k2).keep k3).keep k4) hl).mono ?_; rintro w h4 ⟨m, d, e2, bd, Cd, be, Ce, RD, RE, rfl, hm, hCd, hRD, hCe, hRE, hn5⟩; have gE := St.rows hn5; have gD : Grid h4 bd RD := St.gridAt hn5 (.there (.app .here)); have k5 := hn5.keeps; clear hn5; rcases Classical.em (fitT m d e2) with fit | fit <;> (conv => whnf))
      | (refine (drawNb_ok _ _ _ ((((hv1.keep k2).keep k3).keep k4).keep k5) hl).mono ?_; rintro w h5 ⟨o, p, bp, Cp, RP, rfl, hCp, hRP, sm, hn6⟩; have hnb := sm.nb; have hpl := sm.len; have gP := St.rows hn6; have k6 := hn6.keeps; clear hn6; conv => whnf)
      | (refine (iNb_ok o RP p bp _ Cp _ gP hRP rfl (by omega) hCp (by omega)).mono ?_; rintro w h6 ⟨bA, SA, rfl, hSA, hLA, hn7⟩; have k7 := hn7.keeps; clear hn7; conv => whnf)
      | (refine (sNb_ok o RP p bp _ Cp _ (gP.keep k7) hRP rfl (by omega) (by omega)).mono ?_; rintro w h7 ⟨bB, SB, rfl, hSB, hLB, hn8⟩; have k8 := hn8.keeps; clear hn8; have kk := ((k5.trans k6).trans k7).trans k8; have gF7 := (gF.keep k4).keep kk; have gG7 := gG.keep kk; have k57 := (k6.trans k7).trans k8; have gD7 := gD.keep k57; have gE7 := gE.keep k57; have nbl := (nbR_fine o p).1; conv => whnf)
      | (refine (sameListsD_ok F F RF RG _ _ _ _ _ _ _ gF7 gG7 hRF hRG rfl rfl (by have := (isTri_spec ftri).1; unfold triSz at this; omega) (by have := (isTri_spec ftri).1; unfold triSz at this; omega) (short_two ftri) (short_two ftri)).mono ?_; rw [decide_eq_true rfl]; rintro w h' ⟨rfl, e'⟩; subst h'; conv => whnf)
      | (refine (sameListsD_ok [] [] RF RG _ _ _ _ _ _ _ gF7 gG7 hRF hRG rfl rfl (by simp) (by simp) nilS nilS).mono ?_; rw [decide_eq_true rfl]; rintro w h' ⟨rfl, e'⟩; subst h'; conv => whnf)
      | (refine (iIsTri_ok n RG F _ _ _ _ gG7 hRG rfl (by have := (isTri_spec ftri).1; unfold triSz at this; omega) (Nat.le_refl _) (by omega)).mono ?_; rw [ftri]; rintro w h' ⟨rfl, e'⟩; subst h'; conv => whnf)
      | (refine (iBetweenNo_ok m d e2 RD RE _ _ _ _ _ _ _ fit (by omega) gD7 hRD rfl (by omega) hCd.1 gE7 hRE rfl (by omega) hCe.1).mono ?_; rintro w h' ⟨rfl, e'⟩; subst h'; conv => whnf)
      | (refine (sBetweenNo_ok m d e2 RD RE _ _ _ _ _ _ _ fit (by omega) gD7 hRD rfl (by omega) gE7 hRE rfl (by omega)).mono ?_; rintro w h' ⟨rfl, e'⟩; subst h'; conv => whnf)
      | (obtain ⟨q, i, j, rfl, hq5, hi, hj, rfl, rfl⟩ := fitT_num fit; refine (iBetween_ok q i j RD RE _ _ _ _ _ _ _ hq5 hi hj gD7 hRD rfl hCd.1 gE7 hRE rfl hCe.1).mono ?_; rintro w h8 ⟨rfl, k9⟩; conv => whnf)
      | (refine (sBetween_ok q i j RD RE _ _ _ _ _ _ _ hq5 hi hj (gD7.keep k9) hRD rfl (gE7.keep k9) hRE rfl).mono ?_; rintro w h9 ⟨rfl, k10⟩; conv => whnf)
      | (refine Br.t (beq_self_eq_true ((nbR o p).2)) ?_; conv => whnf)
      | (refine AW.seqLow (T := 47) ?_; conv => whnf)
      | (refine AW.region ?_; conv => whnf)
      | (refine AW.ret ?_; conv => whnf)
      | (refine Br.tt ?_; conv => whnf)
      | (refine Br.ff ?_; conv => whnf)
      | (refine Br.t (beq_self_eq_true _) ?_; conv => whnf))
    all_goals first
      | rfl
      | (simp; done)
set_option maxHeartbeats 4000000 in
theorem lawFlips_ok {h : H} (v : AV) (m : BytesArg h v) : AC env 3 [v] h fun v _ => v = .bool true := by
  obtain ⟨l, hl0, hv, e1⟩ := bytesArg_two m
  by_cases hl : l.length ≤ 1048576
  · refine AC.enter Tryz.func3 Tryz.call3 rfl Tryz.ntmps3 (of_decide_eq_true (by rfl)) ?_
    exact flSeg1 l v hv hl (flSeg2 v (flSeg3 l v hv hl (flSeg4 v (flSeg5 l v hv hl)))) _ _ ⟨(Less.cons rfl (Less.nil _)), Keeps.refl _⟩
  · have hb : decide ((l.length : Int) > 1048576) = true := decide_eq_true (by omega)
    obtain ⟨rfl, rfl⟩ | ⟨b, c, rfl⟩ := e1
    all_goals
      refine AC.enter Tryz.func3 Tryz.call3 rfl Tryz.ntmps3 (of_decide_eq_true (by rfl)) ?_
      repeat' (first
        | (refine (codeBig_ok _ _ _ hv).mono ?_; rw [hb]; rintro w h' ⟨rfl, e'⟩; subst h'; conv => whnf)
        | (refine AW.seqLow (T := 47) ?_; conv => whnf)
        | (refine AW.region ?_; conv => whnf)
        | (refine AW.ret ?_; conv => whnf)
        | refine AW.cond (by rfl) ?_
        | (refine Br.tt ?_; conv => whnf))
      all_goals rfl

end Go.Proofs.YtbicfognbbeigaaGreat
