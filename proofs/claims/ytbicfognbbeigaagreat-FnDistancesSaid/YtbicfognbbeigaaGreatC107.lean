/-
  Mirrored trees and drawn pairs of trees have their contracts proved.
  They hold for all codes.
-/
import Derived.Test.YtbicfognbbeigaaGreatH20
import Derived.Test.YtbicfognbbeigaaGreatH18
import Derived.Test.YtbicfognbbeigaaGreatC103
set_option linter.unusedVariables false
set_option linter.unusedSimpArgs false
namespace Go.Proofs.YtbicfognbbeigaaGreat
open Go.Proofs.YtbicfognbbeigaaGreat.Ab Go.Proofs.YtbicfognbbeigaaGreat.Pl

def mirB : BT → BT
  | .leaf => .leaf
  | .node a b => .node (mirB b) (mirB a)
theorem mirB_size : ∀ t : BT, (mirB t).size = t.size
  | .leaf => rfl
  | .node a b => by
    show (mirB b).size + (mirB a).size + 1 = a.size + b.size + 1
    rw [mirB_size a, mirB_size b]
    omega
theorem l6Mirror_ok : ∀ (t : BT) (T : List UInt8) (h0 : H), T = t.txt → t.size ≤ 1000 → AC env 79 [.str T] h0 fun w h' => w = .str (mirB t).txt ∧ h' = h0 := by
  intro t
  induction t with
  | leaf =>
    rintro T h0 rfl hz
    have e : ((BT.leaf).txt == [46]) = true := rfl
    refine AC.enter Tryz.func79 Tryz.call79 rfl Tryz.ntmps79 (of_decide_eq_true (by rfl)) ?_
    repeat' (first
      | (refine Br.t e ?_; conv => whnf)
      | refine AW.seq ?_
      | (refine AW.region ?_; conv => whnf)
      | (refine AW.ret ?_; conv => whnf)
      | refine AW.cond (by rfl) ?_)
    exact ⟨rfl, rfl⟩
  | node x y ih1 ih2 =>
    rintro T h0 hT hz
    have ez : (BT.node x y).size = x.size + y.size + 1 := rfl
    rw [ez] at hz
    obtain ⟨tl, p1, p2, p3⟩ := txt_parts hT
    have lx := x.txt_length
    have ly := y.txt_length
    obtain ⟨q1, q2⟩ := txt_cut hT
    have ne := txt_ne hT
    have mx := (mirB x).txt_length
    have my := (mirB y).txt_length
    have sx := mirB_size x
    have sy := mirB_size y
    have e1 := fun h0 => end1_ok hT (by omega) h0
    refine AC.enter Tryz.func79 Tryz.call79 rfl Tryz.ntmps79 (of_decide_eq_true (by rfl)) ?_
    repeat' (first
      | (rw [q1]; conv => whnf)
      | (rw [q2]; conv => whnf)
      | (refine Br.f ne ?_; conv => whnf)
      | (refine (e1 _).mono ?_; rintro w h' ⟨rfl, e'⟩; subst h'; conv => whnf)
      | (refine (ih2 _ _ rfl (by omega)).mono ?_; rintro w h' ⟨rfl, e'⟩; subst h'; conv => whnf)
      | (refine (ih1 _ _ rfl (by omega)).mono ?_; rintro w h' ⟨rfl, e'⟩; subst h'; conv => whnf)
      | refine AW.seq ?_
      | (refine AW.region ?_; conv => whnf)
      | (refine AW.skip ?_; conv => whnf)
      | (refine AW.ret ?_; conv => whnf)
      | refine AW.cond (by rfl) ?_
      | (refine AW.draw (id := 4) (.p 0 (.p 1 (.p 2 (.p 3 (.p 4 (.p 5 (.p 8 (.p 9 (.p 10 (.all [6] fun _ => (.p 7 (.all [11] fun _ => (.p 12 (.p 13 (.p 14 .done))))))))))))))) (by kernel_rfl) (by kernel_rfl) ?_; conv => whnf)
      | (refine Wr.i64 (by omega) ?_; conv => whnf)
      | (refine Ck.mk (by omega) ?_; conv => whnf)
      | (refine Ck.mk (by simp only [List.length_drop, List.length_take, List.length_append, List.length_cons, List.length_nil]; omega) ?_; conv => whnf))
    exact ⟨by simp [BT.txt, mirB], rfl⟩
theorem sMirror_ok (t : BT) (h0 : H) (hz : t.size ≤ 8) : AC env 35 [.str t.txt] h0 fun w h' => w = .tup [.str (mirB t).txt, .bool true] ∧ h' = h0 := by
  have ht := treeOf_txt (t := t) (by omega)
  refine AC.enter Tryz.func35 Tryz.call35 rfl Tryz.ntmps35 (of_decide_eq_true (by rfl)) ?_
  repeat' (first
    | (refine (sIsBinary_ok _ _).mono ?_; rw [ht]; rintro v h' ⟨rfl, e'⟩; subst h'; conv => whnf)
    | (refine (l6Mirror_ok t _ _ rfl (by omega)).mono ?_; rintro w h' ⟨rfl, e'⟩; subst h'; conv => whnf)
    | refine AW.seq ?_
    | (refine AW.region ?_; conv => whnf)
    | (refine AW.skip ?_; conv => whnf)
    | (refine AW.ret ?_; conv => whnf)
    | refine AW.cond (by rfl) ?_
    | (refine Br.ff ?_; conv => whnf))
  exact ⟨rfl, rfl⟩

theorem draw_bin {n : Nat} {x : List UInt8} (hn : n ≤ 6) (hx : x ∈ dyP n) : ∃ t, binF 20 x = some t ∧ t.size = n ∧ x.length ≤ 1000 := by
  obtain ⟨t, ht, hz⟩ := bin_at hn hx
  have : x.length = 2 * n := (okW_spec (List.all_eq_true.1 (paths_fine n (by omega)) _ hx)).1
  exact ⟨t, ht, hz, by omega⟩
theorem all_short {l : List (List UInt8)} {x : List UInt8} (hm : x ∈ l) (h : (l.all fun y => decide (y.length ≤ 100)) = true) : x.length ≤ 100 := of_decide_eq_true (List.all_eq_true.1 h x hm)

set_option maxHeartbeats 4000000 in
theorem l6Any_ok (H0 h : H) (c : Nat) (L : List (Nat × Blk)) (s : CurSt H0 h c L) : AC env 102 [.ptr c 0] h fun w h' => ∃ x : List UInt8, w = .str x ∧ x.length ≤ 100 ∧ CurSt H0 h' c L := by
  refine AC.enter Tryz.func102 Tryz.call102 rfl Tryz.ntmps102 (of_decide_eq_true (by rfl)) ?_
  repeat' (first
    | (refine (l2PathP_ok _ _ _ _ s).mono ?_; rintro w h1 ⟨n, x, rfl, hn6, hx, hc1⟩; obtain ⟨t, ht, htz, hxl⟩ := draw_bin hn6 hx; have tl := t.txt_length; conv => whnf)
    | (refine (l6Binary_ok 20 x t _ ht (by omega) (by omega)).mono ?_; rintro v h' ⟨rfl, e'⟩; subst h'; conv => whnf)
    | (refine (l1Below_ok 12 _ _ _ _ hc1).mono ?_; rintro w h3 ⟨x14, rfl, hx1, hx2, hc3⟩; conv => whnf)
    | (refine (l1Spoil_ok _ _ _ _ _ hc3 (by omega)).mono ?_; rintro w h4 ⟨x5, rfl, hx5, hc4⟩; conv => whnf)
    | (refine NewG.cur hc3 (fun bp h' hc4 => ?_); conv => whnf)
    | (refine (l1Pick_ok [[], [46], [40, 46, 46, 41], [46, 46], [40, 46, 41], [40, 46, 46, 46, 41], [40, 46, 46], [40, 46, 46, 41, 41]] _ _ _ _ _ _ _ hc4 (.head _) rfl (by simp) (by simp)).mono ?_; rintro w h7 ⟨m, rfl, hm, hc5⟩; have hml := all_short hm (by decide); conv => whnf)
    | refine AW.seq ?_
    | (refine AW.region ?_; conv => whnf)
    | refine AW.block ?_
    | (refine AW.skip ?_; conv => whnf)
    | (refine AW.ret ?_; conv => whnf)
    | refine AW.cond (by rfl) ?_
    | (refine Br.dec (fun hc => ?_) (fun hc => ?_) <;> conv => whnf))
  · exact ⟨_, rfl, by omega, hc4⟩
  · exact ⟨_, rfl, hml, hc5.sub (List.sublist_cons_self _ _)⟩
  · exact ⟨_, rfl, by omega, hc3⟩
def TreeDraw (H0 : H) (c : Nat) (L : List (Nat × Blk)) (m : Int) (w : AV) (h' : H) : Prop := ∃ (t : BT) (x : List UInt8), w = .tup [.str t.txt, .str x] ∧ (t.size : Int) ≤ m ∧ x.length ≤ 100 ∧ CurSt H0 h' c L
set_option maxHeartbeats 4000000 in
theorem l17Two_ok (m : Int) (H0 h : H) (c : Nat) (L : List (Nat × Blk)) (s : CurSt H0 h c L) (hm : 0 ≤ m ∧ m ≤ 6) : AC env 67 [.ptr c 0, .int .i64 m] h (TreeDraw H0 c L m) := by
  refine AC.enter Tryz.func67 Tryz.call67 rfl Tryz.ntmps67 (of_decide_eq_true (by rfl)) ?_
  repeat' (first
    | (refine (l1Below_ok _ _ _ _ _ s).mono ?_; rintro w h1 ⟨n, rfl, hn0, hn1, hc1⟩; have hn2 := hn1 (by omega); conv => whnf)
    | (refine (l2DrawI_ok n _ _ _ _ hc1 (by omega)).mono ?_; rintro w h2 ⟨x, rfl, hx, hc2⟩; obtain ⟨t, ht, htz, hxl⟩ := draw_bin (by omega) hx; have tl := t.txt_length; conv => whnf)
    | (refine (l6Binary_ok 20 x t _ ht (by omega) (by omega)).mono ?_; rintro v h' ⟨rfl, e'⟩; subst h'; conv => whnf)
    | (refine (l1Once_ok 14 _ _ _ _ hc2).mono ?_; rintro w h3 ⟨x14, rfl, hc3⟩; conv => whnf)
    | (refine (l6Any_ok _ _ _ _ hc3).mono ?_; rintro w h4 ⟨z, rfl, hz, hc4⟩; conv => whnf)
    | (refine (l1Once_ok 2 _ _ _ _ hc3).mono ?_; rintro w h4 ⟨x2, rfl, hc4⟩; conv => whnf)
    | (refine (l1Below_ok 4 _ _ _ _ hc4).mono ?_; rintro w h5 ⟨k, rfl, hk0, hk1, hc5⟩; conv => whnf)
    | (refine (l2DrawI_ok n _ _ _ _ hc4 (by omega)).mono ?_; rintro w h5 ⟨y, rfl, hy, hc5⟩; obtain ⟨u, hu, huz, hyl⟩ := draw_bin (by omega) hy; have ul := u.txt_length; conv => whnf)
    | (refine (l6Binary_ok 20 y u _ hu (by omega) (by omega)).mono ?_; rintro v h' ⟨rfl, e'⟩; subst h'; conv => whnf)
    | refine AW.seq ?_
    | (refine AW.region ?_; conv => whnf)
    | refine AW.block ?_
    | (refine AW.skip ?_; conv => whnf)
    | (refine AW.ret ?_; conv => whnf)
    | refine AW.cond (by rfl) ?_
    | (refine Br.mk (fun hc => ?_) (fun hc => ?_) <;> conv => whnf)
    | (refine Wr.i64 (by omega) ?_; conv => whnf))
  · exact ⟨t, z, rfl, by omega, hz, hc4⟩
  · obtain ⟨k, rfl⟩ := Int.eq_ofNat_of_zero_le hk0
    refine AW.loop2 (fun (u : BT) (k : Nat) => [(0, .ptr c 0), (6, .int .i64 n), (7, .str t.txt), (8, .str u.txt), (9, .int .i64 (k : Int))]) (fun u k h' => (u.size = t.size ∧ k ≤ 100) ∧ CurSt H0 h' c L) (fun _ k => k) t k (Less.cons rfl (Less.cons rfl (Less.cons rfl (Less.cons rfl (Less.cons rfl (Less.nil _)))))) ⟨⟨rfl, by have := hk1 (by omega); omega⟩, hc5⟩ ?_
    rintro u k h6 ⟨⟨hu, hk⟩, hc6⟩
    have ul := u.txt_length
    by_cases go : 0 < k ∧ 0 < n
    · obtain ⟨k, rfl⟩ : ∃ j, k = j + 1 := ⟨k - 1, by omega⟩
      repeat' (first
        | (refine (l1Below_ok n _ _ _ _ hc6).mono ?_; rintro w h7 ⟨i, rfl, hi0, hi1, hc7⟩; obtain ⟨i, rfl⟩ := Int.eq_ofNat_of_zero_le hi0; have hi2 := hi1 (by omega); conv => whnf)
        | (refine (sRotR_ok u i _ (by omega) (by omega)).mono ?_; rcases er : rotR u i with _ | r <;> (rintro w h' ⟨rfl, e'⟩; subst h'; conv => whnf))
        | refine AW.seq ?_
        | (refine AW.region ?_; conv => whnf)
        | refine AW.block ?_
        | (refine AW.skip ?_; conv => whnf)
        | refine AW.cond (by rfl) ?_
        | (refine Br.tt ?_; conv => whnf)
        | (refine Br.ff ?_; conv => whnf)
        | (refine Br.dt (by omega) ?_; conv => whnf)
        | (refine Wr.i64 (by omega) ?_; conv => whnf))
      · exact ⟨u, k, (by rw [show ((k : Nat) : Int) = ((k + 1 : Nat) : Int) - 1 by omega]; exact (Less.cons rfl (Less.cons rfl (Less.cons rfl (Less.cons rfl (Less.cons rfl (Less.nil _))))))), ⟨⟨hu, by omega⟩, hc7⟩, by omega⟩
      · exact ⟨r, k, (by rw [show ((k : Nat) : Int) = ((k + 1 : Nat) : Int) - 1 by omega]; exact (Less.cons rfl (Less.cons rfl (Less.cons rfl (Less.cons rfl (Less.cons rfl (Less.nil _))))))), ⟨⟨by rw [rotR_size (by omega) er, hu], by omega⟩, hc7⟩, by omega⟩
    · repeat' (first
        | refine AW.seq ?_
        | (refine AW.region ?_; conv => whnf)
        | (refine AW.ret ?_; conv => whnf)
        | (refine AW.exit ?_; conv => whnf)
        | refine AW.cond (by rfl) ?_
        | (refine Br.ff ?_; conv => whnf)
        | (refine Br.dt (by omega) ?_; conv => whnf)
        | (refine Br.df (by omega) ?_; conv => whnf)
        | (refine Br.dec (fun hc => ?_) (fun hc => ?_) <;> conv => whnf))
      all_goals exact ⟨t, u.txt, rfl, by omega, by omega, hc6⟩
  · exact ⟨t, u.txt, rfl, by omega, by omega, hc5⟩
/-- two texts are drawn, the first of which is a tree -/
def TreeDraw0 (H0 : H) (m : Int) (w : AV) (h' : H) : Prop := ∃ (t : BT) (x : List UInt8), w = .tup [.str t.txt, .str x] ∧ (t.size : Int) ≤ m ∧ x.length ≤ 100 ∧ Keeps H0 h'
theorem l17Pair_ok (l : List UInt8) (v : AV) (m : Int) (h0 : H) (hv : CellsAt h0 v (bytesAV l)) (hl : l.length ≤ 1048576) (hm : 0 ≤ m ∧ m ≤ 6) : AC env 71 [v, .int .i64 m] h0 (TreeDraw0 h0 m) := by
  have hv2 := hv
  rcases hv2 with ⟨rfl, e⟩ | ⟨b, cp, rfl, hb⟩
  all_goals
    refine AC.enter Tryz.func71 Tryz.call71 rfl Tryz.ntmps71 (of_decide_eq_true (by rfl)) ?_
    repeat' (first
      | (refine (l1New_ok l _ _ hv hl).mono ?_; rintro w h' ⟨c, rfl, hc⟩; conv => whnf)
      | (refine (l17Two_ok m _ _ _ _ hc hm).mono ?_; rintro w h' ⟨t, x, rfl, ht, hx, hc2⟩; conv => whnf)
      | refine AW.seq ?_
      | (refine AW.region ?_; conv => whnf)
      | (refine AW.ret ?_; conv => whnf))
    exact ⟨t, x, rfl, ht, hx, hc2.st.keeps⟩
theorem drawWay_ok (l : List UInt8) (v : AV) (h0 : H) (hv : CellsAt h0 v (bytesAV l)) (hl : l.length ≤ 1048576) : AC env 27 [v] h0 (TreeDraw0 h0 5) := by
  have hv2 := hv
  rcases hv2 with ⟨rfl, e⟩ | ⟨b, cp, rfl, hb⟩
  all_goals
    refine AC.enter Tryz.func27 Tryz.call27 rfl Tryz.ntmps27 (of_decide_eq_true (by rfl)) ?_
    repeat' (first
      | (refine (l17Pair_ok l _ 5 _ hv hl (by omega)).mono ?_; rintro w h' ⟨t, x, rfl, ht, hx, k1⟩; conv => whnf)
      | refine AW.seq ?_
      | (refine AW.region ?_; conv => whnf)
      | (refine AW.ret ?_; conv => whnf))
    exact ⟨t, x, rfl, ht, hx, k1⟩
theorem drawCom_ok (l : List UInt8) (v : AV) (h0 : H) (hv : CellsAt h0 v (bytesAV l)) (hl : l.length ≤ 1048576) : AC env 39 [v] h0 (TreeDraw0 h0 6) := by
  have hv2 := hv
  rcases hv2 with ⟨rfl, e⟩ | ⟨b, cp, rfl, hb⟩
  all_goals
    refine AC.enter Tryz.func39 Tryz.call39 rfl Tryz.ntmps39 (of_decide_eq_true (by rfl)) ?_
    repeat' (first
      | (refine (l17Pair_ok l _ 6 _ hv hl (by omega)).mono ?_; rintro w h' ⟨t, x, rfl, ht, hx, k1⟩; conv => whnf)
      | refine AW.seq ?_
      | (refine AW.region ?_; conv => whnf)
      | (refine AW.ret ?_; conv => whnf))
    exact ⟨t, x, rfl, ht, hx, k1⟩
theorem drawDiam_ok (l : List UInt8) (v : AV) (h0 : H) (hv : CellsAt h0 v (bytesAV l)) (hl : l.length ≤ 1048576) : AC env 38 [v] h0 fun w h' => ∃ n : Int, w = .int .i64 n ∧ -1 ≤ n ∧ n ≤ 5 ∧ Keeps h0 h' := by
  have hv2 := hv
  rcases hv2 with ⟨rfl, e⟩ | ⟨b, cp, rfl, hb⟩
  all_goals
    refine AC.enter Tryz.func38 Tryz.call38 rfl Tryz.ntmps38 (of_decide_eq_true (by rfl)) ?_
    repeat' (first
      | (refine (l1New_ok l _ _ hv hl).mono ?_; rintro w h' ⟨c, rfl, hc⟩; conv => whnf)
      | (refine (l1Below_ok 7 _ _ _ _ hc).mono ?_; rintro w h3 ⟨x, rfl, hx1, hx2, hc3⟩; have hx3 := hx2 (by omega); conv => whnf)
      | refine AW.seq ?_
      | (refine AW.region ?_; conv => whnf)
      | (refine AW.ret ?_; conv => whnf)
      | (refine Wr.i64 (by omega) ?_; conv => whnf))
    exact ⟨_, rfl, by omega, by omega, hc3.st.keeps⟩

end Go.Proofs.YtbicfognbbeigaaGreat
