/-
  Mirrored trees and drawn pairs of trees have their contracts proved.
  They hold for all codes.
-/
import Derived.Test.YtbicfognbbeigaaGreatH4
import Derived.Test.YtbicfognbbeigaaGreatH3
import Derived.Test.YtbicfognbbeigaaGreatC103
import Derived.Test.YtbicfognbbeigaaGreatH28
set_option linter.unusedVariables false
set_option linter.unusedSimpArgs false
namespace Go.Proofs.YtbicfognbbeigaaGreat
open Go.Proofs.YtbicfognbbeigaaGreat.Ab Go.Proofs.YtbicfognbbeigaaGreat.Pl

def mirB : BT → BT
  | .leaf => .leaf
  | .node a b => .node (mirB b) (mirB a)
theorem mirB_size : ∀ t : BT, (mirB t).size = t.size
  | .leaf => rfl
  | .node a b => by
    show (mirB b).size + (mirB a).size + 1 = a.size + b.size + 1
    rw [mirB_size a, mirB_size b]
    omega
theorem l6Mirror_ok : ∀ (t : BT) (T : List UInt8) (h0 : H), T = t.txt → t.size ≤ 1000 → AC env 79 [.str T] h0 fun w h' => w = .str (mirB t).txt ∧ h' = h0 := by
  intro t
  induction t with
  | leaf =>
    rintro T h0 rfl hz
    have e : ((BT.leaf).txt == [46]) = true := rfl
    refine AC.enter Tryz.func79 Tryz.call79 rfl Tryz.ntmps79 (of_decide_eq_true (by rfl)) ?_
    repeat' (first
      | (refine Br.t e ?_; conv => whnf)
      | refine AW.seq ?_
      | (refine AW.region ?_; conv => whnf)
      | (refine AW.ret ?_; conv => whnf)
      | refine AW.cond (by rfl) ?_)
    exact ⟨rfl, rfl⟩
  | node x y ih1 ih2 =>
    rintro T h0 hT hz
    have ez : (BT.node x y).size = x.size + y.size + 1 := rfl
    rw [ez] at hz
    obtain ⟨tl, p1, p2, p3⟩ := txt_parts hT
    have lx := x.txt_length
    have ly := y.txt_length
    obtain ⟨q1, q2⟩ := txt_cut hT
    have ne := txt_ne hT
    have mx := (mirB x).txt_length
    have my := (mirB y).txt_length
    have sx := mirB_size x
    have sy := mirB_size y
    have e1 := fun h0 => end1_ok hT (by omega) h0
    refine AC.enter Tryz.func79 Tryz.call79 rfl Tryz.ntmps79 (of_decide_eq_true (by rfl)) ?_
    repeat' (first
      | (rw [q1]; conv => whnf)
      | (rw [q2]; conv => whnf)
      | (refine Br.f ne ?_; conv => whnf)
      | (refine (e1 _).mono ?_; rintro w h' ⟨rfl, e'⟩; subst h'; conv => whnf)
      | (refine (ih2 _ _ rfl (by omega)).mono ?_; rintro w h' ⟨rfl, e'⟩; subst h'; conv => whnf)
      | (refine (ih1 _ _ rfl (by omega)).mono ?_; rintro w h' ⟨rfl, e'⟩; subst h'; conv => whnf)
      | refine AW.seq ?_
      | (refine AW.region ?_; conv => whnf)
      | (refine AW.skip ?_; conv => whnf)
      | (refine AW.ret ?_; conv => whnf)
      | refine AW.cond (by rfl) ?_
      | (refine AW.draw (id := 4) (.p 0 (.p 1 (.p 2 (.p 3 (.p 4 (.p 5 (.p 8 (.p 9 (.p 10 (.all [6] fun _ => (.p 7 (.all [11] fun _ => (.p 12 (.p 13 (.p 14 .done))))))))))))))) (by kernel_rfl) (by kernel_rfl) ?_; conv => whnf)
      | (refine Wr.i64 (by omega) ?_; conv => whnf)
      | (refine Ck.mk (by omega) ?_; conv => whnf)
      | (refine Ck.mk (by simp only [List.length_drop, List.length_take, List.length_append, List.length_cons, List.length_nil]; omega) ?_; conv => whnf))
    exact ⟨by simp [BT.txt, mirB], rfl⟩
theorem sMirror_ok (t : BT) (h0 : H) (hz : t.size ≤ 8) : AC env 35 [.str t.txt] h0 fun w h' => w = .tup [.str (mirB t).txt, .bool true] ∧ h' = h0 := by
  have ht := treeOf_txt (t := t) (by omega)
  refine AC.enter Tryz.func35 Tryz.call35 rfl Tryz.ntmps35 (of_decide_eq_true (by rfl)) ?_
  repeat' (first
    | (refine (sIsBinary_ok _ _).mono ?_; rw [ht]; rintro v h' ⟨rfl, e'⟩; subst h'; conv => whnf)
    | (refine (l6Mirror_ok t _ _ rfl (by omega)).mono ?_; rintro w h' ⟨rfl, e'⟩; subst h'; conv => whnf)
    | refine AW.seq ?_
    | (refine AW.region ?_; conv => whnf)
    | (refine AW.skip ?_; conv => whnf)
    | (refine AW.ret ?_; conv => whnf)
    | refine AW.cond (by rfl) ?_
    | (refine Br.ff ?_; conv => whnf))
  exact ⟨rfl, rfl⟩

theorem draw_bin {n : Nat} {x : List UInt8} (hn : n ≤ 6) (hx : x ∈ dyP n) : ∃ t, binF 20 x = some t ∧ t.size = n ∧ x.length ≤ 1000 := by
  obtain ⟨t, ht, hz⟩ := bin_at hn hx
  have : x.length = 2 * n := (okW_spec (List.all_eq_true.1 (paths_fine n (by omega)) _ hx)).1
  exact ⟨t, ht, hz, by omega⟩
theorem all_short {l : List (List UInt8)} {x : List UInt8} (hm : x ∈ l) (h : (l.all fun y => decide (y.length ≤ 100)) = true) : x.length ≤ 100 := of_decide_eq_true (List.all_eq_true.1 h x hm)

set_option maxHeartbeats 4000000 in
theorem l6Any_ok (H0 h : H) (c : Nat) (L : List (Nat × Blk)) (s : CurSt H0 h c L) : AC env 102 [.ptr c 0] h fun w h' => ∃ x : List UInt8, w = .str x ∧ x.length ≤ 100 ∧ CurSt H0 h' c L := by
  refine AC.enter Tryz.func102 Tryz.call102 rfl Tryz.ntmps102 (of_decide_eq_true (by rfl)) ?_
  repeat' (first
    | (refine (l2PathP_ok _ _ _ _ s).mono ?_; rintro w h1 ⟨n, x, rfl, hn6, hx, hc1⟩; obtain ⟨t, ht, htz, hxl⟩ := draw_bin hn6 hx; have tl := t.txt_length; conv => whnf)
    | (refine (l6Binary_ok 20 x t _ ht (by omega) (by omega)).mono ?_; rintro v h' ⟨rfl, e'⟩; subst h'; conv => whnf)
    | (refine (l1Below_ok 12 _ _ _ _ hc1).mono ?_; rintro w h3 ⟨x14, rfl, hx1, hx2, hc3⟩; conv => whnf)
    | (refine (l1Spoil_ok _ _ _ _ _ hc3 (by omega)).mono ?_; rintro w h4 ⟨x5, rfl, hx5, hc4⟩; conv => whnf)
    | (refine NewG.cur hc3 (fun bp h' hc4 => ?_); conv => whnf)
    | (refine (l1Pick_ok [[], [46], [40, 46, 46, 41], [46, 46], [40, 46, 41], [40, 46, 46, 46, 41], [40, 46, 46], [40, 46, 46, 41, 41]] _ _ _ _ _ _ _ hc4 (.head _) rfl (by simp) (by simp)).mono ?_; rintro w h7 ⟨m, rfl, hm, hc5⟩; have hml := all_short hm (by decide); conv => whnf)
    | refine AW.seq ?_
    | (refine AW.region ?_; conv => whnf)
    | refine AW.block ?_
    | (refine AW.skip ?_; conv => whnf)
    | (refine AW.ret ?_; conv => whnf)
    | refine AW.cond (by rfl) ?_
    | (refine Br.dec (fun hc => ?_) (fun hc => ?_) <;> conv => whnf))
  · exact ⟨_, rfl, by omega, hc4⟩
  · exact ⟨_, rfl, hml, hc5.sub (List.sublist_cons_self _ _)⟩
  · exact ⟨_, rfl, by omega, hc3⟩
def TreeDraw (H0 : H) (c : Nat) (L : List (Nat × Blk)) (m : Int) (w : AV) (h' : H) : Prop := ∃ (t : BT) (x : List UInt8), w = .tup [.str t.txt, .str x] ∧ (t.size : Int) ≤ m ∧ x.length ≤ 100 ∧ CurSt H0 h' c L
set_option maxHeartbeats 4000000 in
theorem l17Two_ok (m : Int) (H0 h : H) (c : Nat) (L : List (Nat × Blk)) (s : CurSt H0 h c L) (hm : 0 ≤ m ∧ m ≤ 6) : AC env 67 [.ptr c 0, .int .i64 m] h (TreeDraw H0 c L m) := by
  refine AC.enter Tryz.func67 Tryz.call67 rfl Tryz.ntmps67 (of_decide_eq_true (by rfl)) ?_
  repeat' (first
    | (refine (l1Below_ok _ _ _ _ _ s).mono ?_; rintro w h1 ⟨n, rfl, hn0, hn1, hc1⟩; have hn2 := hn1 (by omega); conv => whnf)
    | (refine (l2DrawI_ok n _ _ _ _ hc1 (by omega)).mono ?_; rintro w h2 ⟨x, rfl, hx, hc2⟩; obtain ⟨t, ht, htz, hxl⟩ := draw_bin (by omega) hx; have tl := t.txt_length; conv => whnf)
    | (refine (l6Binary_ok 20 x t _ ht (by omega) (by omega)).mono ?_; rintro v h' ⟨rfl, e'⟩; subst h'; conv => whnf)
    | (refine (l1Once_ok 14 _ _ _ _ hc2).mono ?_; rintro w h3 ⟨x14, rfl, hc3⟩; conv => whnf)
    | (refine (l6Any_ok _ _ _ _ hc3).mono ?_; rintro w h4 ⟨z, rfl, hz, hc4⟩; conv => whnf)
    | (refine (l1Once_ok 2 _ _ _ _ hc3).mono ?_; rintro w h4 ⟨x2, rfl, hc4⟩; conv => whnf)
    | (refine (l1Below_ok 4 _ _ _ _ hc4).mono ?_; rintro w h5 ⟨k, rfl, hk0, hk1, hc5⟩; conv => whnf)
    | (refine (l2DrawI_ok n _ _ _ _ hc4 (by omega)).mono ?_; rintro w h5 ⟨y, rfl, hy, hc5⟩; obtain ⟨u, hu, huz, hyl⟩ := draw_bin (by omega) hy; have ul := u.txt_length; conv => whnf)
    | (refine (l6Binary_ok 20 y u _ hu (by omega) (by omega)).mono ?_; rintro v h' ⟨rfl, e'⟩; subst h'; conv => whnf)
    | refine AW.seq ?_
    | (refine AW.region ?_; conv => whnf)
    | refine AW.block ?_
    | (refine AW.skip ?_; conv => whnf)
    | (refine AW.ret ?_; conv => whnf)
    | refine AW.cond (by rfl) ?_
    | (refine Br.mk (fun hc => ?_) (fun hc => ?_) <;> conv => whnf)
    | (refine Wr.i64 (by omega) ?_; conv => whnf))
  · exact ⟨t, z, rfl, by omega, hz, hc4⟩
  · obtain ⟨k, rfl⟩ := Int.eq_ofNat_of_zero_le hk0
    refine AW.loop2 (fun (u : BT) (k : Nat) => [(0, .ptr c 0), (6, .int .i64 n), (7, .str t.txt), (8, .str u.txt), (9, .int .i64 (k : Int))]) (fun u k h' => (u.size = t.size ∧ k ≤ 100) ∧ CurSt H0 h' c L) (fun _ k => k) t k (Less.cons rfl (Less.cons rfl (Less.cons rfl (Less.cons rfl (Less.cons rfl (Less.nil _)))))) ⟨⟨rfl, by have := hk1 (by omega); omega⟩, hc5⟩ ?_
    rintro u k h6 ⟨⟨hu, hk⟩, hc6⟩
    have ul := u.txt_length
    by_cases go : 0 < k ∧ 0 < n
    · obtain ⟨k, rfl⟩ : ∃ j, k = j + 1 := ⟨k - 1, by omega⟩
      repeat' (first
        | (refine (l1Below_ok n _ _ _ _ hc6).mono ?_; rintro w h7 ⟨i, rfl, hi0, hi1, hc7⟩; obtain ⟨i, rfl⟩ := Int.eq_ofNat_of_zero_le hi0; have hi2 := hi1 (by omega); conv => whnf)
        | (refine (sRotR_ok u i _ (by omega) (by omega)).mono ?_; rcases er : rotR u i with _ | r <;> (rintro w h' ⟨rfl, e'⟩; subst h'; conv => whnf))
        | refine AW.seq ?_
        | (refine AW.region ?_; conv => whnf)
        | refine AW.block ?_
        | (refine AW.skip ?_; conv => whnf)
        | refine AW.cond (by rfl) ?_
        | (refine Br.tt ?_; conv => whnf)
        | (refine Br.ff ?_; conv => whnf)
        | (refine Br.dt (by omega) ?_; conv => whnf)
        | (refine Wr.i64 (by omega) ?_; conv => whnf))
      · exact ⟨u, k, (by rw [show ((k : Nat) : Int) = ((k + 1 : Nat) : Int) - 1 by omega]; exact (Less.cons rfl (Less.cons rfl (Less.cons rfl (Less.cons rfl (Less.cons rfl (Less.nil _))))))), ⟨⟨hu, by omega⟩, hc7⟩, by omega⟩
      · exact ⟨r, k, (by rw [show ((k : Nat) : Int) = ((k + 1 : Nat) : Int) - 1 by omega]; exact (Less.cons rfl (Less.cons rfl (Less.cons rfl (Less.cons rfl (Less.cons rfl (Less.nil _))))))), ⟨⟨by rw [rotR_size (by omega) er, hu], by omega⟩, hc7⟩, by omega⟩
    · repeat' (first
        | refine AW.seq ?_
        | (refine AW.region ?_; conv => whnf)
        | (refine AW.ret ?_; conv => whnf)
        | (refine AW.exit ?_; conv => whnf)
        | refine AW.cond (by rfl) ?_
        | (refine Br.ff ?_; conv => whnf)
        | (refine Br.dt (by omega) ?_; conv => whnf)
        | (refine Br.df (by omega) ?_; conv => whnf)
        | (refine Br.dec (fun hc => ?_) (fun hc => ?_) <;> conv => whnf))
      all_goals exact ⟨t, u.txt, rfl, by omega, by omega, hc6⟩
  · exact ⟨t, u.txt, rfl, by omega, by omega, hc5⟩
/-- two texts are drawn, the first of which is a tree -/
def TreeDraw0 (H0 : H) (m : Int) (w : AV) (h' : H) : Prop := ∃ (t : BT) (x : List UInt8), w = .tup [.str t.txt, .str x] ∧ (t.size : Int) ≤ m ∧ x.length ≤ 100 ∧ Keeps H0 h'
theorem l17Pair_ok (l : List UInt8) (v : AV) (m : Int) (h0 : H) (hv : CellsAt h0 v (bytesAV l)) (hl : l.length ≤ 1048576) (hm : 0 ≤ m ∧ m ≤ 6) : AC env 71 [v, .int .i64 m] h0 (TreeDraw0 h0 m) := by
  have hv2 := hv
  rcases hv2 with ⟨rfl, e⟩ | ⟨b, cp, rfl, hb⟩
  all_goals
    refine AC.enter Tryz.func71 Tryz.call71 rfl Tryz.ntmps71 (of_decide_eq_true (by rfl)) ?_
    repeat' (first
      | (refine (l1New_ok l _ _ hv hl).mono ?_; rintro w h' ⟨c, rfl, hc⟩; conv => whnf)
      | (refine (l17Two_ok m _ _ _ _ hc hm).mono ?_; rintro w h' ⟨t, x, rfl, ht, hx, hc2⟩; conv => whnf)
      | refine AW.seq ?_
      | (refine AW.region ?_; conv => whnf)
      | (refine AW.ret ?_; conv => whnf))
    exact ⟨t, x, rfl, ht, hx, hc2.st.keeps⟩
theorem drawWay_ok (l : List UInt8) (v : AV) (h0 : H) (hv : CellsAt h0 v (bytesAV l)) (hl : l.length ≤ 1048576) : AC env 27 [v] h0 (TreeDraw0 h0 5) := by
  have hv2 := hv
  rcases hv2 with ⟨rfl, e⟩ | ⟨b, cp, rfl, hb⟩
  all_goals
    refine AC.enter Tryz.func27 Tryz.call27 rfl Tryz.ntmps27 (of_decide_eq_true (by rfl)) ?_
    repeat' (first
      | (refine (l17Pair_ok l _ 5 _ hv hl (by omega)).mono ?_; rintro w h' ⟨t, x, rfl, ht, hx, k1⟩; conv => whnf)
      | refine AW.seq ?_
      | (refine AW.region ?_; conv => whnf)
      | (refine AW.ret ?_; conv => whnf))
    exact ⟨t, x, rfl, ht, hx, k1⟩
theorem drawCom_ok (l : List UInt8) (v : AV) (h0 : H) (hv : CellsAt h0 v (bytesAV l)) (hl : l.length ≤ 1048576) : AC env 39 [v] h0 (TreeDraw0 h0 6) := by
  have hv2 := hv
  rcases hv2 with ⟨rfl, e⟩ | ⟨b, cp, rfl, hb⟩
  all_goals
    refine AC.enter Tryz.func39 Tryz.call39 rfl Tryz.ntmps39 (of_decide_eq_true (by rfl)) ?_
    repeat' (first
      | (refine (l17Pair_ok l _ 6 _ hv hl (by omega)).mono ?_; rintro w h' ⟨t, x, rfl, ht, hx, k1⟩; conv => whnf)
      | refine AW.seq ?_
      | (refine AW.region ?_; conv => whnf)
      | (refine AW.ret ?_; conv => whnf))
    exact ⟨t, x, rfl, ht, hx, k1⟩
theorem drawDiam_ok (l : List UInt8) (v : AV) (h0 : H) (hv : CellsAt h0 v (bytesAV l)) (hl : l.length ≤ 1048576) : AC env 38 [v] h0 fun w h' => ∃ n : Int, w = .int .i64 n ∧ -1 ≤ n ∧ n ≤ 5 ∧ Keeps h0 h' := by
  have hv2 := hv
  rcases hv2 with ⟨rfl, e⟩ | ⟨b, cp, rfl, hb⟩
  all_goals
    refine AC.enter Tryz.func38 Tryz.call38 rfl Tryz.ntmps38 (of_decide_eq_true (by rfl)) ?_
    repeat' (first
      | (refine (l1New_ok l _ _ hv hl).mono ?_; rintro w h' ⟨c, rfl, hc⟩; conv => whnf)
      | (refine (l1Below_ok 7 _ _ _ _ hc).mono ?_; rintro w h3 ⟨x, rfl, hx1, hx2, hc3⟩; have hx3 := hx2 (by omega); conv => whnf)
      | refine AW.seq ?_
      | (refine AW.region ?_; conv => whnf)
      | (refine AW.ret ?_; conv => whnf)
      | (refine Wr.i64 (by omega) ?_; conv => whnf))
    exact ⟨_, rfl, by omega, by omega, hc3.st.keeps⟩

end Go.Proofs.YtbicfognbbeigaaGreat

/-
  Contracts of the functions that draw for the law of flips are proved.
  They hold for all codes.
-/
set_option linter.unusedVariables false
set_option linter.unusedSimpArgs false
namespace Go.Proofs.YtbicfognbbeigaaGreat
open Go.Proofs.YtbicfognbbeigaaGreat.Ab Go.Proofs.YtbicfognbbeigaaGreat.Pl

theorem Wr.thirdN {m s : Nat} {K : Int → Prop} (h : m = 3 * s + 1) (hs : s ≤ 1000) (hk : K (s : Int)) : Wr .i64 (((m : Int) - 1).tdiv 3) K := by
  have e : ((m : Int) - 1).tdiv 3 = (s : Int) := by
    rw [show ((m : Int) - 1) = (((3 * s : Nat) : Int)) by omega, Int.tdiv_eq_ediv_of_nonneg (by omega)]
    omega
  rw [e]
  exact Wr.i64 (by omega) hk
/-- a polygon with diagonals and a number were drawn -/
def TriNum (H0 : H) (m : Int) (w : AV) (h' : H) : Prop :=
  ∃ (n k : Int) (d : List (List Int)) (b C : Nat) (R : RL), w = .tup [.int .i64 n, .slice b 0 d.length C, .int .i64 k] ∧ (-1 ≤ k ∧ k ≤ m) ∧ d.length ≤ C ∧ rws R = d ∧ SmallD n d ∧ St H0 h' ((b, row (slcs R)) :: (blks R ++ []))
theorem drawFlip_ok (l : List UInt8) (v : AV) (h0 : H) (hv : CellsAt h0 v (bytesAV l)) (hl : l.length ≤ 1048576) : AC env 6 [v] h0 (TriNum h0 5) := by
  have hv2 := hv
  rcases hv2 with ⟨rfl, e⟩ | ⟨b, cp, rfl, hb⟩
  all_goals
    refine AC.enter Tryz.func6 Tryz.call6 rfl Tryz.ntmps6 (of_decide_eq_true (by rfl)) ?_
    repeat' (first
      | (refine (l1New_ok l _ _ hv hl).mono ?_; rintro w h' ⟨c, rfl, hc⟩; conv => whnf)
      | (refine (l7Any_ok _ _ _ _ hc).mono ?_; rintro w h' ⟨n, d, b, C, R, rfl, hC, hR, sm, hc2⟩; conv => whnf)
      | (refine (l1Below_ok 7 _ _ _ _ hc2).mono ?_; rintro w h' ⟨x, rfl, hx1, hx2, hc3⟩; conv => whnf)
      | refine AW.seq ?_
      | (refine AW.region ?_; conv => whnf)
      | (refine AW.ret ?_; conv => whnf)
      | (refine Wr.i64 (by omega) ?_; conv => whnf))
    exact ⟨n, _, d, b, C, R, rfl, by omega, hC, hR, sm, hc3.st⟩
theorem drawFanWay_ok (l : List UInt8) (v : AV) (h0 : H) (hv : CellsAt h0 v (bytesAV l)) (hl : l.length ≤ 1048576) : AC env 15 [v] h0 (TriNum h0 6) := by
  have hv2 := hv
  rcases hv2 with ⟨rfl, e⟩ | ⟨b, cp, rfl, hb⟩
  all_goals
    refine AC.enter Tryz.func15 Tryz.call15 rfl Tryz.ntmps15 (of_decide_eq_true (by rfl)) ?_
    repeat' (first
      | (refine (l1New_ok l _ _ hv hl).mono ?_; rintro w h' ⟨c, rfl, hc⟩; conv => whnf)
      | (refine (l7Any_ok _ _ _ _ hc).mono ?_; rintro w h' ⟨n, d, b, C, R, rfl, hC, hR, sm, hc2⟩; conv => whnf)
      | (refine (l1Below_ok 8 _ _ _ _ hc2).mono ?_; rintro w h' ⟨x, rfl, hx1, hx2, hc3⟩; conv => whnf)
      | refine AW.seq ?_
      | (refine AW.region ?_; conv => whnf)
      | (refine AW.ret ?_; conv => whnf)
      | (refine Wr.i64 (by omega) ?_; conv => whnf))
    exact ⟨n, _, d, b, C, R, rfl, by omega, hC, hR, sm, hc3.st⟩
theorem drawFan_ok (l : List UInt8) (v : AV) (h0 : H) (hv : CellsAt h0 v (bytesAV l)) (hl : l.length ≤ 1048576) : AC env 20 [v] h0 fun w h' => ∃ n k : Int, w = .tup [.int .i64 n, .int .i64 k] ∧ (0 ≤ n ∧ n ≤ 12) ∧ (-1 ≤ k ∧ k ≤ 9) ∧ Keeps h0 h' := by
  have hv2 := hv
  rcases hv2 with ⟨rfl, e⟩ | ⟨b, cp, rfl, hb⟩
  all_goals
    refine AC.enter Tryz.func20 Tryz.call20 rfl Tryz.ntmps20 (of_decide_eq_true (by rfl)) ?_
    repeat' (first
      | (refine (l1New_ok l _ _ hv hl).mono ?_; rintro w h' ⟨c, rfl, hc⟩; conv => whnf)
      | (refine (l1Below_ok 13 _ _ _ _ hc).mono ?_; rintro w h' ⟨y, rfl, hy1, hy2, hc2⟩; conv => whnf)
      | (refine (l1Below_ok 11 _ _ _ _ hc2).mono ?_; rintro w h' ⟨x, rfl, hx1, hx2, hc3⟩; conv => whnf)
      | refine AW.seq ?_
      | (refine AW.region ?_; conv => whnf)
      | (refine AW.ret ?_; conv => whnf)
      | (refine Wr.i64 (by omega) ?_; conv => whnf))
    exact ⟨y, _, rfl, by omega, by omega, hc3.st.keeps⟩
theorem drawNb_ok (l : List UInt8) (v : AV) (h0 : H) (hv : CellsAt h0 v (bytesAV l)) (hl : l.length ≤ 1048576) : AC env 23 [v] h0 (TriDraw0 h0) := by
  have hv2 := hv
  rcases hv2 with ⟨rfl, e⟩ | ⟨b, cp, rfl, hb⟩
  all_goals
    refine AC.enter Tryz.func23 Tryz.call23 rfl Tryz.ntmps23 (of_decide_eq_true (by rfl)) ?_
    repeat' (first
      | (refine (l7Both_ok l _ _ hv hl).mono ?_; rintro w h' ⟨n, d, b, C, R, rfl, hC, hR, sm, hs⟩; conv => whnf)
      | refine AW.seq ?_
      | (refine AW.region ?_; conv => whnf)
      | (refine AW.ret ?_; conv => whnf))
    exact ⟨n, d, b, C, R, rfl, hC, hR, sm, hs⟩
/-- two rows of diagonals were drawn -/
def TriTwo (H0 : H) (w : AV) (h' : H) : Prop :=
  ∃ (n : Int) (d e : List (List Int)) (b C c D : Nat) (R S : RL), w = .tup [.int .i64 n, .slice b 0 d.length C, .slice c 0 e.length D] ∧ (0 ≤ n ∧ n ≤ 1000) ∧ (d.length ≤ C ∧ d.length ≤ 1000) ∧ rws R = d ∧ (e.length ≤ D ∧ e.length ≤ 1000) ∧ rws S = e ∧ St H0 h' ((c, row (slcs S)) :: (blks S ++ ((b, row (slcs R)) :: (blks R ++ []))))
theorem triOfS_len (s : List UInt8) : (triOfS s).1.length ≤ 1000 := by
  unfold triOfS
  cases e : treeOf s with
  | none => simp
  | some t =>
    have := diagsT_len t
    have := (treeOf_some e).2
    dsimp only
    omega
set_option maxHeartbeats 1000000 in
theorem drawBetween_ok (l : List UInt8) (v : AV) (h0 : H) (hv : CellsAt h0 v (bytesAV l)) (hl : l.length ≤ 1048576) : AC env 22 [v] h0 (TriTwo h0) := by
  have hv2 := hv
  rcases hv2 with ⟨rfl, e⟩ | ⟨b, cp, rfl, hb⟩
  all_goals
    refine AC.enter Tryz.func22 Tryz.call22 rfl Tryz.ntmps22 (of_decide_eq_true (by rfl)) ?_
    repeat' (first
      | (refine (l1New_ok l _ _ hv hl).mono ?_; rintro w h' ⟨c, rfl, hc⟩; conv => whnf)
      | (refine (l17Two_ok 5 _ _ _ _ hc (by omega)).mono ?_; rintro w h1 ⟨t, x, rfl, ht, hx, hc1⟩; have tl := t.txt_length; conv => whnf)
      | (refine (sTriOfC_ok t.txt _).mono ?_; rintro w h2 ⟨b1, C1, R1, rfl, hC1, hR1, hL1, hs1⟩; have hc2 := hc1.callR hs1; clear hs1; conv => whnf)
      | (refine (sTriOfC_ok x _).mono ?_; rintro w h3 ⟨b2, C2, R2, rfl, hC2, hR2, hL2, hs2⟩; have hc3 := hc2.callR hs2; clear hs2; conv => whnf)
      | (refine Wr.thirdN tl (by omega) ?_; conv => whnf)
      | refine AW.seq ?_
      | (refine AW.region ?_; conv => whnf)
      | (refine AW.ret ?_; conv => whnf)
      | (refine Wr.i64 (by omega) ?_; conv => whnf)
      | (refine Ck.mk (by omega) ?_; conv => whnf))
    exact ⟨_, _, _, b1, C1, b2, C2, R1, R2, rfl, by omega, ⟨hC1, triOfS_len _⟩, hR1, ⟨hC2, triOfS_len _⟩, hR2, hc3.st⟩

end Go.Proofs.YtbicfognbbeigaaGreat

/-
  Contracts of rows that are compared, whatever they hold, are proved.
  They hold for all rows of at most a thousand million numbers.
-/
set_option linter.unusedVariables false
set_option linter.unusedSimpArgs false
namespace Go.Proofs.YtbicfognbbeigaaGreat
open Go.Proofs.YtbicfognbbeigaaGreat.Ab Go.Proofs.YtbicfognbbeigaaGreat.Pl

theorem ext_ints {l m : List Int} (hl : l.length = m.length) (h : ∀ j, j < l.length → l.getD j 0 = m.getD j 0) : l = m := by
  refine List.ext_getElem hl fun j h1 h2 => ?_
  have := h j h1
  rwa [show l.getD j 0 = l[j] by simp [List.getD, h1], show m.getD j 0 = m[j] by simp [List.getD, h2]] at this
theorem ext_lists {f g : List (List Int)} (hl : f.length = g.length) (h : ∀ j, j < f.length → f.getD j [] = g.getD j []) : f = g := by
  refine List.ext_getElem hl fun j h1 h2 => ?_
  have := h j h1
  rwa [show f.getD j [] = f[j] by simp [List.getD, h1], show g.getD j [] = g[j] by simp [List.getD, h2]] at this
theorem sameIntsD_ok (l m : List Int) (b c N M C D : Nat) (h0 : H) (hb : Has h0 b (ints l)) (hc' : Has h0 c (ints m)) (hN : N = l.length) (hM : M = m.length) (hl : N ≤ 1000000000) (hm : M ≤ 1000000000) : AC env 55 [.slice b 0 N C, .slice c 0 M D] h0 fun v h' => v = .bool (decide (l = m)) ∧ h' = h0 := by
  by_cases e : N = M
  · subst e
    refine AC.enter Tryz.func55 Tryz.call55 rfl Tryz.ntmps55 (of_decide_eq_true (by rfl)) ?_
    repeat' (first
      | refine AW.seq ?_
      | (refine AW.region ?_; conv => whnf)
      | refine AW.block ?_
      | (refine AW.skip ?_; conv => whnf)
      | refine AW.cond (by rfl) ?_
      | refine Br.not ?_
      | (refine Br.t (beq_self_eq_true _) ?_; conv => whnf))
    refine AW.loop1 (fun (k : Nat) => [(0, .slice b 0 N C), (1, .slice c 0 N D), (5, .int .i64 k)]) (fun k h' => (k ≤ N ∧ ∀ j, j < k → l.getD j 0 = m.getD j 0) ∧ h' = h0) (fun k => N - k) 0 (Less.cons rfl (Less.cons rfl (Less.cons rfl (Less.nil _)))) ⟨⟨by omega, fun j hj => by omega⟩, rfl⟩ ?_
    rintro k h' ⟨⟨hk, he⟩, rfl⟩
    by_cases hlt : k < N
    · have ek : ((k : Nat) : Int).toNat = k := Int.toNat_natCast k
      repeat' (first
        | (refine Has.loadZ hb rfl (by omega) ?_; conv => whnf)
        | (refine Has.loadZ hc' rfl (by omega) ?_; conv => whnf)
        | refine AW.seq ?_
        | (refine AW.region ?_; conv => whnf)
        | refine AW.block ?_
        | (refine AW.skip ?_; conv => whnf)
        | (refine AW.ret ?_; conv => whnf)
        | refine AW.cond (by rfl) ?_
        | (refine AW.draw (id := 6) (.p 0 (.p 1 (.p 2 (.p 4 (.p 5 (.p 6 (.r 3 [8] (.r 7 [8] (.p 8 .done))))))))) (by kernel_rfl) (by kernel_rfl) ?_; conv => whnf)
        | refine Br.not ?_
        | (refine Br.dt (by omega) ?_; conv => whnf)
        | (refine Br.dec (fun hc => ?_) (fun hc => ?_) <;> conv => whnf)
        | (refine Wr.i64 (by omega) ?_; conv => whnf)
        | (refine Ck.mk (by omega) ?_; conv => whnf))
      · refine ⟨k + 1, (Less.cons rfl (Less.cons rfl (Less.cons rfl (Less.nil _)))), ⟨⟨by omega, fun j hj => ?_⟩, rfl⟩, by omega⟩
        by_cases c : j = k
        · rw [c]; exact hc
        · exact he j (by omega)
      · refine ⟨?_, rfl⟩
        have ne : l ≠ m := fun e => hc (by rw [e])
        rw [decide_eq_false ne]
    · obtain rfl : k = N := by omega
      repeat' (first
        | refine AW.seq ?_
        | (refine AW.region ?_; conv => whnf)
        | (refine AW.ret ?_; conv => whnf)
        | (refine AW.exit ?_; conv => whnf)
        | refine AW.cond (by rfl) ?_
        | (refine Br.df (by omega) ?_; conv => whnf))
      exact ⟨by rw [decide_eq_true (ext_ints (by omega) fun j hj => he j (by omega))], rfl⟩
  · have ne : l ≠ m := fun q => e (by rw [hN, hM, q])
    refine AC.enter Tryz.func55 Tryz.call55 rfl Tryz.ntmps55 (of_decide_eq_true (by rfl)) ?_
    repeat' (first
      | refine AW.seq ?_
      | (refine AW.region ?_; conv => whnf)
      | (refine AW.ret ?_; conv => whnf)
      | refine AW.cond (by rfl) ?_
      | refine Br.not ?_
      | (refine Br.df (by omega) ?_; conv => whnf))
    exact ⟨by rw [decide_eq_false ne], rfl⟩
theorem sameListsD_ok (f g : List (List Int)) (R S : RL) (b c N M C D : Nat) (h0 : H) (hb : Grid h0 b R) (hc' : Grid h0 c S) (hR : rws R = f) (hS : rws S = g) (hN : N = f.length) (hM : M = g.length) (hl : N ≤ 1000000000) (hm : M ≤ 1000000000) (hf : ∀ x ∈ f, x.length ≤ 1000) (hg : ∀ x ∈ g, x.length ≤ 1000) : AC env 9 [.slice b 0 N C, .slice c 0 M D] h0 fun v h' => v = .bool (decide (f = g)) ∧ h' = h0 := by
  have lR : R.length = N := by rw [hN, ← hR]; simp
  have lS : S.length = M := by rw [hM, ← hS]; simp
  by_cases e : N = M
  · subst e
    refine AC.enter Tryz.func9 Tryz.call9 rfl Tryz.ntmps9 (of_decide_eq_true (by rfl)) ?_
    repeat' (first
      | refine AW.seq ?_
      | (refine AW.region ?_; conv => whnf)
      | refine AW.block ?_
      | (refine AW.skip ?_; conv => whnf)
      | refine AW.cond (by rfl) ?_
      | refine Br.not ?_
      | (refine Br.t (beq_self_eq_true _) ?_; conv => whnf))
    refine AW.loop1 (fun (k : Nat) => [(0, .slice b 0 N C), (1, .slice c 0 N D), (5, .int .i64 k)]) (fun k h' => (k ≤ N ∧ ∀ j, j < k → f.getD j [] = g.getD j []) ∧ h' = h0) (fun k => N - k) 0 (Less.cons rfl (Less.cons rfl (Less.cons rfl (Less.nil _)))) ⟨⟨by omega, fun j hj => by omega⟩, rfl⟩ ?_
    rintro k h' ⟨⟨hk, he⟩, rfl⟩
    by_cases hlt : k < N
    · have ek : ((k : Nat) : Int).toNat = k := Int.toNat_natCast k
      have mR := hb.at (i := k) (by omega)
      have mS := hc'.at (i := k) (by omega)
      have eR : rl R k = f.getD k [] := (rws_at hR k).symm
      have eS : rl S k = g.getD k [] := (rws_at hS k).symm
      have bR : (rl R k).length ≤ 1000 := hf _ (by rw [← hR]; exact List.mem_map.2 ⟨_, rl_mem R k (by omega), rfl⟩)
      have bS : (rl S k).length ≤ 1000 := hg _ (by rw [← hS]; exact List.mem_map.2 ⟨_, rl_mem S k (by omega), rfl⟩)
      repeat' (first
        | (refine hb.load rfl (n := k) (by omega) ?_; conv => whnf)
        | (refine hc'.load rfl (n := k) (by omega) ?_; conv => whnf)
        | (refine (sameIntsD_ok (rl R k) (rl S k) _ _ _ _ _ _ _ mR mS rfl rfl (by omega) (by omega)).mono ?_; rw [eR, eS]; rintro v h' ⟨rfl, e'⟩; subst h'; conv => whnf)
        | refine AW.seq ?_
        | (refine AW.region ?_; conv => whnf)
        | refine AW.block ?_
        | (refine AW.skip ?_; conv => whnf)
        | (refine AW.ret ?_; conv => whnf)
        | refine AW.cond (by rfl) ?_
        | (refine AW.draw (id := 6) (.p 0 (.p 1 (.p 2 (.p 4 (.p 5 (.p 6 (.r 3 [8, 9] (.r 7 [8, 9] (.all [8] fun _ => (.p 9 .done)))))))))) (by kernel_rfl) (by kernel_rfl) ?_; conv => whnf)
        | refine Br.not ?_
        | (refine Br.dt (by omega) ?_; conv => whnf)
        | (refine Br.dec (fun hc => ?_) (fun hc => ?_) <;> conv => whnf)
        | (refine Wr.i64 (by omega) ?_; conv => whnf)
        | (refine Ck.mk (by omega) ?_; conv => whnf))
      · refine ⟨k + 1, (Less.cons rfl (Less.cons rfl (Less.cons rfl (Less.nil _)))), ⟨⟨by omega, fun j hj => ?_⟩, rfl⟩, by omega⟩
        by_cases c : j = k
        · rw [c]; exact hc
        · exact he j (by omega)
      · refine ⟨?_, rfl⟩
        have ne : f ≠ g := fun e => hc (by rw [e])
        rw [decide_eq_false ne]
    · obtain rfl : k = N := by omega
      repeat' (first
        | refine AW.seq ?_
        | (refine AW.region ?_; conv => whnf)
        | (refine AW.ret ?_; conv => whnf)
        | (refine AW.exit ?_; conv => whnf)
        | refine AW.cond (by rfl) ?_
        | (refine Br.df (by omega) ?_; conv => whnf))
      exact ⟨by rw [decide_eq_true (ext_lists (by omega) fun j hj => he j (by omega))], rfl⟩
  · have ne : f ≠ g := fun q => e (by rw [hN, hM, q])
    refine AC.enter Tryz.func9 Tryz.call9 rfl Tryz.ntmps9 (of_decide_eq_true (by rfl)) ?_
    repeat' (first
      | refine AW.seq ?_
      | (refine AW.region ?_; conv => whnf)
      | (refine AW.ret ?_; conv => whnf)
      | refine AW.cond (by rfl) ?_
      | refine Br.not ?_
      | (refine Br.df (by omega) ?_; conv => whnf))
    exact ⟨by rw [decide_eq_false ne], rfl⟩

end Go.Proofs.YtbicfognbbeigaaGreat
