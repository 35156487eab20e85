/-
  Rows of texts that are drawn to be ways of rotations, or nearly so, have their contract proved.
  It holds for all codes.
-/
import Derived.Test.YtbicfognbbeigaaGreatC110
import Derived.Test.YtbicfognbbeigaaGreatC111
import Derived.Test.YtbicfognbbeigaaGreatH0
import Derived.Test.YtbicfognbbeigaaGreatH2
import Derived.Test.YtbicfognbbeigaaGreatGY
import Derived.Test.YtbicfognbbeigaaGreatH1
set_option linter.unusedVariables false
set_option linter.unusedSimpArgs false
namespace Go.Proofs.YtbicfognbbeigaaGreat
open Go.Proofs.YtbicfognbbeigaaGreat.Ab Go.Proofs.YtbicfognbbeigaaGreat.Pl

theorem txI_getD {n : Nat} {S : List Nat} {k : Nat} (h : k < S.length) : (txI n S).getD k [] = (tr n (S.getD k 0)).txt := by
  unfold txI txts
  simp only [List.getD, List.getElem?_map, List.getElem?_eq_getElem h, Option.map_some, Option.getD_some]
theorem txI_tree {n : Nat} (hn : n ≤ 5) {S : List Nat} (h : inC n S) : ∀ x ∈ txI n S, ∃ t : BT, x = t.txt ∧ t.size ≤ 8 := fun x hx => by
  unfold txI txts at hx
  rw [List.map_map] at hx
  obtain ⟨k, hk, rfl⟩ := List.mem_map.1 hx
  exact ⟨tr n k, rfl, by rw [(nb_ok hn (h k hk)).size]; omega⟩
theorem WayRow.all {l : List (List UInt8)} (hl : 1 ≤ l.length ∧ l.length ≤ 40) (h : ∀ x ∈ l, ∃ t : BT, x = t.txt ∧ t.size ≤ 8) : WayRow l := by
  refine ⟨hl, fun k hk => h _ ?_⟩
  exact getD_memS (by omega)
theorem pair_row {t : BT} {x : List UInt8} (h : t.size ≤ 8) : WayRow [t.txt, x] := by
  refine ⟨⟨by simp, by simp⟩, fun k hk => ?_⟩
  have hk : k + 1 < 2 := hk
  obtain rfl : k = 0 := by omega
  exact ⟨t, rfl, h⟩
theorem way_row {n i j : Nat} (hn : n ≤ 5) (hi : i < (trs n).length) (hj : j < (trs n).length) : WayRow (txI n (wayI n i j)) := by
  have d := dis_ok hn hi hj
  have := d.len
  exact .all (by rw [txI_length]; omega) (txI_tree hn d.lt)
theorem way_is {n i j : Nat} (hn : n ≤ 5) (hi : i < (trs n).length) (hj : j < (trs n).length) : isWayF (txI n (wayI n i j)) = true := by
  have d := dis_ok hn hi hj
  have dl := d.len
  refine isWayF_yes ?_ fun k hk => ?_
  · rw [txI_getD (by omega), tree_tr hn (d.lt.get (by omega))]
    rfl
  · rw [txI_length] at hk
    have xC := d.lt.get (k := k) (by omega)
    have nk := nb_ok hn xC
    rw [txI_getD (k := k) (by omega), txI_getD (k := k + 1) hk, stepOk_eq rfl (by rw [nk.size]; omega), nk.nb]
    refine decide_eq_true ?_
    unfold txts
    rw [List.map_map]
    exact List.mem_map.2 ⟨_, d.step k hk, rfl⟩
/-- two texts are trees of a size, with a way, or they are not -/
theorem two_cases (a b : List UInt8) : (∃ n i j W, n ≤ 5 ∧ i < (trs n).length ∧ j < (trs n).length ∧ a = (tr n i).txt ∧ b = (tr n j).txt ∧ wayI n i j = W ∧ (1 ≤ W.length ∧ W.length ≤ 12) ∧ inC n W) ∨ ¬ fitW a b := by
  by_cases h : fitW a b
  · obtain ⟨n, i, j, hn, hi, hj, e1, e2⟩ := h
    have d := dis_ok hn hi hj
    exact .inl ⟨n, i, j, _, hn, hi, hj, e1, e2, rfl, d.len, d.lt⟩
  · exact .inr h
theorem strs_drop (l : List (List UInt8)) (k : Nat) : (strs l).drop k = strs (l.drop k) := by unfold strs; rw [List.map_drop]
theorem Has.loadsOffS {h : H} {b n sz q : Nat} {l : List (List UInt8)} {K : List AV → Prop} (m : Has h b (strs l)) (hs : sz = 1) (o r : Nat) (e : n = o) (e2 : q = r) (hn : o + r = l.length) (hk : K (strs (l.drop o))) : LoadsG h b (0 + mulSz n sz) q K := by
  rw [off1 hs]
  subst e e2
  obtain ⟨w, s, e⟩ := m
  refine .mk w s _ e (by simp; omega) ?_
  rw [strs_drop, List.take_of_length_le (by simp; omega)]
  exact hk
theorem cut_row {n : Nat} (hn : n ≤ 5) {W : List Nat} (h : inC n W) (hl : 2 < W.length ∧ W.length ≤ 12) : WayRow ([(tr n (W.getD 0 0)).txt] ++ (txI n W).drop 2) := by
  refine .all (by simp; omega) fun x hx => ?_
  rcases List.mem_append.1 hx with hx | hx
  · cases List.mem_singleton.1 hx
    exact ⟨_, rfl, by rw [(nb_ok hn (h.get (by omega))).size]; omega⟩
  · exact txI_tree hn h x (List.mem_of_mem_drop hx)
theorem slice_lenS {b n m : Nat} (e : n = m) : AV.slice b 0 n n = AV.slice b 0 m m := by rw [e]
def RowDraw (h0 : H) (w : AV) (h' : H) : Prop := ∃ b l, w = .slice b 0 l.length l.length ∧ WayRow l ∧ St h0 h' [(b, row (strs l))]
set_option maxHeartbeats 4000000 in
theorem drawIsWay_ok (l : List UInt8) (v : AV) (h0 : H) (hv : CellsAt h0 v (bytesAV l)) (hl : l.length ≤ 1048576) : AC env 37 [v] h0 (RowDraw h0) := by
  have hv2 := hv
  rcases hv2 with ⟨rfl, e⟩ | ⟨b, cp, rfl, hb⟩
  all_goals
    refine AC.enter Tryz.func37 Tryz.call37 rfl Tryz.ntmps37 (of_decide_eq_true (by rfl)) ?_
    repeat' (first
      | (refine (l1New_ok l _ _ hv hl).mono ?_; rintro w h' ⟨c, rfl, hc⟩; conv => whnf)
      | (refine (l17Two_ok 4 _ _ _ _ hc (by omega)).mono ?_; rintro w h1 ⟨t, x, rfl, ht, hx, hc1⟩; rcases two_cases t.txt x with ⟨n, i, j, W, hn, hi, hj, e1, e2, hW, dl, dc⟩ | no <;> (conv => whnf))
      | (rw [e1, e2]; refine (sWay_ok n i j _ hn hi hj).mono ?_; rw [hW]; rintro w h2 ⟨cw, rfl, hnw⟩; have hc2 := hc1.callN hnw; conv => whnf)
      | (refine (sWayNo_ok _ _ _ no).mono ?_; rintro w h2 ⟨cw, rfl, hnw⟩; have hc2 := hc1.keep hnw.keeps; conv => whnf)
      | (refine (l1Once_ok 3 _ _ _ _ hc2).mono ?_; rintro w h3 ⟨x3, rfl, hc3⟩; conv => whnf)
      | (refine Has.loadAt (v := .str (tr n (W.getD 0 0)).txt) (St.has hc3.st (.head _)) rfl (txI_get (by omega)) ?_; conv => whnf)
      | (refine NewG.cur hc3 (fun bo h4 hc4 => ?_); conv => whnf)
      | (refine NewG.cur hc2 (fun bo h4 hc4 => ?_); conv => whnf)
      | (refine Has.loadsOffS (l := txI n W) (St.has hc4.st (.tail _ (.head _))) rfl 2 (W.length - 2) (by omega) (by omega) (by simp; omega) ?_; conv => whnf)
      | (refine AppG.stSs (l := [(tr n (W.getD 0 0)).txt]) (r := (txI n W).drop 2) hc4.st (fun b' => .here) rfl (by simp; omega) (by decide) (fun b' h5 hs5 => ?_); conv => whnf)
      | refine AW.seq ?_
      | (refine AW.region ?_; conv => whnf)
      | (refine AW.skip ?_; conv => whnf)
      | (refine AW.ret ?_; conv => whnf)
      | refine AW.cond (by rfl) ?_
      | (refine AW.draw (id := 5) (.p 0 (.p 1 (.p 4 (.p 5 (.r 2 [3, 6, 7] (.all [3] fun _ => (.all [6] fun _ => (.p 7 .done)))))))) (by kernel_rfl) (by kernel_rfl) ?_; conv => whnf)
      | (refine Br.tt ?_; conv => whnf)
      | (refine Br.ff ?_; conv => whnf)
      | (refine Br.dt (by omega) ?_; conv => whnf)
      | (refine Br.df (by omega) ?_; conv => whnf)
      | (refine Br.dec (fun hc => ?_) (fun hc => ?_) <;> conv => whnf)
      | (refine Br.mk (fun hc => ?_) (fun hc => ?_) <;> conv => whnf)
      | (refine Ck.mk (by omega) ?_; conv => whnf))
    all_goals first
      | exact ⟨_, _, slice_lenS (by simp; omega), cut_row hn dc (by omega), hs5.sub (.cons_cons _ (List.nil_sublist _))⟩
      | exact ⟨_, _, slice_lenS (by simp), by rw [← hW]; exact way_row hn hi hj, hc3.st⟩
      | exact ⟨_, _, slice_lenS (by simp), by rw [← hW]; exact way_row hn hi hj, hc2.st⟩
      | exact ⟨_, [t.txt, x], rfl, pair_row (by omega), hc4.st⟩

end Go.Proofs.YtbicfognbbeigaaGreat

/-
  Plain laws of ballot numbers and of the numbers of Schroeder are proved.
  They hold for the sizes that the statements speak of.
-/
set_option linter.unusedVariables false
set_option linter.unusedSimpArgs false
namespace Go.Proofs.YtbicfognbbeigaaGreat.Pl

/-- the ways of words with so many letters left, from a height: a row by the one before -/
def rowW (g : Nat → Nat) : Nat → Nat
  | 0 => g 1 + g 0
  | h + 1 => g (h + 2) + g (h + 1) + rowW g h
def waysW : Nat → Nat → Nat
  | 0 => fun _ => 1
  | l + 1 => rowW (waysW l)
theorem waysW_zero (h : Nat) : waysW 0 h = 1 := rfl
theorem waysW_low (l : Nat) : waysW (l + 1) 0 = waysW l 1 + waysW l 0 := rfl
theorem waysW_step (l h : Nat) : waysW (l + 1) (h + 1) = waysW l (h + 2) + waysW l (h + 1) + waysW (l + 1) h := rfl
theorem waysW_le : ∀ l h, waysW l h ≤ 3 ^ (2 * l + h) := by
  intro l
  induction l with
  | zero => intro h; exact Nat.pow_pos (by decide)
  | succ l ih =>
    intro h
    induction h with
    | zero =>
      rw [waysW_low]
      have a := ih 1
      have b := ih 0
      have e1 : 3 ^ (2 * (l + 1) + 0) = 9 * 3 ^ (2 * l) := by rw [show 2 * (l + 1) + 0 = 2 * l + 2 by omega, Nat.pow_add]; omega
      have e2 : 3 ^ (2 * l + 1) = 3 * 3 ^ (2 * l) := by rw [Nat.pow_add]; omega
      rw [Nat.add_zero] at b
      omega
    | succ h ih2 =>
      rw [waysW_step]
      have a := ih (h + 2)
      have b := ih (h + 1)
      have e1 : 3 ^ (2 * (l + 1) + (h + 1)) = 27 * 3 ^ (2 * l + h) := by rw [show 2 * (l + 1) + (h + 1) = 2 * l + h + 3 by omega, Nat.pow_add]; omega
      have e2 : 3 ^ (2 * (l + 1) + h) = 9 * 3 ^ (2 * l + h) := by rw [show 2 * (l + 1) + h = 2 * l + h + 2 by omega, Nat.pow_add]; omega
      have e3 : 3 ^ (2 * l + (h + 2)) = 9 * 3 ^ (2 * l + h) := by rw [show 2 * l + (h + 2) = 2 * l + h + 2 by omega, Nat.pow_add]; omega
      have e4 : 3 ^ (2 * l + (h + 1)) = 3 * 3 ^ (2 * l + h) := by rw [show 2 * l + (h + 1) = 2 * l + h + 1 by omega, Nat.pow_add]; omega
      omega

/-! the same, row by row, as a list -/
def scanR : Nat → List Nat → List Nat
  | p, a :: b :: t => (b + a + p) :: scanR (b + a + p) (b :: t)
  | _, _ => []
def rowsR : Nat → List Nat → List Nat
  | 0, r => r
  | l + 1, r => scanR 0 (rowsR l r)
theorem scanR_map (g : Nat → Nat) : ∀ k i p, (i = 0 → p = 0) → (∀ j, i = j + 1 → p = rowW g j) → scanR p ((List.range' i (k + 1)).map g) = (List.range' i k).map (rowW g) := by
  intro k
  induction k with
  | zero => intro i p _ _; rfl
  | succ k ih =>
    intro i p h0 h1
    have e : g (i + 1) + g i + p = rowW g i := by
      cases i with
      | zero => rw [h0 rfl]; rfl
      | succ j => rw [h1 j rfl]; rfl
    have s1 : List.range' i (k + 1 + 1) = i :: (i + 1) :: List.range' (i + 2) k := by rw [List.range'_succ, List.range'_succ]
    have s2 : List.range' (i + 1) (k + 1) = (i + 1) :: List.range' (i + 2) k := by rw [List.range'_succ]
    rw [s1, List.map_cons, List.map_cons, scanR, e, ← List.map_cons, ← s2, ih (i + 1) (rowW g i) (fun h => by omega) (fun j hj => by rw [show j = i by omega]), List.range'_succ, List.map_cons]
theorem rowsR_map : ∀ l m, rowsR l ((List.range' 0 (l + m)).map (waysW 0)) = (List.range' 0 m).map (waysW l) := by
  intro l
  induction l with
  | zero => intro m; rw [Nat.zero_add]; rfl
  | succ l ih =>
    intro m
    rw [rowsR, show l + 1 + m = l + (m + 1) by omega, ih (m + 1), scanR_map _ _ _ _ (fun _ => rfl) (fun j hj => by omega)]
    rfl
theorem waysW_row (n : Nat) : waysW n 0 = (rowsR n (List.replicate (n + 1) 1)).headD 0 := by
  have := rowsR_map n 1
  rw [show (List.range' 0 (n + 1)).map (waysW 0) = List.replicate (n + 1) 1 from List.eq_replicate_iff.2 ⟨by simp, fun b hb => by obtain ⟨x, _, rfl⟩ := List.mem_map.1 hb; rfl⟩] at this
  rw [this]
  rfl

/-! ballot numbers, a row by the one before -/
def rowB (i : Nat) (g : Nat → Nat) : Nat → Nat
  | 0 => 0
  | k + 1 => if k < i then 0 else if k = i then g (k + 1) else g (k + 1) + rowB i g k
def bal : Nat → Nat → Nat
  | 0 => fun _ => 1
  | i + 1 => rowB i (bal i)
theorem bal_zero (k : Nat) : bal 0 k = 1 := rfl
theorem bal_low {i k : Nat} (h : k ≤ i) : bal (i + 1) k = 0 := by
  cases k with
  | zero => rfl
  | succ k => show rowB i (bal i) (k + 1) = 0; rw [rowB, if_pos (by omega)]
theorem bal_diag (i : Nat) : bal (i + 1) (i + 1) = bal i (i + 1) := by
  show rowB i (bal i) (i + 1) = _
  rw [rowB, if_neg (by omega), if_pos rfl]
theorem bal_step {i k : Nat} (h : i < k) : bal (i + 1) (k + 1) = bal i (k + 1) + bal (i + 1) k := by
  show rowB i (bal i) (k + 1) = _
  rw [rowB, if_neg (by omega), if_neg (by omega)]
  rfl
theorem bal_le : ∀ i k, bal i k ≤ 2 ^ (i + k) := by
  intro i
  induction i with
  | zero => intro k; exact Nat.pow_pos (by decide)
  | succ i ih =>
    intro k
    induction k with
    | zero => rw [bal_low (by omega)]; exact Nat.zero_le _
    | succ k ih2 =>
      have a := ih (k + 1)
      have e1 : 2 ^ (i + 1 + (k + 1)) = 4 * 2 ^ (i + k) := by rw [show i + 1 + (k + 1) = i + k + 2 by omega, Nat.pow_add]; omega
      have e2 : 2 ^ (i + (k + 1)) = 2 * 2 ^ (i + k) := by rw [show i + (k + 1) = i + k + 1 by omega, Nat.pow_add]; omega
      have e3 : 2 ^ (i + 1 + k) = 2 * 2 ^ (i + k) := by rw [show i + 1 + k = i + k + 1 by omega, Nat.pow_add]; omega
      by_cases h : i < k
      · rw [bal_step h]; omega
      · by_cases h2 : k = i
        · subst h2; rw [bal_diag]; omega
        · rw [bal_low (by omega)]; exact Nat.zero_le _

/-- the sum that the reference takes, term by term -/
def sumS (n : Nat) : Nat → Int
  | 0 => 0
  | k + 1 => sumS n k + (bal k k : Int) * binI ((n + k : Nat) : Int) (n - k)
theorem schroeder_fine : ∀ n, n < 13 → (((rowsR n (List.replicate (n + 1) 1)).headD 0 : Nat) : Int) = sumS n (n + 1) ∧ (∀ k, k < n + 2 → 0 ≤ sumS n k ∧ sumS n k ≤ 1000000000) ∧
    ∀ k, k < n + 1 → binFine (n + k) (n - k) = true ∧ 0 ≤ binI ((n + k : Nat) : Int) (n - k) ∧ binI ((n + k : Nat) : Int) (n - k) ≤ 1000000000 ∧ (bal k k : Int) * binI ((n + k : Nat) : Int) (n - k) ≤ 1000000000 := by
  decide +kernel
theorem schroeder_num {n : Nat} (h : n < 13) : (waysW n 0 : Int) = sumS n (n + 1) := by rw [waysW_row]; exact (schroeder_fine n h).1

end Go.Proofs.YtbicfognbbeigaaGreat.Pl

/-
  Contracts of ballot numbers are proved.
  They hold for up to fifteen letters of each kind.
-/
set_option linter.unusedVariables false
set_option linter.unusedSimpArgs false
namespace Go.Proofs.YtbicfognbbeigaaGreat
open Go.Proofs.YtbicfognbbeigaaGreat.Ab Go.Proofs.YtbicfognbbeigaaGreat.Pl

def balRow (dn i k : Nat) : List Int := tab (dn + 1) fun j => if j < k then (bal i j : Int) else 0
theorem balRow_zero (dn i k : Nat) (h : k ≤ i) : balRow dn i k = List.replicate (dn + 1) 0 := by
  apply List.ext_getElem?
  intro j
  unfold balRow tab
  by_cases hj : j < dn + 1
  · rw [List.getElem?_map, List.getElem?_range hj, List.getElem?_replicate, if_pos hj]
    simp only [Option.map_some]
    split
    · cases i with
      | zero => omega
      | succ i => rw [bal_low (by omega)]; rfl
    · rfl
  · rw [List.getElem?_eq_none (by simp; omega), List.getElem?_eq_none (by simp; omega)]
theorem balRow_set {dn i k : Nat} (hk : k < dn + 1) {y : Int} (e : y = bal i k) : (balRow dn i k).set k y = balRow dn i (k + 1) := by
  subst e
  unfold balRow
  rw [tab_set]
  exact tab_congr fun j hj => by
    split
    · rename_i h
      subst h
      rw [if_pos (by omega)]
    · split <;> split <;> first | rfl | omega
theorem balRow_get {dn i k j : Nat} (hj : j < dn + 1) (hk : j < k) : (balRow dn i k).getD j 0 = bal i j := by
  unfold balRow
  rw [tab_getD _ hj, if_pos hk]
theorem balRow_len (dn i k : Nat) : (balRow dn i k).length = dn + 1 := tab_length _ _


end Go.Proofs.YtbicfognbbeigaaGreat

/-
  Contracts of ranks of paths, and of diagrams as paths, are proved.
  They hold for all rows of numbers.
-/
set_option linter.unusedVariables false
set_option linter.unusedSimpArgs false
namespace Go.Proofs.YtbicfognbbeigaaGreat
open Go.Proofs.YtbicfognbbeigaaGreat.Ab Go.Proofs.YtbicfognbbeigaaGreat.Pl

/-! heights of a path -/
theorem dyck_at {w : List UInt8} (h : isDyck w = true) : w.length ≤ 16 ∧ hgt w = 0 ∧ (∀ k, k ≤ w.length → 0 ≤ hgt (w.take k)) ∧ ∀ k, k < w.length → ((w.getD k 0).toNat : Int) = 117 ∨ ((w.getD k 0).toNat : Int) = 100 := by
  unfold isDyck at h
  simp only [Bool.and_eq_true, decide_eq_true_eq, beq_iff_eq] at h
  obtain ⟨h1, h2⟩ := h
  have at_ : ∀ k, ∃ g, walkH 1 (-1) false (w.take k) 0 = some g := fun k => by
    cases e : walkH 1 (-1) false (w.take k) 0 with
    | none => rw [walkH_take_none e] at h2; cases h2
    | some g => exact ⟨g, rfl⟩
  refine ⟨h1, ?_, fun k hk => ?_, fun k hk => ?_⟩
  · have := walkH_hgt _ _ _ h2
    omega
  · obtain ⟨g, hg⟩ := at_ k
    have a := walkH_hgt _ _ _ hg
    have b := walkH_bd (by decide) (by decide) _ _ _ (by decide) hg
    omega
  · obtain ⟨g, hg⟩ := at_ k
    by_cases e1 : ((w.getD k 0).toNat : Int) = 117
    · exact .inl e1
    · by_cases e2 : ((w.getD k 0).toNat : Int) = 100
      · exact .inr e2
      · have e3 : stepOf 1 (-1) false (w.getD k 0) = none := by
          unfold stepOf
          rw [if_neg e1, if_neg e2, if_neg (by simp)]
        rw [walkH_bad hk hg e3] at h2
        cases h2
theorem hgt_next {w : List UInt8} {k : Nat} (hk : k < w.length) : (((w.getD k 0).toNat : Int) = 117 → hgt (w.take (k + 1)) = hgt (w.take k) + 1) ∧ (((w.getD k 0).toNat : Int) = 100 → hgt (w.take (k + 1)) = hgt (w.take k) - 1) := by
  rw [take_snoc w k hk]
  exact ⟨hgt_u _ _, hgt_d _ _⟩
/-- the height is at most what is left of the path -/
theorem dyck_left {w : List UInt8} (h : isDyck w = true) : ∀ m k, k ≤ w.length → w.length - k = m → hgt (w.take k) ≤ m := by
  obtain ⟨h1, h2, h3, h4⟩ := dyck_at h
  intro m
  induction m with
  | zero =>
    intro k hk e
    rw [show k = w.length by omega, List.take_length, h2]
    decide
  | succ m ih =>
    intro k hk e
    have a := ih (k + 1) (by omega) (by omega)
    have b := hgt_next (w := w) (k := k) (by omega)
    have c := h4 k (by omega)
    omega

/-- the rank, letter by letter -/
def rkS (w : List UInt8) : Nat → Int
  | 0 => 0
  | k + 1 => rkS w k + (if ((w.getD k 0).toNat : Int) = 117 then 0 else if hgt (w.take k) < ((w.length - k : Nat) : Int) then (bal ((((w.length - k : Nat) : Int) - hgt (w.take k)) / 2 - 1).toNat ((((w.length - k : Nat) : Int) + hgt (w.take k)) / 2).toNat : Int) else 0)
def rankW (w : List UInt8) : Int := if isDyck w then rkS w w.length else -1
theorem rkS_u {w : List UInt8} {k : Nat} (h : ((w.getD k 0).toNat : Int) = 117) : rkS w (k + 1) = rkS w k := by rw [rkS, if_pos h, Int.add_zero]
theorem rkS_d {w : List UInt8} {k : Nat} {up dn : Int} (h : ¬ ((w.getD k 0).toNat : Int) = 117) (hk : k ≤ w.length) (e1 : 2 * up = w.length - k - hgt (w.take k)) (e2 : 2 * dn = w.length - k + hgt (w.take k)) (hp : 0 < up) : rkS w (k + 1) = rkS w k + (bal (up - 1).toNat dn.toNat : Nat) := by
  rw [rkS, if_neg h, if_pos (by omega), show (((w.length - k : Nat) : Int) - hgt (w.take k)) / 2 = up by omega, show (((w.length - k : Nat) : Int) + hgt (w.take k)) / 2 = dn by omega]
theorem rkS_0 {w : List UInt8} {k : Nat} {up : Int} (h : ¬ ((w.getD k 0).toNat : Int) = 117) (hk : k ≤ w.length) (e1 : 2 * up = w.length - k - hgt (w.take k)) (hp : ¬ 0 < up) : rkS w (k + 1) = rkS w k := by
  rw [rkS, if_neg h, if_neg (by omega), Int.add_zero]
theorem bal_small {i k : Nat} (hi : i ≤ 15) (hk : k ≤ 15) : bal i k ≤ 1073741824 := Nat.le_trans (bal_le i k) (Nat.pow_le_pow_right (n := 2) (by decide) (show i + k ≤ 30 by omega))
theorem rkS_bd {w : List UInt8} (h : isDyck w = true) : ∀ k, k ≤ w.length → 0 ≤ rkS w k ∧ rkS w k ≤ 1073741824 * k := by
  obtain ⟨h1, h2, h3, h4⟩ := dyck_at h
  intro k
  induction k with
  | zero => intro _; simp [rkS]
  | succ k ih =>
    intro hk
    have f1 := (hgt_bd (w.take k)).2
    have f2 : (w.take k).length ≤ k := List.length_take_le _ _
    have a := ih (by omega)
    have b := h3 k (by omega)
    have c := dyck_left h _ k (by omega) rfl
    have d := bal_small (i := ((((w.length - k : Nat) : Int) - hgt (w.take k)) / 2 - 1).toNat) (k := ((((w.length - k : Nat) : Int) + hgt (w.take k)) / 2).toNat) (by omega) (by omega)
    rw [rkS]
    split
    · omega
    · split <;> omega




/-! a matching as a path -/
def letterM (l : List Int) (i : Nat) : UInt8 := if (i : Int) < l.getD i 0 then 117 else 100
def wTo (l : List Int) (k : Nat) : List UInt8 := (List.range k).map (letterM l)
theorem wTo_len (l : List Int) (k : Nat) : (wTo l k).length = k := by simp [wTo]
theorem wTo_succ (l : List Int) (k : Nat) : wTo l (k + 1) = wTo l k ++ [letterM l k] := by
  unfold wTo
  rw [List.range_succ, List.map_append]
  rfl
theorem bytesAV_succ (l : List Int) (k : Nat) : bytesAV (wTo l (k + 1)) = bytesAV (wTo l k) ++ [.int .u8 (letterM l k).toNat] := by
  rw [wTo_succ]
  unfold bytesAV
  rw [List.map_append]
  rfl
theorem bytesAV_len (s : List UInt8) : (bytesAV s).length = s.length := List.length_map _
def pathM (l : List Int) : List UInt8 := if isNC l then wTo l l.length else []
theorem pathM_len (l : List Int) : (pathM l).length ≤ l.length := by
  unfold pathM
  split
  · rw [wTo_len]; exact Nat.le_refl _
  · exact Nat.zero_le _



def dNum (l : List Int) : Int := if isD l then rankW (pathM l) else -1




end Go.Proofs.YtbicfognbbeigaaGreat
