/-
  Contracts of products of diagrams are proved.
  They hold for all rows of numbers.
-/
import Derived.Test.YtdfdlnjijccpeaaC20
import Derived.Test.YtdfdlnjijccpeaaP7
set_option linter.unusedVariables false
set_option linter.unusedSimpArgs false
namespace Go.Proofs.Ytdfdlnjijccpeaa
open Go.Proofs.Ytdfdlnjijccpeaa.Ab Go.Proofs.Ytdfdlnjijccpeaa.Pl

theorem inv_of {l : List Int} {n : Nat} (h : isM l = true) (e : l.length = 2 * n) : Inv2 n (ga l) := fun i hi => by
  obtain ⟨h1, h2, h3, h4⟩ := isM_ga h (by omega : i < l.length)
  exact ⟨by omega, h4, h2⟩
theorem into_inv {l : List Int} {n : Nat} (h : isM l = true) (e : l.length = 2 * n) : ∀ i, i < 2 * n → l.getD i 0 = ga l i ∧ ga l i < 2 * n := fun i hi => by
  obtain ⟨h1, h2, h3, h4⟩ := isM_ga h (by omega : i < l.length)
  exact ⟨h3, by omega⟩
def startOf (n i : Nat) : Nat := if i < n then i else 2 * n + i
def prodL (a b : List Int) : List Int := tab a.length fun i => (wayV (a.length / 2) (ga a) (ga b) (4 * (a.length / 2)) (startOf (a.length / 2) i) : Int)
def upA (a : List Int) (n : Nat) : Nat → Nat := fun j => 2 * n - 1 - ga a (2 * n - 1 - j)
def loopsD (a b : List Int) : Nat := (roundsFr (upA a (a.length / 2)) (ga b) (a.length / 2) (seenW (a.length / 2) (ga a) (ga b)) (a.length / 2)).2
def mulD (a b : List Int) : List Int × Int × Bool := if isD a = true ∧ isD b = true ∧ a.length = b.length then (prodL a b, loopsD a b, true) else ([], 0, false)
def RetM (p : List Int × Int × Bool) (h0 : H) (v : AV) (h' : H) : Prop := ∃ b, v = .tup [.slice b 0 p.1.length p.1.length, .int .i64 p.2.1, .bool p.2.2] ∧ New h0 h' b (ints p.1)
theorem RetM.mk' {p : List Int × Int × Bool} {h0 h' : H} {b m : Nat} {l : List Int} {k : Int} {t : Bool} (e : p = (l, k, t)) (hn : m = l.length) (w : New h0 h' b (ints l)) : RetM p h0 (.tup [.slice b 0 m m, .int .i64 k, .bool t]) h' := by
  subst e hn
  exact ⟨b, rfl, w⟩

/-- a way's values, by one step -/
theorem wayV_end {n : Nat} {A B : Nat → Nat} {f st : Nat} (h : stepW n A B st = none) : wayV n A B (f + 1) st = endV n A B st := by simp only [wayV, h]
theorem wayV_go {n : Nat} {A B : Nat → Nat} {f st z : Nat} (h : stepW n A B st = some z) : wayV n A B (f + 1) st = wayV n A B f z := by simp only [wayV, h]
theorem wayM_end {n : Nat} {A B : Nat → Nat} {f st : Nat} {s : List Bool} (h : stepW n A B st = none) : wayM n A B (f + 1) st s = s := by simp only [wayM, h]
theorem wayM_go {n : Nat} {A B : Nat → Nat} {f st z : Nat} {s : List Bool} (h : stepW n A B st = some z) : wayM n A B (f + 1) st s = wayM n A B f z (s.set (midW n z) true) := by simp only [wayM, h]
theorem endsW_go {n : Nat} {A B : Nat → Nat} {f st z : Nat} (h : stepW n A B st = some z) : endsW n A B (f + 1) st = endsW n A B f z := by simp only [endsW, h]
theorem step_up {n : Nat} {A B : Nat → Nat} {x : Nat} (h : x < 2 * n) : stepW n A B x = if A x < n then none else some (2 * n + (2 * n - 1 - A x)) := by unfold stepW; rw [if_pos h]
theorem step_dn {n : Nat} {A B : Nat → Nat} {x : Nat} : stepW n A B (2 * n + x) = if n ≤ B x then none else some (2 * n - 1 - B x) := by unfold stepW; rw [if_neg (by omega), show 2 * n + x - 2 * n = x by omega]
theorem mid_up {n j : Nat} (h : j < n) : midW n (2 * n - 1 - j) = j := by unfold midW; rw [if_pos (by omega)]; omega
theorem mid_dn {n j : Nat} : midW n (2 * n + j) = j := by unfold midW; rw [if_neg (by omega)]; omega

/-- the inner function: a way, from a place of the upper diagram or of the other one -/
theorem follow_ok (a b : List Int) (n : Nat) (ha : isM a = true) (hb : isM b = true) (ea : a.length = 2 * n) (eb : b.length = 2 * n) (h0 hp : H) (ba bb pa pb pn ps bs Ca Cb : Nat) (s : List Bool) (bo : Nat) (X : Blk) (R : List (Nat × Blk)) (up : Bool) (x st0 : Nat) (hst : (if up then x else 2 * n + x) = st0)
    (hs : St h0 hp ((ps, row [.slice bs 0 n n]) :: (bs, row (bools s)) :: (bo, X) :: (pn, row [.int .i64 n]) :: (pb, row [.slice bb 0 (2 * n) Cb]) :: (pa, row [.slice ba 0 (2 * n) Ca]) :: R)) (la : Has h0 ba (ints a)) (lb : Has h0 bb (ints b))
    (ls : s.length = n) (hx : x < 2 * n) (hn : n ≤ 8) (he : endsW n (ga a) (ga b) (4 * n) st0 = true) :
    AC env 96 [.bool up, .int .i64 x, .ptr pa 0, .ptr pn 0, .ptr pb 0, .ptr ps 0] hp fun v h' => v = .int .i64 (wayV n (ga a) (ga b) (4 * n) st0 : Nat) ∧
      St h0 h' ((ps, row [.slice bs 0 n n]) :: (bs, row (bools (wayM n (ga a) (ga b) (4 * n) st0 s))) :: (bo, X) :: (pn, row [.int .i64 n]) :: (pb, row [.slice bb 0 (2 * n) Cb]) :: (pa, row [.slice ba 0 (2 * n) Ca]) :: R) := by
  have ia := into_inv ha ea
  have ib := into_inv hb eb
  refine AC.enter Try.func96 Try.call96 rfl Try.ntmps96 (of_decide_eq_true (by rfl)) ?_
  repeat' (first
    | refine AW.seq ?_
    | (refine AW.region ?_; conv => whnf)
    | refine AW.block ?_)
  refine AW.loop4 (fun (up : Bool) (x f : Nat) (u : List Bool) => [(0, .bool up), (1, .int .i64 x), (2, .ptr pa 0), (3, .ptr pn 0), (4, .ptr pb 0), (5, .ptr ps 0)])
    (fun up x f u h' => x < 2 * n ∧ u.length = n ∧ endsW n (ga a) (ga b) f (if up then x else 2 * n + x) = true ∧ wayV n (ga a) (ga b) (4 * n) st0 = wayV n (ga a) (ga b) f (if up then x else 2 * n + x) ∧ wayM n (ga a) (ga b) (4 * n) st0 s = wayM n (ga a) (ga b) f (if up then x else 2 * n + x) u ∧
      St h0 h' ((ps, row [.slice bs 0 n n]) :: (bs, row (bools u)) :: (bo, X) :: (pn, row [.int .i64 n]) :: (pb, row [.slice bb 0 (2 * n) Cb]) :: (pa, row [.slice ba 0 (2 * n) Ca]) :: R)) (fun _ _ f _ => f) up x (4 * n) s
    (Less.cons rfl (Less.cons rfl (Less.cons rfl (Less.cons rfl (Less.cons rfl (Less.cons rfl (Less.nil _))))))) ⟨hx, ls, by rw [hst]; exact he, by rw [hst], by rw [hst], hs⟩ ?_
  rintro up x f u h1 ⟨hx, lu, he, hv, hm, hs⟩
  obtain ⟨f, rfl⟩ : ∃ g, f = g + 1 := ⟨f - 1, by cases f with | zero => cases he | succ f => rfl⟩
  cases up with
  | true =>
    rw [if_pos rfl] at he hv hm
    have ex : a.getD (x : Int).toNat 0 = (ga a x : Int) ∧ ga a x < 2 * n := ia x hx
    have sx := step_up (n := n) (A := ga a) (B := ga b) hx
    by_cases hlt : ga a x < n
    · rw [if_pos hlt] at sx
      rw [wayV_end sx, endV, if_pos hx] at hv
      rw [wayM_end sx] at hm
      rw [hv, hm]
      repeat' (first
        | refine AW.seq ?_
        | (refine AW.region ?_; conv => whnf)
        | refine AW.block ?_
        | (refine AW.ret ?_; conv => whnf)
        | refine AW.cond (by rfl) ?_
        | (refine Br.tt ?_; conv => whnf)
        | (refine Br.dt (by omega) ?_; conv => whnf)
        | (refine Ck.mk (by omega) ?_; conv => whnf)
        | (refine Has.load1 (by first | assumption | exact St.has (by assumption) (by repeat first | exact .head _ | apply List.Mem.tail) | exact St.arg (by assumption) (by assumption)) ?_; conv => whnf)
        | (refine Has.loadZ (by first | assumption | exact St.has (by assumption) (by repeat first | exact .head _ | apply List.Mem.tail) | exact St.arg (by assumption) (by assumption)) rfl (by first | (simp; done) | omega | (simp only [List.length_set, List.length_append, List.length_cons, List.length_nil, List.length_replicate, tab_length]; omega) | (simp; omega)) ?_; conv => whnf))
      exact ⟨by rw [ex.1], hs⟩
    · rw [if_neg hlt] at sx
      rw [wayV_go sx] at hv
      rw [wayM_go sx, mid_dn] at hm
      rw [endsW_go sx] at he
      repeat' (first
        | refine AW.seq ?_
        | (refine AW.region ?_; conv => whnf)
        | refine AW.block ?_
        | (refine AW.skip ?_; conv => whnf)
        | refine AW.cond (by rfl) ?_
        | (refine Br.tt ?_; conv => whnf)
        | (refine Br.ff ?_; conv => whnf)
        | (refine Br.df (by omega) ?_; conv => whnf)
        | (refine Wr.i64 (by omega) ?_; conv => whnf)
        | (refine Ck.mk (by omega) ?_; conv => whnf)
        | (refine Has.load1 (by first | assumption | exact St.has (by assumption) (by repeat first | exact .head _ | apply List.Mem.tail) | exact St.arg (by assumption) (by assumption)) ?_; conv => whnf)
        | (refine Has.loadZ (by first | assumption | exact St.has (by assumption) (by repeat first | exact .head _ | apply List.Mem.tail) | exact St.arg (by assumption) (by assumption)) rfl (by first | (simp; done) | omega | (simp only [List.length_set, List.length_append, List.length_cons, List.length_nil, List.length_replicate, tab_length]; omega) | (simp; omega)) ?_; conv => whnf)
        | (refine StoreG.stB (by assumption) (by repeat first | exact .here | apply Spot.there) rfl (by first | (simp; done) | omega | (simp only [List.length_set, List.length_append, List.length_cons, List.length_nil, List.length_replicate, tab_length]; omega) | (simp; omega)) (fun h' hs' => ?_); conv => whnf))
      have e1 : (2 * (n : Int) - 1 - a.getD (x : Int).toNat 0) = ((2 * n - 1 - ga a x : Nat) : Int) := by omega
      have e2 : (2 * (n : Int) - 1 - a.getD (x : Int).toNat 0).toNat = 2 * n - 1 - ga a x := by omega
      rw [e1]
      rw [e2] at hs'
      exact ⟨false, 2 * n - 1 - ga a x, f, _, (Less.cons rfl (Less.cons rfl (Less.cons rfl (Less.cons rfl (Less.cons rfl (Less.cons rfl (Less.nil _))))))), ⟨by omega, by simpa using lu, he, hv, hm, hs'⟩, by omega⟩
  | false =>
    rw [if_neg (by decide)] at he hv hm
    have ex : b.getD (x : Int).toNat 0 = (ga b x : Int) ∧ ga b x < 2 * n := ib x hx
    have sx := step_dn (n := n) (A := ga a) (B := ga b) (x := x)
    by_cases hlt : n ≤ ga b x
    · rw [if_pos hlt] at sx
      rw [wayV_end sx, endV, if_neg (by omega), show 2 * n + x - 2 * n = x by omega] at hv
      rw [wayM_end sx] at hm
      rw [hv, hm]
      repeat' (first
        | refine AW.seq ?_
        | (refine AW.region ?_; conv => whnf)
        | refine AW.block ?_
        | (refine AW.ret ?_; conv => whnf)
        | refine AW.cond (by rfl) ?_
        | (refine Br.ff ?_; conv => whnf)
        | (refine Br.dt (by omega) ?_; conv => whnf)
        | (refine Ck.mk (by omega) ?_; conv => whnf)
        | (refine Has.load1 (by first | assumption | exact St.has (by assumption) (by repeat first | exact .head _ | apply List.Mem.tail) | exact St.arg (by assumption) (by assumption)) ?_; conv => whnf)
        | (refine Has.loadZ (by first | assumption | exact St.has (by assumption) (by repeat first | exact .head _ | apply List.Mem.tail) | exact St.arg (by assumption) (by assumption)) rfl (by first | (simp; done) | omega | (simp only [List.length_set, List.length_append, List.length_cons, List.length_nil, List.length_replicate, tab_length]; omega) | (simp; omega)) ?_; conv => whnf))
      exact ⟨by rw [ex.1], hs⟩
    · rw [if_neg hlt] at sx
      rw [wayV_go sx] at hv
      rw [wayM_go sx, mid_up (by omega)] at hm
      rw [endsW_go sx] at he
      repeat' (first
        | refine AW.seq ?_
        | (refine AW.region ?_; conv => whnf)
        | refine AW.block ?_
        | (refine AW.skip ?_; conv => whnf)
        | refine AW.cond (by rfl) ?_
        | (refine Br.tt ?_; conv => whnf)
        | (refine Br.ff ?_; conv => whnf)
        | (refine Br.df (by omega) ?_; conv => whnf)
        | (refine Wr.i64 (by omega) ?_; conv => whnf)
        | (refine Ck.mk (by omega) ?_; conv => whnf)
        | (refine Has.load1 (by first | assumption | exact St.has (by assumption) (by repeat first | exact .head _ | apply List.Mem.tail) | exact St.arg (by assumption) (by assumption)) ?_; conv => whnf)
        | (refine Has.loadZ (by first | assumption | exact St.has (by assumption) (by repeat first | exact .head _ | apply List.Mem.tail) | exact St.arg (by assumption) (by assumption)) rfl (by first | (simp; done) | omega | (simp only [List.length_set, List.length_append, List.length_cons, List.length_nil, List.length_replicate, tab_length]; omega) | (simp; omega)) ?_; conv => whnf)
        | (refine StoreG.stB (by assumption) (by repeat first | exact .here | apply Spot.there) rfl (by first | (simp; done) | omega | (simp only [List.length_set, List.length_append, List.length_cons, List.length_nil, List.length_replicate, tab_length]; omega) | (simp; omega)) (fun h' hs' => ?_); conv => whnf))
      have e1 : (2 * (n : Int) - 1 - b.getD (x : Int).toNat 0) = ((2 * n - 1 - ga b x : Nat) : Int) := by omega
      have e2 : (b.getD (x : Int).toNat 0).toNat = ga b x := rfl
      rw [e1]
      rw [e2] at hs'
      exact ⟨true, 2 * n - 1 - ga b x, f, _, (Less.cons rfl (Less.cons rfl (Less.cons rfl (Less.cons rfl (Less.cons rfl (Less.cons rfl (Less.nil _))))))), ⟨by omega, by simpa using lu, he, hv, hm, hs'⟩, by omega⟩

theorem startsI_same (n : Nat) (A B : Nat → Nat) (hA : Inv2 n A) (hB : Inv2 n B) : marksAll n A B ((List.range n).flatMap fun j => [j, 3 * n + j]) (List.replicate n false) = seenW n A B := by
  refine marksAll_same hA hB _ (fun x hx => ?_) (fun x hx => (startsW_mem x).1 hx) fun x => ?_
  · obtain ⟨j, hj, hx⟩ := List.mem_flatMap.1 hx
    have := List.mem_range.1 hj
    unfold isStart
    simp at hx
    omega
  · rw [startsW_mem, List.mem_flatMap]
    unfold isStart
    constructor
    · rintro ⟨j, hj, hx⟩
      have := List.mem_range.1 hj
      simp at hx
      omega
    · intro h
      by_cases hx : x < n
      · exact ⟨x, List.mem_range.2 hx, by simp⟩
      · exact ⟨x - 3 * n, List.mem_range.2 (by omega), by simp; omega⟩
theorem marksI_next (n : Nat) (A B : Nat → Nat) (i : Nat) (s0 : List Bool) : marksAll n A B ((List.range (i + 1)).flatMap fun j => [j, 3 * n + j]) s0 = wayM n A B (4 * n) (3 * n + i) (wayM n A B (4 * n) i (marksAll n A B ((List.range i).flatMap fun j => [j, 3 * n + j]) s0)) := by
  rw [List.range_succ, List.flatMap_append, marksAll, List.foldl_append]
  rfl
theorem marksS_next (n : Nat) (A B : Nat → Nat) (i : Nat) (s0 : List Bool) : marksAll n A B ((List.range (i + 1)).map (startOf n)) s0 = wayM n A B (4 * n) (startOf n i) (marksAll n A B ((List.range i).map (startOf n)) s0) := by
  rw [List.range_succ, List.map_append, marksAll, List.foldl_append]
  rfl
/-- the values of all ways, as places of the product -/
def wayP (n : Nat) (A B : Nat → Nat) (k : Nat) : Int := (wayV n A B (4 * n) (startOf n k) : Nat)
theorem wayP_up {n : Nat} {A B : Nat → Nat} {i : Nat} (h : i < n) : wayP n A B i = (wayV n A B (4 * n) i : Nat) := by rw [wayP, startOf, if_pos h]
theorem wayP_dn {n : Nat} {A B : Nat → Nat} {i : Nat} : wayP n A B (n + i) = (wayV n A B (4 * n) (3 * n + i) : Nat) := by rw [wayP, startOf, if_neg (by omega), show 2 * n + (n + i) = 3 * n + i by omega]
theorem wayP_fill {n : Nat} {A B : Nat → Nat} {i k : Nat} (hi : i < n) : (if k = n + i then ((wayV n A B (4 * n) (3 * n + i) : Nat) : Int) else if k = i then ((wayV n A B (4 * n) i : Nat) : Int) else if k < i ∨ (n ≤ k ∧ k < n + i) then wayP n A B k else 0) = if k < i + 1 ∨ (n ≤ k ∧ k < n + (i + 1)) then wayP n A B k else 0 := by
  by_cases h1 : k = n + i
  · rw [if_pos h1, if_pos (by omega), h1, wayP_dn]
  · rw [if_neg h1]
    by_cases h2 : k = i
    · rw [if_pos h2, if_pos (by omega), h2, wayP_up hi]
    · rw [if_neg h2]
      by_cases h3 : k < i ∨ (n ≤ k ∧ k < n + i)
      · rw [if_pos h3, if_pos (by omega)]
      · rw [if_neg h3, if_neg (by omega)]
theorem wayP_tab {n : Nat} {A B : Nat → Nat} {i : Nat} (hi : i < n) : (tab (2 * n) fun k => if k < i + 1 ∨ (n ≤ k ∧ k < n + (i + 1)) then wayP n A B k else 0) = tab (2 * n) fun k => if k = n + i then ((wayV n A B (4 * n) (3 * n + i) : Nat) : Int) else if k = i then ((wayV n A B (4 * n) i : Nat) : Int) else if k < i ∨ (n ≤ k ∧ k < n + i) then wayP n A B k else 0 :=
  tab_congr fun k hk => (wayP_fill hi).symm
theorem newOf {h0 h : H} {L : List (Nat × Blk)} {b : Nat} {cs : List AV} (s : St h0 h L) (m : (b, row cs) ∈ L) : New h0 h b cs := ⟨s.is _ m, s.new _ m, s.keeps⟩
theorem prodL_eq {a b : List Int} {n : Nat} (ea : a.length = 2 * n) : prodL a b = tab (2 * n) (wayP n (ga a) (ga b)) := by
  unfold prodL wayP
  rw [ea, show 2 * n / 2 = n by omega]
theorem loopsD_eq {a b : List Int} {n : Nat} (ea : a.length = 2 * n) : loopsD a b = (roundsFr (upA a n) (ga b) n (seenW n (ga a) (ga b)) n).2 := by
  unfold loopsD
  rw [ea, show 2 * n / 2 = n by omega]
theorem upA_eq (a : List Int) (n j : Nat) : upA a n j = 2 * n - 1 - ga a (2 * n - 1 - j) := rfl

set_option maxHeartbeats 4000000 in
theorem iMultiply_ok (a b : List Int) (ba bb Ca Cb : Nat) (h0 : H) (la : Has h0 ba (ints a)) (lb : Has h0 bb (ints b)) : AC env 10 [.slice ba 0 a.length Ca, .slice bb 0 b.length Cb] h0 (RetM (mulD a b) h0) := by
  have hs := St.refl h0
  by_cases h : isD a = true ∧ isD b = true ∧ a.length = b.length
  · obtain ⟨g1, g2, g3⟩ := id h
    have ma := isNC_spec (isD_spec g1).2
    have mb := isNC_spec (isD_spec g2).2
    have eva := isM_even ma
    have hla := (isM_spec ma).1
    obtain ⟨n, hn⟩ : ∃ n, n = a.length / 2 := ⟨_, rfl⟩
    have ea : a.length = 2 * n := by omega
    have eb : b.length = 2 * n := by omega
    have hd2 : (a.length : Int).tdiv 2 = (n : Int) := by rw [hn]; rfl
    have hd3 : ((2 * n : Nat) : Int).tdiv 2 = (n : Int) := by rw [← ea]; exact hd2
    have iA := inv_of ma ea
    have iB := inv_of mb eb
    have ia := into_inv ma ea
    have ib := into_inv mb eb
    have en : ∀ x, isStart n x → endsW n (ga a) (ga b) (4 * n) x = true := fun x hx => ends_start iA iB (by unfold isStart at hx; omega) hx
    rw [ea, eb]
    refine AC.enter Try.func10 Try.call10 rfl Try.ntmps10 (of_decide_eq_true (by rfl)) ?_
    repeat' (first
      | (rw [hd3])
      | refine AW.seq ?_
      | (refine AW.region ?_; conv => whnf)
      | refine AW.block ?_
      | (refine AW.skip ?_; conv => whnf)
      | refine AW.cond (by rfl) ?_
      | (refine (iIsDiagram_ok _ _ _ _ _ (by first | assumption | exact St.has (by assumption) (by repeat first | exact .head _ | apply List.Mem.tail) | exact St.arg (by assumption) (by assumption)) (by first | rfl | omega)).mono ?_; rintro v h' ⟨rfl, e'⟩; subst h'; conv => whnf)
      | refine Br.not ?_
      | (refine Br.t (beq_self_eq_true _) ?_; conv => whnf)
      | (refine Br.t (by assumption) ?_; conv => whnf)
      | (refine Wr.i64 (by omega) ?_; conv => whnf)
      | (refine Ck.mk (by omega) ?_; conv => whnf)
      | (refine NewG.stB (by assumption) rfl (fun bt h' hs' => ?_); conv => whnf)
      | (refine NewG.stZ (by assumption) rfl (fun bt h' hs' => ?_); conv => whnf)
      | (refine Ck.slice (by omega) (by omega) (by omega) (by decide) ?_; conv => whnf)
      | (refine NewG.st (by assumption) (fun bt h' hs' => ?_); conv => whnf)
      | (refine Has.load1 (by first | assumption | exact St.has (by assumption) (by repeat first | exact .head _ | apply List.Mem.tail) | exact St.arg (by assumption) (by assumption)) ?_; conv => whnf)
      | (refine StoreG.st1 (by assumption) (by repeat first | exact .here | apply Spot.there) rfl (fun h' hs' => ?_); conv => whnf))
    rename_i pa _ _ pb _ _ pn _ _ _ _ bo _ _ bs _ _ _ _
    have hs0 : St h0 h' ((bt, row [.slice bs 0 n n]) :: (bs, row (bools (List.replicate n false))) :: (bo, row (ints (tab (2 * n) fun _ => 0))) :: (pn, row [.int .i64 n]) :: (pb, row [.slice bb 0 (2 * n) Cb]) :: (pa, row [.slice ba 0 (2 * n) Ca]) :: []) := by
      rw [← tab_replicate]
      exact hs'
    refine AW.loop1 (fun (i : Nat) => [(2, .ptr pa 0), (3, .ptr pb 0), (7, .ptr pn 0), (8, .slice bo 0 (2 * n) (2 * n)), (9, .ptr bt 0), (10, .func 96 [.ptr pa 0, .ptr pn 0, .ptr pb 0, .ptr bt 0]), (41, .int .i64 n), (42, .int .i64 i)])
      (fun i h' => i ≤ n ∧ St h0 h' ((bt, row [.slice bs 0 n n]) :: (bs, row (bools (marksAll n (ga a) (ga b) ((List.range i).flatMap fun j => [j, 3 * n + j]) (List.replicate n false)))) ::
        (bo, row (ints (tab (2 * n) fun k => if k < i ∨ (n ≤ k ∧ k < n + i) then wayP n (ga a) (ga b) k else 0))) :: (pn, row [.int .i64 n]) :: (pb, row [.slice bb 0 (2 * n) Cb]) :: (pa, row [.slice ba 0 (2 * n) Ca]) :: [])) (fun i => n - i) 0
      (Less.cons rfl (Less.cons rfl (Less.cons rfl (Less.cons rfl (Less.cons rfl (Less.cons rfl (Less.cons rfl (Less.cons rfl (Less.nil _))))))))) ⟨by omega, by rw [show (fun k => if k < 0 ∨ (n ≤ k ∧ k < n + 0) then wayP n (ga a) (ga b) k else 0) = fun _ => 0 from funext fun k => if_neg (by omega)]; exact hs0⟩ ?_
    rintro i h1 ⟨hi, hs1⟩
    have lm : (marksAll n (ga a) (ga b) ((List.range i).flatMap fun j => [j, 3 * n + j]) (List.replicate n false)).length = n := by rw [marksAll_len]; simp
    repeat' (first
      | refine AW.seq ?_
      | (refine AW.region ?_; conv => whnf)
      | refine AW.block ?_
      | (refine AW.skip ?_; conv => whnf)
      | (refine AW.exit ?_; conv => whnf)
      | refine AW.cond (by rfl) ?_
      | (refine Br.dec (fun hc => ?_) (fun hc => ?_) <;> conv => whnf)
      | (refine Has.load1 (by first | assumption | exact St.has (by assumption) (by repeat first | exact .head _ | apply List.Mem.tail) | exact St.arg (by assumption) (by assumption)) ?_; conv => whnf))
    · refine (follow_ok a b n ma mb ea eb h0 _ ba bb pa pb pn bt bs Ca Cb _ bo _ [] true i i rfl hs1 la lb lm (by omega) (by omega) (en i (.inl (by omega)))).mono ?_
      rintro v h2 ⟨rfl, hs2⟩
      conv => whnf
      repeat' (first
        | (refine And.intro ?_ ?_ <;> conv => whnf)
        | (refine AW.draw (id := 11) (.p 0 (.p 2 (.p 4 (.p 6 (.r 5 [7, 8, 9, 10] (.p 7 (.all [1, 8] fun i => bif Nat.beq i 1 then (.p 3 (.all [8] fun _ => (.p 9 (.all [10] fun _ => .done)))) else (.r 1 [3, 9, 10] (.p 3 (.p 9 (.all [10] fun _ => .done))))))))))) (by kernel_rfl) (by kernel_rfl) ?_; conv => whnf)
        | (refine Wr.i64 (by omega) ?_; conv => whnf)
        | (refine Ck.mk (by omega) ?_; conv => whnf)
        | (refine Has.load1 (by first | assumption | exact St.has (by assumption) (by repeat first | exact .head _ | apply List.Mem.tail) | exact St.arg (by assumption) (by assumption)) ?_; conv => whnf)
        | (refine StoreG.stZ (by assumption) (by repeat first | exact .here | apply Spot.there) rfl (by first | (simp; done) | omega | (simp only [List.length_set, List.length_append, List.length_cons, List.length_nil, List.length_replicate, tab_length]; omega) | (simp; omega)) (fun h' hs' => ?_); conv => whnf))
      all_goals
        rw [show (n : Int) + (i : Int) = ((n + i : Nat) : Int) by omega]
        refine (follow_ok a b n ma mb ea eb h0 _ ba bb pa pb pn bt bs Ca Cb _ bo _ [] false (n + i) (3 * n + i) (by simp; omega) hs' la lb (by rw [wayM_len, lm]) (by omega) (by omega) (en _ (.inr (by omega)))).mono ?_
        rintro v h3 ⟨rfl, hs3⟩
        conv => whnf
        repeat' (first
          | (refine AW.region ?_; conv => whnf)
          | (refine Wr.i64 (by omega) ?_; conv => whnf)
          | (refine Ck.mk (by omega) ?_; conv => whnf)
          | (refine Has.load1 (by first | assumption | exact St.has (by assumption) (by repeat first | exact .head _ | apply List.Mem.tail) | exact St.arg (by assumption) (by assumption)) ?_; conv => whnf)
          | (refine StoreG.stZ (by assumption) (by repeat first | exact .here | apply Spot.there) rfl (by first | (simp; done) | omega | (simp only [List.length_set, List.length_append, List.length_cons, List.length_nil, List.length_replicate, tab_length]; omega) | (simp; omega)) (fun h' hs' => ?_); conv => whnf))
        refine ⟨i + 1, (Less.cons rfl (Less.cons rfl (Less.cons rfl (Less.cons rfl (Less.cons rfl (Less.cons rfl (Less.cons rfl (Less.cons rfl (Less.nil _))))))))), ⟨by omega, ?_⟩, by omega⟩
        rw [marksI_next]
        rw [tab_set, tab_set] at hs'
        rw [wayP_tab (by omega)]
        exact hs'
    · rw [show i = n by omega, startsI_same n _ _ iA iB, show (tab (2 * n) fun k => if k < n ∨ (n ≤ k ∧ k < n + n) then wayP n (ga a) (ga b) k else 0) = tab (2 * n) (wayP n (ga a) (ga b)) from tab_congr fun k hk => if_pos (by omega)] at hs1
      have cl : Cl n (upA a n) (ga b) (seenW n (ga a) (ga b)) := (seenW_cl iA iB).1
      have pe : mulD a b = (tab (2 * n) (wayP n (ga a) (ga b)), ((roundsFr (upA a n) (ga b) n (seenW n (ga a) (ga b)) n).2 : Int), true) := by rw [mulD, if_pos h, prodL_eq ea, loopsD_eq ea]
      generalize seenW n (ga a) (ga b) = S at *
      refine AW.loop3 (fun (s : List Bool) (k i : Nat) => [(2, .ptr pa 0), (3, .ptr pb 0), (7, .ptr pn 0), (8, .slice bo 0 (2 * n) (2 * n)), (9, .ptr bt 0), (12, .int .i64 k), (62, .int .i64 n), (63, .int .i64 i)])
        (fun s k i h' => i ≤ n ∧ roundsFr (ga b) (upA a n) n S i = (s, k) ∧ St h0 h' ((bt, row [.slice bs 0 n n]) :: (bs, row (bools s)) :: (bo, row (ints (tab (2 * n) (wayP n (ga a) (ga b))))) :: (pn, row [.int .i64 n]) :: (pb, row [.slice bb 0 (2 * n) Cb]) :: (pa, row [.slice ba 0 (2 * n) Ca]) :: [])) (fun _ _ i => n - i) S 0 0
        (Less.cons rfl (Less.cons rfl (Less.cons rfl (Less.cons rfl (Less.cons rfl (Less.cons rfl (Less.cons rfl (Less.cons rfl (Less.nil _))))))))) ⟨by omega, rfl, hs1⟩ ?_
      rintro s k i h2 ⟨hi, hr, hs2⟩
      have bk := roundsFr_le (n := n) (ga b) (upA a n) S i
      have cs := roundsFr_cl cl.swap i hi
      rw [hr] at bk cs
      dsimp only at bk cs
      have ls := cs.1
      repeat' (first
        | refine AW.seq ?_
        | (refine AW.region ?_; conv => whnf)
        | refine AW.block ?_
        | (refine AW.skip ?_; conv => whnf)
        | (refine AW.ret ?_; conv => whnf)
        | (refine AW.exit ?_; conv => whnf)
        | refine AW.cond (by rfl) ?_
        | (refine Br.dec (fun hc => ?_) (fun hc => ?_) <;> conv => whnf)
        | (refine Br.mk (fun hc => ?_) (fun hc => ?_) <;> conv => whnf)
        | (refine Wr.i64 (by omega) ?_; conv => whnf)
        | (refine Ck.mk (by omega) ?_; conv => whnf)
        | (refine Has.load1 (by first | assumption | exact St.has (by assumption) (by repeat first | exact .head _ | apply List.Mem.tail) | exact St.arg (by assumption) (by assumption)) ?_; conv => whnf)
        | (refine Has.loadB (by first | assumption | exact St.has (by assumption) (by repeat first | exact .head _ | apply List.Mem.tail) | exact St.arg (by assumption) (by assumption)) rfl (by first | (simp; done) | omega | (simp only [List.length_set, List.length_append, List.length_cons, List.length_nil, List.length_replicate, tab_length]; omega) | (simp; omega)) ?_; conv => whnf))
      · exact ⟨s, k, i + 1, (Less.cons rfl (Less.cons rfl (Less.cons rfl (Less.cons rfl (Less.cons rfl (Less.cons rfl (Less.cons rfl (Less.cons rfl (Less.nil _))))))))), ⟨by omega, roundsFr_seen hr hc, hs2⟩, by omega⟩
      · have hci : s.getD i false = false := hc
        refine AW.loop3 (fun (u : List Bool) (x f : Nat) => [(2, .ptr pa 0), (3, .ptr pb 0), (7, .ptr pn 0), (8, .slice bo 0 (2 * n) (2 * n)), (9, .ptr bt 0), (12, .int .i64 ((k + 1 : Nat) : Int)), (14, .int .i64 x), (62, .int .i64 n), (63, .int .i64 i)])
          (fun u x f h' => x < n ∧ s.getD x false = false ∧ u.length = n ∧ u.count false ≤ f ∧ trail (ga b) (upA a n) n s i = trail (ga b) (upA a n) f u x ∧ St h0 h' ((bt, row [.slice bs 0 n n]) :: (bs, row (bools u)) :: (bo, row (ints (tab (2 * n) (wayP n (ga a) (ga b))))) :: (pn, row [.int .i64 n]) :: (pb, row [.slice bb 0 (2 * n) Cb]) :: (pa, row [.slice ba 0 (2 * n) Ca]) :: [])) (fun _ _ f => f) s i n
          (Less.cons rfl (Less.cons rfl (Less.cons rfl (Less.cons rfl (Less.cons rfl (Less.cons rfl (Less.cons rfl (Less.cons rfl (Less.cons rfl (Less.nil _)))))))))) ⟨by omega, hci, ls, by rw [← ls]; exact List.count_le_length, rfl, hs2⟩ ?_
        rintro u x f h3 ⟨hx, hsx, lu, hf, ht, hs3⟩
        have cx := cs.2 x hx hsx
        have cy := cs.2 (ga b x) cx.1.1 cx.1.2.1
        have ek : b.getD (x : Int).toNat 0 = (ga b x : Int) ∧ ga b x < n := ⟨(ib x (by omega)).1, cx.1.1⟩
        have ej : (2 * (n : Int) - 1 - b.getD (x : Int).toNat 0).toNat = 2 * n - 1 - ga b x := by omega
        have ea3 : a.getD (2 * (n : Int) - 1 - b.getD (x : Int).toNat 0).toNat 0 = (ga a (2 * n - 1 - ga b x) : Int) ∧ ga a (2 * n - 1 - ga b x) < 2 * n := by rw [ej]; exact ia _ (by omega)
        have eu : 2 * (n : Int) - 1 - a.getD (2 * (n : Int) - 1 - b.getD (x : Int).toNat 0).toNat 0 = (upA a n (ga b x) : Int) := by rw [upA_eq]; omega
        repeat' (first
          | refine AW.seq ?_
          | (refine AW.region ?_; conv => whnf)
          | refine AW.block ?_
          | (refine AW.skip ?_; conv => whnf)
          | (refine AW.exit ?_; conv => whnf)
          | refine AW.cond (by rfl) ?_
          | (refine AW.draw (id := 24) (.p 7 (.r 0 [1, 2, 11, 12] (.p 1 (.p 2 (.r 3 [9, 10, 11, 12] (.r 4 [5, 6, 8, 9, 10, 11, 12] (.p 5 (.p 6 (.p 8 (.p 9 (.r 10 [11, 12] (.p 11 (.p 12 .done))))))))))))) (by kernel_rfl) (by kernel_rfl) ?_; conv => whnf)
          | refine Br.not ?_
          | (refine Br.mk (fun hc => ?_) (fun hc => ?_) <;> conv => whnf)
          | (refine Wr.i64 (by omega) ?_; conv => whnf)
          | (refine Ck.mk (by omega) ?_; conv => whnf)
          | (refine Has.load1 (by first | assumption | exact St.has (by assumption) (by repeat first | exact .head _ | apply List.Mem.tail) | exact St.arg (by assumption) (by assumption)) ?_; conv => whnf)
          | (refine Has.loadB (by first | assumption | exact St.has (by assumption) (by repeat first | exact .head _ | apply List.Mem.tail) | exact St.arg (by assumption) (by assumption)) rfl (by first | (simp; done) | omega | (simp only [List.length_set, List.length_append, List.length_cons, List.length_nil, List.length_replicate, tab_length]; omega) | (simp; omega)) ?_; conv => whnf)
          | (refine Has.loadZ (by first | assumption | exact St.has (by assumption) (by repeat first | exact .head _ | apply List.Mem.tail) | exact St.arg (by assumption) (by assumption)) rfl (by first | (simp; done) | omega | (simp only [List.length_set, List.length_append, List.length_cons, List.length_nil, List.length_replicate, tab_length]; omega) | (simp; omega)) ?_; conv => whnf)
          | (refine StoreG.stB (by assumption) (by repeat first | exact .here | apply Spot.there) rfl (by first | (simp; done) | omega | (simp only [List.length_set, List.length_append, List.length_cons, List.length_nil, List.length_replicate, tab_length]; omega) | (simp; omega)) (fun h' hs' => ?_); conv => whnf))
        · have hcx : u.getD x false = true := hc
          rw [trail_seen _ _ _ hcx] at ht
          have rn := roundsFr_new hr hci
          rw [ht] at rn
          exact ⟨u, k + 1, i + 1, (Less.cons rfl (Less.cons rfl (Less.cons rfl (Less.cons rfl (Less.cons rfl (Less.cons rfl (Less.cons rfl (Less.cons rfl (Less.nil _))))))))), ⟨by omega, rn, hs3⟩, by omega⟩
        all_goals
          rw [eu]
          have hcx : u.getD x false = false := by assumption
          have c1 := count_mark (by omega) hcx
          have c2 := count_more (s := u.set x true) (x := ga b x) (by simp; omega)
          obtain ⟨f, rfl⟩ : ∃ g, f = g + 1 := ⟨f - 1, by omega⟩
          rw [trail_step _ _ _ hcx] at ht
          exact ⟨_, _, f, (Less.cons rfl (Less.cons rfl (Less.cons rfl (Less.cons rfl (Less.cons rfl (Less.cons rfl (Less.cons rfl (Less.cons rfl (Less.cons rfl (Less.nil _)))))))))), ⟨cy.2.1, cy.2.2.1, by simpa using lu, by omega, ht, hs'⟩, by omega⟩
      · rw [show i = n by omega] at hr
        have sw := roundsFr_swap cl n (Nat.le_refl _)
        rw [sw, hr] at pe
        exact RetM.mk' pe (by simp) (newOf hs2 (by repeat first | exact .head _ | apply List.Mem.tail))
  · refine AC.enter Try.func10 Try.call10 rfl Try.ntmps10 (of_decide_eq_true (by rfl)) ?_
    repeat' (first
      | refine AW.seq ?_
      | (refine AW.region ?_; conv => whnf)
      | (refine AW.skip ?_; conv => whnf)
      | (refine AW.ret ?_; conv => whnf)
      | refine AW.cond (by rfl) ?_
      | (refine (iIsDiagram_ok _ _ _ _ _ (by first | assumption | exact St.has (by assumption) (by repeat first | exact .head _ | apply List.Mem.tail) | exact St.arg (by assumption) (by assumption)) (by first | rfl | omega)).mono ?_; rintro v h' ⟨rfl, e'⟩; subst h'; conv => whnf)
      | (refine Br.tt ?_; conv => whnf)
      | refine Br.not ?_
      | (refine Br.t (by assumption) ?_; conv => whnf)
      | (refine Br.f (by assumption) ?_; conv => whnf)
      | (refine Br.dec (fun hc => ?_) (fun hc => ?_) <;> conv => whnf)
      | (refine Br.mk (fun hc => ?_) (fun hc => ?_) <;> conv => whnf)
      | (refine Ck.mk (by omega) ?_; conv => whnf)
      | (refine NewG.st (by assumption) (fun bt h' hs' => ?_); conv => whnf)
      | (refine Has.load1 (by first | assumption | exact St.has (by assumption) (by repeat first | exact .head _ | apply List.Mem.tail) | exact St.arg (by assumption) (by assumption)) ?_; conv => whnf))
    all_goals first
      | exact RetM.mk' (if_neg h) rfl hs'.toNew
      | (exfalso; exact h ⟨by assumption, by assumption, by omega⟩)

theorem startOf_up {n i : Nat} (h : i < n) : startOf n i = i := if_pos h
theorem startOf_dn {n i : Nat} (h : ¬ i < n) : startOf n i = 2 * n + i := if_neg h
theorem startOf_is {n i : Nat} (h : i < 2 * n) : isStart n (startOf n i) := by
  unfold startOf isStart
  split <;> omega
theorem wayS_tab {n : Nat} {A B : Nat → Nat} {i : Nat} : (tab (2 * n) fun k => if k < i + 1 then wayP n A B k else 0) = tab (2 * n) fun k => if k = i then ((wayV n A B (4 * n) (startOf n i) : Nat) : Int) else if k < i then wayP n A B k else 0 :=
  tab_congr fun k hk => by
    by_cases h : k = i
    · rw [if_pos h, if_pos (by omega), h, wayP]
    · rw [if_neg h]
      by_cases h2 : k < i
      · rw [if_pos h2, if_pos (by omega)]
      · rw [if_neg h2, if_neg (by omega)]

set_option maxHeartbeats 4000000 in
theorem sMultiply_ok (a b : List Int) (ba bb Ca Cb : Nat) (h0 : H) (la : Has h0 ba (ints a)) (lb : Has h0 bb (ints b)) (hLa : a.length ≤ 10000000) (hLb : b.length ≤ 10000000) : AC env 11 [.slice ba 0 a.length Ca, .slice bb 0 b.length Cb] h0 (RetM (mulD a b) h0) := by
  have hs := St.refl h0
  by_cases h : isD a = true ∧ isD b = true ∧ a.length = b.length
  · obtain ⟨g1, g2, g3⟩ := id h
    have ma := isNC_spec (isD_spec g1).2
    have mb := isNC_spec (isD_spec g2).2
    have eva := isM_even ma
    have hla := (isM_spec ma).1
    obtain ⟨n, hn⟩ : ∃ n, n = a.length / 2 := ⟨_, rfl⟩
    have ea : a.length = 2 * n := by omega
    have eb : b.length = 2 * n := by omega
    have hd3 : ((2 * n : Nat) : Int).tdiv 2 = (n : Int) := by rw [← ea, hn]; rfl
    have iA := inv_of ma ea
    have iB := inv_of mb eb
    have ia := into_inv ma ea
    have ib := into_inv mb eb
    have en : ∀ x, isStart n x → endsW n (ga a) (ga b) (4 * n) x = true := fun x hx => ends_start iA iB (by unfold isStart at hx; omega) hx
    rw [ea, eb]
    refine AC.enter Try.func11 Try.call11 rfl Try.ntmps11 (of_decide_eq_true (by rfl)) ?_
    repeat' (first
      | (rw [hd3])
      | refine AW.seq ?_
      | (refine AW.region ?_; conv => whnf)
      | refine AW.block ?_
      | (refine AW.skip ?_; conv => whnf)
      | refine AW.cond (by rfl) ?_
      | (refine (sIsDiagram_ok _ _ _ _ _ (by first | assumption | exact St.has (by assumption) (by repeat first | exact .head _ | apply List.Mem.tail) | exact St.arg (by assumption) (by assumption)) (by first | rfl | omega) (by first | (simp; done) | omega | (simp only [List.length_set, List.length_append, List.length_cons, List.length_nil, List.length_replicate, tab_length]; omega) | (simp; omega))).mono ?_; rintro v h' ⟨rfl, e'⟩; subst h'; conv => whnf)
      | refine Br.not ?_
      | (refine Br.t (beq_self_eq_true _) ?_; conv => whnf)
      | (refine Br.t (by assumption) ?_; conv => whnf)
      | (refine Wr.i64 (by omega) ?_; conv => whnf)
      | (refine Ck.mk (by omega) ?_; conv => whnf)
      | (refine NewG.stB (by assumption) rfl (fun bt h' hs' => ?_); conv => whnf)
      | (refine NewG.stZ (by assumption) rfl (fun bt h' hs' => ?_); conv => whnf)
      | (refine Ck.slice (by omega) (by omega) (by omega) (by decide) ?_; conv => whnf))
    rename_i bo _ _
    have hs0 : St h0 h' ((bt, row (bools (List.replicate n false))) :: (bo, row (ints (tab (2 * n) fun _ => 0))) :: []) := by
      rw [← tab_replicate]
      exact hs'
    refine AW.loop1 (fun (i : Nat) => [(0, .slice ba 0 (2 * n) Ca), (1, .slice bb 0 (2 * n) Cb), (7, .int .i64 n), (8, .slice bo 0 (2 * n) (2 * n)), (9, .slice bt 0 n n), (10, .int .i64 i)])
      (fun i h' => i ≤ 2 * n ∧ St h0 h' ((bt, row (bools (marksAll n (ga a) (ga b) ((List.range i).map (startOf n)) (List.replicate n false)))) :: (bo, row (ints (tab (2 * n) fun k => if k < i then wayP n (ga a) (ga b) k else 0))) :: [])) (fun i => 2 * n - i) 0
      (Less.cons rfl (Less.cons rfl (Less.cons rfl (Less.cons rfl (Less.cons rfl (Less.cons rfl (Less.nil _))))))) ⟨by omega, by rw [show (fun k => if k < 0 then wayP n (ga a) (ga b) k else 0) = fun _ => 0 from funext fun k => if_neg (by omega)]; exact hs0⟩ ?_
    rintro i h1 ⟨hi, hs1⟩
    have lm : (marksAll n (ga a) (ga b) ((List.range i).map (startOf n)) (List.replicate n false)).length = n := by rw [marksAll_len]; simp
    repeat' (first
      | refine AW.seq ?_
      | (refine AW.region ?_; conv => whnf)
      | refine AW.block ?_
      | (refine AW.skip ?_; conv => whnf)
      | (refine AW.exit ?_; conv => whnf)
      | refine AW.cond (by rfl) ?_
      | (refine Br.dec (fun hc => ?_) (fun hc => ?_) <;> conv => whnf)
      | (refine Wr.i64 (by omega) ?_; conv => whnf))
    · have nx := marksS_next n (ga a) (ga b) i (List.replicate n false)
      have wt := wayS_tab (n := n) (A := ga a) (B := ga b) (i := i)
      have e0 := en (startOf n i) (startOf_is (by omega))
      generalize marksAll n (ga a) (ga b) ((List.range i).map (startOf n)) (List.replicate n false) = s0 at *
      refine AW.loop4 (fun (up : Bool) (x f : Nat) (u : List Bool) => [(0, .slice ba 0 (2 * n) Ca), (1, .slice bb 0 (2 * n) Cb), (7, .int .i64 n), (8, .slice bo 0 (2 * n) (2 * n)), (9, .slice bt 0 n n), (10, .int .i64 i), (11, .bool up), (12, .int .i64 x)])
        (fun up x f u h' => x < 2 * n ∧ u.length = n ∧ endsW n (ga a) (ga b) f (if up then x else 2 * n + x) = true ∧ wayV n (ga a) (ga b) (4 * n) (startOf n i) = wayV n (ga a) (ga b) f (if up then x else 2 * n + x) ∧ wayM n (ga a) (ga b) (4 * n) (startOf n i) s0 = wayM n (ga a) (ga b) f (if up then x else 2 * n + x) u ∧
          St h0 h' ((bt, row (bools u)) :: (bo, row (ints (tab (2 * n) fun k => if k < i then wayP n (ga a) (ga b) k else 0))) :: [])) (fun _ _ f _ => f) (decide ((i : Int) < n)) i (4 * n) s0
        (Less.cons rfl (Less.cons rfl (Less.cons rfl (Less.cons rfl (Less.cons rfl (Less.cons rfl (Less.cons rfl (Less.cons rfl (Less.nil _))))))))) ?_ ?_
      · have e1 : (if decide ((i : Int) < n) = true then i else 2 * n + i) = startOf n i := by
          by_cases hin : i < n
          · rw [if_pos (by simp; omega), startOf_up hin]
          · rw [if_neg (by simp; omega), startOf_dn hin]
        rw [e1]
        exact ⟨by omega, lm, e0, rfl, rfl, hs1⟩
      rintro up x f u h2 ⟨hx, lu, he, hv, hm, hs2⟩
      obtain ⟨f, rfl⟩ : ∃ g, f = g + 1 := ⟨f - 1, by cases f with | zero => cases he | succ f => rfl⟩
      cases up with
      | true =>
        rw [if_pos rfl] at he hv hm
        have ex : a.getD (x : Int).toNat 0 = (ga a x : Int) ∧ ga a x < 2 * n := ia x hx
        have sx := step_up (n := n) (A := ga a) (B := ga b) hx
        by_cases hlt : ga a x < n
        · rw [if_pos hlt] at sx
          rw [wayV_end sx, endV, if_pos hx] at hv
          rw [wayM_end sx] at hm
          repeat' (first
            | refine AW.seq ?_
            | (refine AW.region ?_; conv => whnf)
            | refine AW.block ?_
            | (refine AW.exit ?_; conv => whnf)
            | refine AW.cond (by rfl) ?_
            | (refine Br.tt ?_; conv => whnf)
            | (refine Br.dt (by omega) ?_; conv => whnf)
            | (refine Wr.i64 (by omega) ?_; conv => whnf)
            | (refine Ck.mk (by omega) ?_; conv => whnf)
            | (refine Has.loadZ (by first | assumption | exact St.has (by assumption) (by repeat first | exact .head _ | apply List.Mem.tail) | exact St.arg (by assumption) (by assumption)) rfl (by first | (simp; done) | omega | (simp only [List.length_set, List.length_append, List.length_cons, List.length_nil, List.length_replicate, tab_length]; omega) | (simp; omega)) ?_; conv => whnf)
            | (refine StoreG.stZ (by assumption) (by repeat first | exact .here | apply Spot.there) rfl (by first | (simp; done) | omega | (simp only [List.length_set, List.length_append, List.length_cons, List.length_nil, List.length_replicate, tab_length]; omega) | (simp; omega)) (fun h' hs' => ?_); conv => whnf))
          refine ⟨i + 1, (Less.cons rfl (Less.cons rfl (Less.cons rfl (Less.cons rfl (Less.cons rfl (Less.cons rfl (Less.nil _))))))), ⟨by omega, ?_⟩, by omega⟩
          rw [nx, hm, wt, hv]
          rw [tab_set, ex.1] at hs'
          exact hs'
        · rw [if_neg hlt] at sx
          rw [wayV_go sx] at hv
          rw [wayM_go sx, mid_dn] at hm
          rw [endsW_go sx] at he
          repeat' (first
            | refine AW.seq ?_
            | (refine AW.region ?_; conv => whnf)
            | refine AW.block ?_
            | (refine AW.skip ?_; conv => whnf)
            | refine AW.cond (by rfl) ?_
            | (refine Br.tt ?_; conv => whnf)
            | (refine Br.df (by omega) ?_; conv => whnf)
            | (refine Wr.i64 (by omega) ?_; conv => whnf)
            | (refine Ck.mk (by omega) ?_; conv => whnf)
            | (refine Has.loadZ (by first | assumption | exact St.has (by assumption) (by repeat first | exact .head _ | apply List.Mem.tail) | exact St.arg (by assumption) (by assumption)) rfl (by first | (simp; done) | omega | (simp only [List.length_set, List.length_append, List.length_cons, List.length_nil, List.length_replicate, tab_length]; omega) | (simp; omega)) ?_; conv => whnf)
            | (refine StoreG.stB (by assumption) (by repeat first | exact .here | apply Spot.there) rfl (by first | (simp; done) | omega | (simp only [List.length_set, List.length_append, List.length_cons, List.length_nil, List.length_replicate, tab_length]; omega) | (simp; omega)) (fun h' hs' => ?_); conv => whnf))
          have e1 : (2 * (n : Int) - 1 - a.getD (x : Int).toNat 0) = ((2 * n - 1 - ga a x : Nat) : Int) := by omega
          have e2 : (2 * (n : Int) - 1 - a.getD (x : Int).toNat 0).toNat = 2 * n - 1 - ga a x := by omega
          rw [e1]
          rw [e2] at hs'
          exact ⟨false, 2 * n - 1 - ga a x, f, _, (Less.cons rfl (Less.cons rfl (Less.cons rfl (Less.cons rfl (Less.cons rfl (Less.cons rfl (Less.cons rfl (Less.cons rfl (Less.nil _))))))))), ⟨by omega, by simpa using lu, he, hv, hm, hs'⟩, by omega⟩
      | false =>
        rw [if_neg (by decide)] at he hv hm
        have ex : b.getD (x : Int).toNat 0 = (ga b x : Int) ∧ ga b x < 2 * n := ib x hx
        have sx := step_dn (n := n) (A := ga a) (B := ga b) (x := x)
        by_cases hlt : n ≤ ga b x
        · rw [if_pos hlt] at sx
          rw [wayV_end sx, endV, if_neg (by omega), show 2 * n + x - 2 * n = x by omega] at hv
          rw [wayM_end sx] at hm
          repeat' (first
            | refine AW.seq ?_
            | (refine AW.region ?_; conv => whnf)
            | refine AW.block ?_
            | (refine AW.exit ?_; conv => whnf)
            | refine AW.cond (by rfl) ?_
            | (refine Br.ff ?_; conv => whnf)
            | (refine Br.dt (by omega) ?_; conv => whnf)
            | (refine Wr.i64 (by omega) ?_; conv => whnf)
            | (refine Ck.mk (by omega) ?_; conv => whnf)
            | (refine Has.loadZ (by first | assumption | exact St.has (by assumption) (by repeat first | exact .head _ | apply List.Mem.tail) | exact St.arg (by assumption) (by assumption)) rfl (by first | (simp; done) | omega | (simp only [List.length_set, List.length_append, List.length_cons, List.length_nil, List.length_replicate, tab_length]; omega) | (simp; omega)) ?_; conv => whnf)
            | (refine StoreG.stZ (by assumption) (by repeat first | exact .here | apply Spot.there) rfl (by first | (simp; done) | omega | (simp only [List.length_set, List.length_append, List.length_cons, List.length_nil, List.length_replicate, tab_length]; omega) | (simp; omega)) (fun h' hs' => ?_); conv => whnf))
          refine ⟨i + 1, (Less.cons rfl (Less.cons rfl (Less.cons rfl (Less.cons rfl (Less.cons rfl (Less.cons rfl (Less.nil _))))))), ⟨by omega, ?_⟩, by omega⟩
          rw [nx, hm, wt, hv]
          rw [tab_set, ex.1] at hs'
          exact hs'
        · rw [if_neg hlt] at sx
          rw [wayV_go sx] at hv
          rw [wayM_go sx, mid_up (by omega)] at hm
          rw [endsW_go sx] at he
          repeat' (first
            | refine AW.seq ?_
            | (refine AW.region ?_; conv => whnf)
            | refine AW.block ?_
            | (refine AW.skip ?_; conv => whnf)
            | refine AW.cond (by rfl) ?_
            | (refine Br.ff ?_; conv => whnf)
            | (refine Br.df (by omega) ?_; conv => whnf)
            | (refine Wr.i64 (by omega) ?_; conv => whnf)
            | (refine Ck.mk (by omega) ?_; conv => whnf)
            | (refine Has.loadZ (by first | assumption | exact St.has (by assumption) (by repeat first | exact .head _ | apply List.Mem.tail) | exact St.arg (by assumption) (by assumption)) rfl (by first | (simp; done) | omega | (simp only [List.length_set, List.length_append, List.length_cons, List.length_nil, List.length_replicate, tab_length]; omega) | (simp; omega)) ?_; conv => whnf)
            | (refine StoreG.stB (by assumption) (by repeat first | exact .here | apply Spot.there) rfl (by first | (simp; done) | omega | (simp only [List.length_set, List.length_append, List.length_cons, List.length_nil, List.length_replicate, tab_length]; omega) | (simp; omega)) (fun h' hs' => ?_); conv => whnf))
          have e1 : (2 * (n : Int) - 1 - b.getD (x : Int).toNat 0) = ((2 * n - 1 - ga b x : Nat) : Int) := by omega
          have e2 : (b.getD (x : Int).toNat 0).toNat = ga b x := rfl
          rw [e1]
          rw [e2] at hs'
          exact ⟨true, 2 * n - 1 - ga b x, f, _, (Less.cons rfl (Less.cons rfl (Less.cons rfl (Less.cons rfl (Less.cons rfl (Less.cons rfl (Less.cons rfl (Less.cons rfl (Less.nil _))))))))), ⟨by omega, by simpa using lu, he, hv, hm, hs'⟩, by omega⟩
    · rw [show i = 2 * n by omega, show marksAll n (ga a) (ga b) ((List.range (2 * n)).map (startOf n)) (List.replicate n false) = seenW n (ga a) (ga b) from rfl, show (tab (2 * n) fun k => if k < 2 * n then wayP n (ga a) (ga b) k else 0) = tab (2 * n) (wayP n (ga a) (ga b)) from tab_congr fun k hk => if_pos hk] at hs1
      have cl : Cl n (upA a n) (ga b) (seenW n (ga a) (ga b)) := (seenW_cl iA iB).1
      have pe : mulD a b = (tab (2 * n) (wayP n (ga a) (ga b)), ((roundsFr (upA a n) (ga b) n (seenW n (ga a) (ga b)) n).2 : Int), true) := by rw [mulD, if_pos h, prodL_eq ea, loopsD_eq ea]
      generalize seenW n (ga a) (ga b) = S at *
      refine AW.loop3 (fun (s : List Bool) (k i : Nat) => [(0, .slice ba 0 (2 * n) Ca), (1, .slice bb 0 (2 * n) Cb), (7, .int .i64 n), (8, .slice bo 0 (2 * n) (2 * n)), (9, .slice bt 0 n n), (13, .int .i64 k), (14, .int .i64 i)])
        (fun s k i h' => i ≤ n ∧ roundsFr (upA a n) (ga b) n S i = (s, k) ∧ St h0 h' ((bt, row (bools s)) :: (bo, row (ints (tab (2 * n) (wayP n (ga a) (ga b))))) :: [])) (fun _ _ i => n - i) S 0 0
        (Less.cons rfl (Less.cons rfl (Less.cons rfl (Less.cons rfl (Less.cons rfl (Less.cons rfl (Less.cons rfl (Less.nil _)))))))) ⟨by omega, rfl, hs1⟩ ?_
      rintro s k i h2 ⟨hi, hr, hs2⟩
      have bk := roundsFr_le (n := n) (upA a n) (ga b) S i
      have cs := roundsFr_cl cl i hi
      rw [hr] at bk cs
      dsimp only at bk cs
      have ls := cs.1
      repeat' (first
        | refine AW.seq ?_
        | (refine AW.region ?_; conv => whnf)
        | refine AW.block ?_
        | (refine AW.skip ?_; conv => whnf)
        | (refine AW.ret ?_; conv => whnf)
        | (refine AW.exit ?_; conv => whnf)
        | refine AW.cond (by rfl) ?_
        | (refine Br.dec (fun hc => ?_) (fun hc => ?_) <;> conv => whnf)
        | (refine Br.mk (fun hc => ?_) (fun hc => ?_) <;> conv => whnf)
        | (refine Wr.i64 (by omega) ?_; conv => whnf)
        | (refine Ck.mk (by omega) ?_; conv => whnf)
        | (refine Has.loadB (by first | assumption | exact St.has (by assumption) (by repeat first | exact .head _ | apply List.Mem.tail) | exact St.arg (by assumption) (by assumption)) rfl (by first | (simp; done) | omega | (simp only [List.length_set, List.length_append, List.length_cons, List.length_nil, List.length_replicate, tab_length]; omega) | (simp; omega)) ?_; conv => whnf))
      · exact ⟨s, k, i + 1, (Less.cons rfl (Less.cons rfl (Less.cons rfl (Less.cons rfl (Less.cons rfl (Less.cons rfl (Less.cons rfl (Less.nil _)))))))), ⟨by omega, roundsFr_seen hr hc, hs2⟩, by omega⟩
      · have hci : s.getD i false = false := hc
        refine AW.loop3 (fun (u : List Bool) (x f : Nat) => [(0, .slice ba 0 (2 * n) Ca), (1, .slice bb 0 (2 * n) Cb), (7, .int .i64 n), (8, .slice bo 0 (2 * n) (2 * n)), (9, .slice bt 0 n n), (13, .int .i64 ((k + 1 : Nat) : Int)), (14, .int .i64 i), (15, .int .i64 x)])
          (fun u x f h' => x < n ∧ s.getD x false = false ∧ u.length = n ∧ u.count false ≤ f ∧ trail (upA a n) (ga b) n s i = trail (upA a n) (ga b) f u x ∧ St h0 h' ((bt, row (bools u)) :: (bo, row (ints (tab (2 * n) (wayP n (ga a) (ga b))))) :: [])) (fun _ _ f => f) s i n
          (Less.cons rfl (Less.cons rfl (Less.cons rfl (Less.cons rfl (Less.cons rfl (Less.cons rfl (Less.cons rfl (Less.cons rfl (Less.nil _))))))))) ⟨by omega, hci, ls, by rw [← ls]; exact List.count_le_length, rfl, hs2⟩ ?_
        rintro u x f h3 ⟨hx, hsx, lu, hf, ht, hs3⟩
        have cx := cs.2 x hx hsx
        have cy := cs.2 (upA a n x) cx.1.1 cx.1.2.1
        have ej : (2 * (n : Int) - 1 - (x : Int)).toNat = 2 * n - 1 - x := by omega
        have ea3 : a.getD (2 * (n : Int) - 1 - (x : Int)).toNat 0 = (ga a (2 * n - 1 - x) : Int) ∧ ga a (2 * n - 1 - x) < 2 * n := by rw [ej]; exact ia _ (by omega)
        have eu : 2 * (n : Int) - 1 - a.getD (2 * (n : Int) - 1 - (x : Int)).toNat 0 = (upA a n x : Int) := by rw [upA_eq]; omega
        have hu := cx.1.1
        have eb3 : b.getD (2 * (n : Int) - 1 - a.getD (2 * (n : Int) - 1 - (x : Int)).toNat 0).toNat 0 = (ga b (upA a n x) : Int) ∧ ga b (upA a n x) < n := by rw [eu]; exact ⟨(ib _ (by omega)).1, cy.2.1⟩
        repeat' (first
          | refine AW.seq ?_
          | (refine AW.region ?_; conv => whnf)
          | refine AW.block ?_
          | (refine AW.skip ?_; conv => whnf)
          | (refine AW.exit ?_; conv => whnf)
          | refine AW.cond (by rfl) ?_
          | refine Br.not ?_
          | (refine Br.mk (fun hc => ?_) (fun hc => ?_) <;> conv => whnf)
          | (refine Wr.i64 (by omega) ?_; conv => whnf)
          | (refine Ck.mk (by omega) ?_; conv => whnf)
          | (refine Has.loadB (by first | assumption | exact St.has (by assumption) (by repeat first | exact .head _ | apply List.Mem.tail) | exact St.arg (by assumption) (by assumption)) rfl (by first | (simp; done) | omega | (simp only [List.length_set, List.length_append, List.length_cons, List.length_nil, List.length_replicate, tab_length]; omega) | (simp; omega)) ?_; conv => whnf)
          | (refine Has.loadZ (by first | assumption | exact St.has (by assumption) (by repeat first | exact .head _ | apply List.Mem.tail) | exact St.arg (by assumption) (by assumption)) rfl (by first | (simp; done) | omega | (simp only [List.length_set, List.length_append, List.length_cons, List.length_nil, List.length_replicate, tab_length]; omega) | (simp; omega)) ?_; conv => whnf)
          | (refine StoreG.stB (by assumption) (by repeat first | exact .here | apply Spot.there) rfl (by first | (simp; done) | omega | (simp only [List.length_set, List.length_append, List.length_cons, List.length_nil, List.length_replicate, tab_length]; omega) | (simp; omega)) (fun h' hs' => ?_); conv => whnf))
        · have hcx : u.getD x false = true := hc
          rw [trail_seen _ _ _ hcx] at ht
          have rn := roundsFr_new hr hci
          rw [ht] at rn
          exact ⟨u, k + 1, i + 1, (Less.cons rfl (Less.cons rfl (Less.cons rfl (Less.cons rfl (Less.cons rfl (Less.cons rfl (Less.cons rfl (Less.nil _)))))))), ⟨by omega, rn, hs3⟩, by omega⟩
        · rw [eb3.1]
          have hcx : u.getD x false = false := hc
          have c1 := count_mark (by omega) hcx
          have c2 := count_more (s := u.set x true) (x := upA a n x) (by simp; omega)
          obtain ⟨f, rfl⟩ : ∃ g, f = g + 1 := ⟨f - 1, by omega⟩
          rw [trail_step _ _ _ hcx] at ht
          rw [eu] at hs'
          exact ⟨_, _, f, (Less.cons rfl (Less.cons rfl (Less.cons rfl (Less.cons rfl (Less.cons rfl (Less.cons rfl (Less.cons rfl (Less.cons rfl (Less.nil _))))))))), ⟨cy.2.1, cy.2.2.1, by simpa using lu, by omega, ht, hs'⟩, by omega⟩
      · rw [show i = n by omega] at hr
        rw [hr] at pe
        exact RetM.mk' pe (by simp) (newOf hs2 (by repeat first | exact .head _ | apply List.Mem.tail))
  · refine AC.enter Try.func11 Try.call11 rfl Try.ntmps11 (of_decide_eq_true (by rfl)) ?_
    repeat' (first
      | refine AW.seq ?_
      | (refine AW.region ?_; conv => whnf)
      | (refine AW.skip ?_; conv => whnf)
      | (refine AW.ret ?_; conv => whnf)
      | refine AW.cond (by rfl) ?_
      | (refine (sIsDiagram_ok _ _ _ _ _ (by first | assumption | exact St.has (by assumption) (by repeat first | exact .head _ | apply List.Mem.tail) | exact St.arg (by assumption) (by assumption)) (by first | rfl | omega) (by first | (simp; done) | omega | (simp only [List.length_set, List.length_append, List.length_cons, List.length_nil, List.length_replicate, tab_length]; omega) | (simp; omega))).mono ?_; rintro v h' ⟨rfl, e'⟩; subst h'; conv => whnf)
      | (refine Br.tt ?_; conv => whnf)
      | refine Br.not ?_
      | (refine Br.t (by assumption) ?_; conv => whnf)
      | (refine Br.f (by assumption) ?_; conv => whnf)
      | (refine Br.dec (fun hc => ?_) (fun hc => ?_) <;> conv => whnf)
      | (refine Br.mk (fun hc => ?_) (fun hc => ?_) <;> conv => whnf)
      | (refine Ck.mk (by omega) ?_; conv => whnf)
      | (refine NewG.st (by assumption) (fun bt h' hs' => ?_); conv => whnf))
    all_goals first
      | exact RetM.mk' (if_neg h) rfl hs'.toNew
      | (exfalso; exact h ⟨by assumption, by assumption, by omega⟩)

theorem mulD_len (a b : List Int) : (mulD a b).1.length ≤ 16 := by
  unfold mulD
  split
  · rename_i h
    have := (isM_spec (isNC_spec (isD_spec h.1).2)).1
    simp only [prodL, tab_length]
    exact this
  · simp


end Go.Proofs.Ytdfdlnjijccpeaa
