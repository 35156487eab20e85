/-
  Each row that is a matching without crossings is one of those of paths, and pairs of such rows obey the laws of loops.
  It holds for rows of at most ten numbers.
-/
import Derived.Test.YtdfdlnjijccpeaaC20
import Derived.Test.YtdfdlnjijccpeaaC32
import Derived.Test.YtdfdlnjijccpeaaC50
set_option linter.unusedVariables false
set_option linter.unusedSimpArgs false
namespace Go.Proofs.Ytdfdlnjijccpeaa
open Go.Proofs.Ytdfdlnjijccpeaa.Ab Go.Proofs.Ytdfdlnjijccpeaa.Pl

/-! all beginnings of rows that may be matchings without crossings -/
def nextOk (p : List Int) (k : Nat) (x : Int) : Bool := (List.range k).all fun i => (!(p.getD i 0 == (k : Int)) || x == (i : Int)) && ((!(x == (i : Int)) || p.getD i 0 == (k : Int)) && !(decide ((k : Int) < p.getD i 0) && decide (p.getD i 0 < x)))
def levs (n : Nat) : Nat → List (List Int)
  | 0 => [[]]
  | k + 1 => (levs n k).flatMap fun p => ((List.range n).filter fun x => !(x == k) && nextOk p k (x : Int)).map fun x : Nat => p ++ [(x : Int)]
theorem levs_mem {l : List Int} (h : isNC l = true) : ∀ k, k ≤ l.length → l.take k ∈ levs l.length k
  | 0, _ => by rw [List.take_zero]; exact .head _
  | k + 1, hk => by
    have ih := levs_mem h k (by omega)
    have hm := isM_spec (isNC_spec h)
    have ok := hm.2 k (by omega)
    have nc : ∀ a c, a < l.length → c < l.length → ¬ crossAt l a c := by
      unfold isNC at h
      rw [Bool.and_eq_true, decide_eq_true_iff] at h
      exact fun a c ha hc => h.2 a ha c hc
    obtain ⟨o1, o2, o3⟩ := ok
    have e0 : l.getD k 0 = l[k] := by simp [List.getD, show k < l.length by omega]
    refine List.mem_flatMap.2 ⟨_, ih, List.mem_map.2 ⟨(l.getD k 0).toNat, List.mem_filter.2 ⟨List.mem_range.2 (by omega), ?_⟩, ?_⟩⟩
    · rw [Bool.and_eq_true]
      refine ⟨by
        show (!((l.getD k 0).toNat == k)) = true
        rw [Bool.not_eq_true', beq_eq_false_iff_ne]
        omega, List.all_eq_true.2 fun i hi => ?_⟩
      have hi := List.mem_range.1 hi
      have e1 : (l.take k).getD i 0 = l.getD i 0 := by
        simp only [List.getD, List.getElem?_take, hi, if_true]
      have e2 : (((l.getD k 0).toNat : Nat) : Int) = l.getD k 0 := by omega
      rw [e1, e2]
      obtain ⟨p1, p2, p3⟩ := hm.2 i (by omega)
      have c1 := nc i k (by omega) (by omega)
      unfold crossAt at c1
      have f1 : l.getD i 0 = (k : Int) → l.getD k 0 = (i : Int) := fun e => by
        rw [e] at p3
        exact p3
      have f2 : l.getD k 0 = (i : Int) → l.getD i 0 = (k : Int) := fun e => by
        rw [e] at o3
        exact o3
      simp only [Bool.and_eq_true, Bool.or_eq_true, Bool.not_eq_true', beq_eq_false_iff_ne, beq_iff_eq, Bool.and_eq_false_iff, decide_eq_false_iff_not]
      refine ⟨?_, ?_, ?_⟩
      · by_cases e : l.getD i 0 = (k : Int)
        · exact .inr (f1 e)
        · exact .inl e
      · by_cases e : l.getD k 0 = (i : Int)
        · exact .inr (f2 e)
        · exact .inl e
      · omega
    · show l.take k ++ [(((l.getD k 0).toNat : Nat) : Int)] = l.take (k + 1)
      rw [show (((l.getD k 0).toNat : Nat) : Int) = l[k] by rw [← e0]; omega]
      exact (List.take_succ_eq_append_getElem (by omega)).symm
def eqI : List Int → List Int → Bool
  | [], [] => true
  | x :: l, y :: m => x == y && eqI l m
  | _, _ => false
theorem eqI_eq : ∀ {l m : List Int}, eqI l m = true → l = m
  | [], [], _ => rfl
  | x :: l, y :: m, h => by
    unfold eqI at h
    rw [Bool.and_eq_true, beq_iff_eq] at h
    rw [h.1, eqI_eq h.2]
  | [], y :: m, h => by cases h
  | x :: l, [], h => by cases h
set_option maxRecDepth 100000 in
theorem levs_fine : (List.range 6).all (fun n => (levs (2 * n) (2 * n)).all fun l => (dyP n).any fun w => eqI (ptL w) l) = true := by decide +kernel
theorem nc_list {l : List Int} {n : Nat} (h : isNC l = true) (e : l.length = 2 * n) (hn : n ≤ 5) : ∃ w, w ∈ dyP n ∧ l = ptL w := by
  have c := List.all_eq_true.1 levs_fine n (List.mem_range.2 (by omega))
  have m := levs_mem h l.length (Nat.le_refl _)
  rw [List.take_length, e] at m
  obtain ⟨w, hw, q⟩ := List.any_eq_true.1 (List.all_eq_true.1 c l m)
  exact ⟨w, hw, (eqI_eq q).symm⟩

/-! pairs -/
set_option maxRecDepth 100000 in
theorem swap_fine : (List.range 6).all (fun n => (dyP n).all fun v => (dyP n).all fun w => lpW v w == lpW w v) = true := by decide +kernel
set_option maxRecDepth 100000 in
theorem self_fine : (List.range 6).all (fun n => (dyP n).all fun v => lpW v v == n) = true := by decide +kernel
def turnW (w : List UInt8) : List Int := (turnM (ptL w) 1).1
set_option maxRecDepth 100000 in
theorem turn_fine : (List.range 6).all (fun n => n == 0 || (dyP n).all fun v => (turnM (ptL v) 1).2 && (dyP n).any fun w => eqI (ptL w) (turnW v)) = true := by decide +kernel
set_option maxRecDepth 100000 in
theorem turn2_fine : (List.range 6).all (fun n => n == 0 || (dyP n).all fun v => (dyP n).all fun w => loopsN (ga (turnW v)) (ga (turnW w)) (2 * n) == lpW v w) = true := by decide +kernel

theorem fine_at {n : Nat} {P : Nat → List UInt8 → Bool} (c : (List.range 6).all (fun n => (dyP n).all fun v => P n v) = true) (hn : n ≤ 5) {v : List UInt8} (hv : v ∈ dyP n) : P n v = true :=
  List.all_eq_true.1 (List.all_eq_true.1 c n (List.mem_range.2 (by omega))) v hv
theorem okP {n : Nat} {v : List UInt8} (hn : n ≤ 6) (h : v ∈ dyP n) : okW n v = true := List.all_eq_true.1 (paths_fine n (by omega)) _ h
theorem ptL_nc {n : Nat} {v : List UInt8} (hn : n ≤ 6) (hv : v ∈ dyP n) : isNC (ptL v) = true := (okW_spec (okP hn hv)).2.2.2.2
theorem ptL_size {n : Nat} {v : List UInt8} (hn : n ≤ 6) (hv : v ∈ dyP n) : (ptL v).length = 2 * n := by rw [ptL_len, (okW_spec (okP hn hv)).1]
theorem loops_pair {n : Nat} {v w : List UInt8} (hn : n ≤ 5) (hv : v ∈ dyP n) (hw : w ∈ dyP n) : loopsOf (ptL v) (ptL w) = lpW v w := by
  rw [loopsOf_yes (ptL_nc (by omega) hv) (ptL_nc (by omega) hw) (by rw [ptL_size (by omega) hv, ptL_size (by omega) hw])]
  rfl
theorem loops_not {a b : List Int} (h : ¬ (isNC a = true ∧ isNC b = true ∧ a.length = b.length)) : loopsOf a b = -1 := if_neg h
structure PairOk (a b : List Int) (k : Int) : Prop where
  ab : loopsOf a b = k
  ba : loopsOf b a = k
  self : loopsOf a a = (a.length : Int).tdiv 2
  top : k ≤ (a.length : Int).tdiv 2
  low : -1 ≤ k
  turn : (turn2 a b = ([], [], false) ∧ k < 1) ∨ ∃ x y, turn2 a b = (x, y, true) ∧ loopsOf x y = k ∧ x.length ≤ 1000 ∧ y.length ≤ 1000
theorem pair_ok {n : Nat} {v : List UInt8} (hn : n ≤ 5) (hv : v ∈ dyP n) (b : List Int) : ∃ k, PairOk (ptL v) b k := by
  have la := ptL_size (by omega) hv
  have na := ptL_nc (by omega) hv
  have half : ((ptL v).length : Int).tdiv 2 = n := by
    rw [la]
    have := half_len (2 * n)
    omega
  have sf : loopsOf (ptL v) (ptL v) = ((ptL v).length : Int).tdiv 2 := by
    rw [loops_pair hn hv hv, half]
    have := fine_at (P := fun n v => lpW v v == n) self_fine hn hv
    simp only [beq_iff_eq] at this
    rw [this]
  by_cases h : isNC b = true ∧ b.length = 2 * n
  · obtain ⟨w, hw, rfl⟩ := nc_list h.1 h.2 hn
    have e1 := loops_pair hn hv hw
    have e2 := loops_pair hn hw hv
    have sw := List.all_eq_true.1 (fine_at (P := fun n v => (dyP n).all fun w => lpW v w == lpW w v) swap_fine hn hv) w hw
    simp only [beq_iff_eq] at sw
    have tp : lpW v w ≤ n := by
      have := List.all_eq_true.1 (List.all_eq_true.1 (loops_fine n (by omega)) v hv) w hw
      exact of_decide_eq_true this
    refine ⟨lpW v w, e1, by rw [e2, sw], sf, by rw [half]; omega, by omega, ?_⟩
    by_cases c : loopsOf (ptL v) (ptL w) < 1
    · exact .inl ⟨if_pos c, by rw [← e1]; exact c⟩
    · right
      have n0 : n ≠ 0 := fun e => by subst e; rw [e1] at c; omega
      refine ⟨_, _, if_neg c, ?_, by have := turnM_len (ptL v) 1; omega, by have := turnM_len (ptL w) 1; omega⟩
      have tf : ∀ v, v ∈ dyP n → (turnM (ptL v) 1).2 = true ∧ ∃ u, u ∈ dyP n ∧ ptL u = (turnM (ptL v) 1).1 := fun v hv => by
        have := List.all_eq_true.1 turn_fine n (List.mem_range.2 (by omega))
        rw [Bool.or_eq_true, beq_iff_eq] at this
        have := List.all_eq_true.1 (this.resolve_left n0) v hv
        rw [Bool.and_eq_true] at this
        obtain ⟨u, hu, q⟩ := List.any_eq_true.1 this.2
        exact ⟨this.1, u, hu, eqI_eq q⟩
      obtain ⟨_, p, hp, q⟩ := tf v hv
      obtain ⟨_, r, hr, s⟩ := tf w hw
      have t2 := List.all_eq_true.1 turn2_fine n (List.mem_range.2 (by omega))
      rw [Bool.or_eq_true, beq_iff_eq] at t2
      have t2 := List.all_eq_true.1 (List.all_eq_true.1 (t2.resolve_left n0) v hv) w hw
      rw [beq_iff_eq] at t2
      rw [← t2, ← q, ← s, loops_pair hn hp hr]
      unfold lpW turnW
      rw [← q, ← s, ptL_size (by omega) hp]
  · have no1 : loopsOf (ptL v) b = -1 := loops_not fun g => h ⟨g.2.1, by omega⟩
    have no2 : loopsOf b (ptL v) = -1 := loops_not fun g => h ⟨g.1, by omega⟩
    exact ⟨-1, no1, no2, sf, by rw [half]; omega, by omega, .inl ⟨if_pos (by rw [no1]; omega), by omega⟩⟩
theorem partner_cases (p : List Int) : (∃ r, mpD p = (r, true) ∧ loopsOf p r = 1 ∧ r.length ≤ 1000) ∨ mpD p = ([], false) := by
  have hl := mpD_len p
  by_cases h : isNC p = true ∧ 2 ≤ p.length ∧ p.length ≤ 12
  · have e : mpD p = mpFind p (dyP (p.length / 2)) := if_pos h
    rw [e] at hl ⊢
    unfold mpFind at hl ⊢
    cases hf : (dyP (p.length / 2)).find? fun w => loopsOf p (ptL w) == 1 with
    | none => exact .inr rfl
    | some w =>
      rw [hf] at hl
      have := List.find?_some hf
      exact .inl ⟨ptL w, rfl, by simpa using this, hl⟩
  · exact .inr (if_neg h)

/-! tables -/
def tabOk (n : Nat) : Bool :=
  eqI [(ltD (n : Int)).1.sum, (ltD (n : Int)).1.getD n 0, if n = 0 then 0 else cmD (n : Int)] [catN (n : Int) * catN (n : Int), catN (n : Int), if n = 0 then 0 else (ltD (n : Int)).1.getD 1 0] &&
    (List.range 8).all fun k => decide (-1000000000 ≤ ((ltD (n : Int)).1.take k).sum ∧ ((ltD (n : Int)).1.take k).sum ≤ 1000000000 ∧ -1000 ≤ catN (n : Int) ∧ catN (n : Int) ≤ 1000)
set_option maxRecDepth 100000 in
theorem table_fine : (List.range 5).all tabOk = true := by decide +kernel
structure TabOk (n : Nat) (L : List Int) : Prop where
  is : ltD (n : Int) = (L, true)
  len : L.length = n + 1
  sum : L.sum = catN (n : Int) * catN (n : Int)
  last : L.getD ((n : Nat) : Int).toNat 0 = catN (n : Int)
  one : 0 < n → cmD (n : Int) = L.getD (1 : Int).toNat 0
  bd : ∀ k, k ≤ L.length → -1000000000 ≤ (L.take k).sum ∧ (L.take k).sum ≤ 1000000000
  cat : -1000 ≤ catN (n : Int) ∧ catN (n : Int) ≤ 1000
  cc : -1000000000 ≤ catN (n : Int) * catN (n : Int) ∧ catN (n : Int) * catN (n : Int) ≤ 1000000000
theorem table_cases {m : Int} (hm : m ≤ 4) : (∃ (n : Nat) (L : List Int), m = n ∧ n ≤ 4 ∧ TabOk n L) ∨ ltD m = ([], false) := by
  by_cases h : 0 ≤ m ∧ m ≤ 5
  · left
    obtain ⟨n, rfl⟩ := Int.eq_ofNat_of_zero_le h.1
    have hn : n ≤ 4 := by omega
    have c := List.all_eq_true.1 table_fine n (List.mem_range.2 (by omega))
    unfold tabOk at c
    rw [Bool.and_eq_true] at c
    have q := eqI_eq c.1
    have y := ltD_yes h
    have len : (ltD (n : Int)).1.length = n + 1 := by rw [y.2]; rfl
    injection q with q1 q
    injection q with q2 q
    injection q with q3 q
    refine ⟨n, (ltD (n : Int)).1, rfl, hn, Prod.ext rfl y.1, len, q1, q2, fun h0 => ?_, fun k hk => ?_, ?_, ?_⟩
    · rw [if_neg (by omega), if_neg (by omega)] at q3
      exact q3
    · have := of_decide_eq_true (List.all_eq_true.1 c.2 k (List.mem_range.2 (by omega)))
      omega
    · have := of_decide_eq_true (List.all_eq_true.1 c.2 0 (List.mem_range.2 (by omega)))
      omega
    · have := of_decide_eq_true (List.all_eq_true.1 c.2 (n + 1) (List.mem_range.2 (by omega)))
      rw [← len, List.take_length, q1] at this
      omega
  · right
    exact if_neg h

end Go.Proofs.Ytdfdlnjijccpeaa
