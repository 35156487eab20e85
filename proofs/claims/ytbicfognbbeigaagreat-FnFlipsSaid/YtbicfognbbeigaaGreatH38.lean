/-
  Plain laws of ballot numbers and of the numbers of Schroeder are proved.
  They hold for the sizes that the statements speak of.
-/
import Derived.Test.YtbicfognbbeigaaGreatH0
import Derived.Test.YtbicfognbbeigaaGreatH2
import Derived.Test.YtbicfognbbeigaaGreatGY
import Derived.Test.YtbicfognbbeigaaGreatH1
import Derived.Test.YtbicfognbbeigaaGreatC61
set_option linter.unusedVariables false
set_option linter.unusedSimpArgs false
namespace Go.Proofs.YtbicfognbbeigaaGreat.Pl

/-- the ways of words with so many letters left, from a height: a row by the one before -/
def rowW (g : Nat → Nat) : Nat → Nat
  | 0 => g 1 + g 0
  | h + 1 => g (h + 2) + g (h + 1) + rowW g h
def waysW : Nat → Nat → Nat
  | 0 => fun _ => 1
  | l + 1 => rowW (waysW l)
theorem waysW_zero (h : Nat) : waysW 0 h = 1 := rfl
theorem waysW_low (l : Nat) : waysW (l + 1) 0 = waysW l 1 + waysW l 0 := rfl
theorem waysW_step (l h : Nat) : waysW (l + 1) (h + 1) = waysW l (h + 2) + waysW l (h + 1) + waysW (l + 1) h := rfl
theorem waysW_le : ∀ l h, waysW l h ≤ 3 ^ (2 * l + h) := by
  intro l
  induction l with
  | zero => intro h; exact Nat.pow_pos (by decide)
  | succ l ih =>
    intro h
    induction h with
    | zero =>
      rw [waysW_low]
      have a := ih 1
      have b := ih 0
      have e1 : 3 ^ (2 * (l + 1) + 0) = 9 * 3 ^ (2 * l) := by rw [show 2 * (l + 1) + 0 = 2 * l + 2 by omega, Nat.pow_add]; omega
      have e2 : 3 ^ (2 * l + 1) = 3 * 3 ^ (2 * l) := by rw [Nat.pow_add]; omega
      rw [Nat.add_zero] at b
      omega
    | succ h ih2 =>
      rw [waysW_step]
      have a := ih (h + 2)
      have b := ih (h + 1)
      have e1 : 3 ^ (2 * (l + 1) + (h + 1)) = 27 * 3 ^ (2 * l + h) := by rw [show 2 * (l + 1) + (h + 1) = 2 * l + h + 3 by omega, Nat.pow_add]; omega
      have e2 : 3 ^ (2 * (l + 1) + h) = 9 * 3 ^ (2 * l + h) := by rw [show 2 * (l + 1) + h = 2 * l + h + 2 by omega, Nat.pow_add]; omega
      have e3 : 3 ^ (2 * l + (h + 2)) = 9 * 3 ^ (2 * l + h) := by rw [show 2 * l + (h + 2) = 2 * l + h + 2 by omega, Nat.pow_add]; omega
      have e4 : 3 ^ (2 * l + (h + 1)) = 3 * 3 ^ (2 * l + h) := by rw [show 2 * l + (h + 1) = 2 * l + h + 1 by omega, Nat.pow_add]; omega
      omega

/-! the same, row by row, as a list -/
def scanR : Nat → List Nat → List Nat
  | p, a :: b :: t => (b + a + p) :: scanR (b + a + p) (b :: t)
  | _, _ => []
def rowsR : Nat → List Nat → List Nat
  | 0, r => r
  | l + 1, r => scanR 0 (rowsR l r)
theorem scanR_map (g : Nat → Nat) : ∀ k i p, (i = 0 → p = 0) → (∀ j, i = j + 1 → p = rowW g j) → scanR p ((List.range' i (k + 1)).map g) = (List.range' i k).map (rowW g) := by
  intro k
  induction k with
  | zero => intro i p _ _; rfl
  | succ k ih =>
    intro i p h0 h1
    have e : g (i + 1) + g i + p = rowW g i := by
      cases i with
      | zero => rw [h0 rfl]; rfl
      | succ j => rw [h1 j rfl]; rfl
    have s1 : List.range' i (k + 1 + 1) = i :: (i + 1) :: List.range' (i + 2) k := by rw [List.range'_succ, List.range'_succ]
    have s2 : List.range' (i + 1) (k + 1) = (i + 1) :: List.range' (i + 2) k := by rw [List.range'_succ]
    rw [s1, List.map_cons, List.map_cons, scanR, e, ← List.map_cons, ← s2, ih (i + 1) (rowW g i) (fun h => by omega) (fun j hj => by rw [show j = i by omega]), List.range'_succ, List.map_cons]
theorem rowsR_map : ∀ l m, rowsR l ((List.range' 0 (l + m)).map (waysW 0)) = (List.range' 0 m).map (waysW l) := by
  intro l
  induction l with
  | zero => intro m; rw [Nat.zero_add]; rfl
  | succ l ih =>
    intro m
    rw [rowsR, show l + 1 + m = l + (m + 1) by omega, ih (m + 1), scanR_map _ _ _ _ (fun _ => rfl) (fun j hj => by omega)]
    rfl
theorem waysW_row (n : Nat) : waysW n 0 = (rowsR n (List.replicate (n + 1) 1)).headD 0 := by
  have := rowsR_map n 1
  rw [show (List.range' 0 (n + 1)).map (waysW 0) = List.replicate (n + 1) 1 from List.eq_replicate_iff.2 ⟨by simp, fun b hb => by obtain ⟨x, _, rfl⟩ := List.mem_map.1 hb; rfl⟩] at this
  rw [this]
  rfl

/-! ballot numbers, a row by the one before -/
def rowB (i : Nat) (g : Nat → Nat) : Nat → Nat
  | 0 => 0
  | k + 1 => if k < i then 0 else if k = i then g (k + 1) else g (k + 1) + rowB i g k
def bal : Nat → Nat → Nat
  | 0 => fun _ => 1
  | i + 1 => rowB i (bal i)
theorem bal_zero (k : Nat) : bal 0 k = 1 := rfl
theorem bal_low {i k : Nat} (h : k ≤ i) : bal (i + 1) k = 0 := by
  cases k with
  | zero => rfl
  | succ k => show rowB i (bal i) (k + 1) = 0; rw [rowB, if_pos (by omega)]
theorem bal_diag (i : Nat) : bal (i + 1) (i + 1) = bal i (i + 1) := by
  show rowB i (bal i) (i + 1) = _
  rw [rowB, if_neg (by omega), if_pos rfl]
theorem bal_step {i k : Nat} (h : i < k) : bal (i + 1) (k + 1) = bal i (k + 1) + bal (i + 1) k := by
  show rowB i (bal i) (k + 1) = _
  rw [rowB, if_neg (by omega), if_neg (by omega)]
  rfl
theorem bal_le : ∀ i k, bal i k ≤ 2 ^ (i + k) := by
  intro i
  induction i with
  | zero => intro k; exact Nat.pow_pos (by decide)
  | succ i ih =>
    intro k
    induction k with
    | zero => rw [bal_low (by omega)]; exact Nat.zero_le _
    | succ k ih2 =>
      have a := ih (k + 1)
      have e1 : 2 ^ (i + 1 + (k + 1)) = 4 * 2 ^ (i + k) := by rw [show i + 1 + (k + 1) = i + k + 2 by omega, Nat.pow_add]; omega
      have e2 : 2 ^ (i + (k + 1)) = 2 * 2 ^ (i + k) := by rw [show i + (k + 1) = i + k + 1 by omega, Nat.pow_add]; omega
      have e3 : 2 ^ (i + 1 + k) = 2 * 2 ^ (i + k) := by rw [show i + 1 + k = i + k + 1 by omega, Nat.pow_add]; omega
      by_cases h : i < k
      · rw [bal_step h]; omega
      · by_cases h2 : k = i
        · subst h2; rw [bal_diag]; omega
        · rw [bal_low (by omega)]; exact Nat.zero_le _

/-- the sum that the reference takes, term by term -/
def sumS (n : Nat) : Nat → Int
  | 0 => 0
  | k + 1 => sumS n k + (bal k k : Int) * binI ((n + k : Nat) : Int) (n - k)
theorem schroeder_fine : ∀ n, n < 13 → (((rowsR n (List.replicate (n + 1) 1)).headD 0 : Nat) : Int) = sumS n (n + 1) ∧ (∀ k, k < n + 2 → 0 ≤ sumS n k ∧ sumS n k ≤ 1000000000) ∧
    ∀ k, k < n + 1 → binFine (n + k) (n - k) = true ∧ 0 ≤ binI ((n + k : Nat) : Int) (n - k) ∧ binI ((n + k : Nat) : Int) (n - k) ≤ 1000000000 ∧ (bal k k : Int) * binI ((n + k : Nat) : Int) (n - k) ≤ 1000000000 := by
  decide +kernel
theorem schroeder_num {n : Nat} (h : n < 13) : (waysW n 0 : Int) = sumS n (n + 1) := by rw [waysW_row]; exact (schroeder_fine n h).1

end Go.Proofs.YtbicfognbbeigaaGreat.Pl

/-
  Contracts of ballot numbers are proved.
  They hold for up to fifteen letters of each kind.
-/
set_option linter.unusedVariables false
set_option linter.unusedSimpArgs false
namespace Go.Proofs.YtbicfognbbeigaaGreat
open Go.Proofs.YtbicfognbbeigaaGreat.Ab Go.Proofs.YtbicfognbbeigaaGreat.Pl

def balRow (dn i k : Nat) : List Int := tab (dn + 1) fun j => if j < k then (bal i j : Int) else 0
theorem balRow_zero (dn i k : Nat) (h : k ≤ i) : balRow dn i k = List.replicate (dn + 1) 0 := by
  apply List.ext_getElem?
  intro j
  unfold balRow tab
  by_cases hj : j < dn + 1
  · rw [List.getElem?_map, List.getElem?_range hj, List.getElem?_replicate, if_pos hj]
    simp only [Option.map_some]
    split
    · cases i with
      | zero => omega
      | succ i => rw [bal_low (by omega)]; rfl
    · rfl
  · rw [List.getElem?_eq_none (by simp; omega), List.getElem?_eq_none (by simp; omega)]
theorem balRow_set {dn i k : Nat} (hk : k < dn + 1) {y : Int} (e : y = bal i k) : (balRow dn i k).set k y = balRow dn i (k + 1) := by
  subst e
  unfold balRow
  rw [tab_set]
  exact tab_congr fun j hj => by
    split
    · rename_i h
      subst h
      rw [if_pos (by omega)]
    · split <;> split <;> first | rfl | omega
theorem balRow_get {dn i k j : Nat} (hj : j < dn + 1) (hk : j < k) : (balRow dn i k).getD j 0 = bal i j := by
  unfold balRow
  rw [tab_getD _ hj, if_pos hk]
theorem balRow_len (dn i k : Nat) : (balRow dn i k).length = dn + 1 := tab_length _ _


end Go.Proofs.YtbicfognbbeigaaGreat

/-
  Contracts of ranks of paths, and of diagrams as paths, are proved.
  They hold for all rows of numbers.
-/
set_option linter.unusedVariables false
set_option linter.unusedSimpArgs false
namespace Go.Proofs.YtbicfognbbeigaaGreat
open Go.Proofs.YtbicfognbbeigaaGreat.Ab Go.Proofs.YtbicfognbbeigaaGreat.Pl

/-! heights of a path -/
theorem dyck_at {w : List UInt8} (h : isDyck w = true) : w.length ≤ 16 ∧ hgt w = 0 ∧ (∀ k, k ≤ w.length → 0 ≤ hgt (w.take k)) ∧ ∀ k, k < w.length → ((w.getD k 0).toNat : Int) = 117 ∨ ((w.getD k 0).toNat : Int) = 100 := by
  unfold isDyck at h
  simp only [Bool.and_eq_true, decide_eq_true_eq, beq_iff_eq] at h
  obtain ⟨h1, h2⟩ := h
  have at_ : ∀ k, ∃ g, walkH 1 (-1) false (w.take k) 0 = some g := fun k => by
    cases e : walkH 1 (-1) false (w.take k) 0 with
    | none => rw [walkH_take_none e] at h2; cases h2
    | some g => exact ⟨g, rfl⟩
  refine ⟨h1, ?_, fun k hk => ?_, fun k hk => ?_⟩
  · have := walkH_hgt _ _ _ h2
    omega
  · obtain ⟨g, hg⟩ := at_ k
    have a := walkH_hgt _ _ _ hg
    have b := walkH_bd (by decide) (by decide) _ _ _ (by decide) hg
    omega
  · obtain ⟨g, hg⟩ := at_ k
    by_cases e1 : ((w.getD k 0).toNat : Int) = 117
    · exact .inl e1
    · by_cases e2 : ((w.getD k 0).toNat : Int) = 100
      · exact .inr e2
      · have e3 : stepOf 1 (-1) false (w.getD k 0) = none := by
          unfold stepOf
          rw [if_neg e1, if_neg e2, if_neg (by simp)]
        rw [walkH_bad hk hg e3] at h2
        cases h2
theorem hgt_next {w : List UInt8} {k : Nat} (hk : k < w.length) : (((w.getD k 0).toNat : Int) = 117 → hgt (w.take (k + 1)) = hgt (w.take k) + 1) ∧ (((w.getD k 0).toNat : Int) = 100 → hgt (w.take (k + 1)) = hgt (w.take k) - 1) := by
  rw [take_snoc w k hk]
  exact ⟨hgt_u _ _, hgt_d _ _⟩
/-- the height is at most what is left of the path -/
theorem dyck_left {w : List UInt8} (h : isDyck w = true) : ∀ m k, k ≤ w.length → w.length - k = m → hgt (w.take k) ≤ m := by
  obtain ⟨h1, h2, h3, h4⟩ := dyck_at h
  intro m
  induction m with
  | zero =>
    intro k hk e
    rw [show k = w.length by omega, List.take_length, h2]
    decide
  | succ m ih =>
    intro k hk e
    have a := ih (k + 1) (by omega) (by omega)
    have b := hgt_next (w := w) (k := k) (by omega)
    have c := h4 k (by omega)
    omega

/-- the rank, letter by letter -/
def rkS (w : List UInt8) : Nat → Int
  | 0 => 0
  | k + 1 => rkS w k + (if ((w.getD k 0).toNat : Int) = 117 then 0 else if hgt (w.take k) < ((w.length - k : Nat) : Int) then (bal ((((w.length - k : Nat) : Int) - hgt (w.take k)) / 2 - 1).toNat ((((w.length - k : Nat) : Int) + hgt (w.take k)) / 2).toNat : Int) else 0)
def rankW (w : List UInt8) : Int := if isDyck w then rkS w w.length else -1
theorem rkS_u {w : List UInt8} {k : Nat} (h : ((w.getD k 0).toNat : Int) = 117) : rkS w (k + 1) = rkS w k := by rw [rkS, if_pos h, Int.add_zero]
theorem rkS_d {w : List UInt8} {k : Nat} {up dn : Int} (h : ¬ ((w.getD k 0).toNat : Int) = 117) (hk : k ≤ w.length) (e1 : 2 * up = w.length - k - hgt (w.take k)) (e2 : 2 * dn = w.length - k + hgt (w.take k)) (hp : 0 < up) : rkS w (k + 1) = rkS w k + (bal (up - 1).toNat dn.toNat : Nat) := by
  rw [rkS, if_neg h, if_pos (by omega), show (((w.length - k : Nat) : Int) - hgt (w.take k)) / 2 = up by omega, show (((w.length - k : Nat) : Int) + hgt (w.take k)) / 2 = dn by omega]
theorem rkS_0 {w : List UInt8} {k : Nat} {up : Int} (h : ¬ ((w.getD k 0).toNat : Int) = 117) (hk : k ≤ w.length) (e1 : 2 * up = w.length - k - hgt (w.take k)) (hp : ¬ 0 < up) : rkS w (k + 1) = rkS w k := by
  rw [rkS, if_neg h, if_neg (by omega), Int.add_zero]
theorem bal_small {i k : Nat} (hi : i ≤ 15) (hk : k ≤ 15) : bal i k ≤ 1073741824 := Nat.le_trans (bal_le i k) (Nat.pow_le_pow_right (n := 2) (by decide) (show i + k ≤ 30 by omega))
theorem rkS_bd {w : List UInt8} (h : isDyck w = true) : ∀ k, k ≤ w.length → 0 ≤ rkS w k ∧ rkS w k ≤ 1073741824 * k := by
  obtain ⟨h1, h2, h3, h4⟩ := dyck_at h
  intro k
  induction k with
  | zero => intro _; simp [rkS]
  | succ k ih =>
    intro hk
    have f1 := (hgt_bd (w.take k)).2
    have f2 : (w.take k).length ≤ k := List.length_take_le _ _
    have a := ih (by omega)
    have b := h3 k (by omega)
    have c := dyck_left h _ k (by omega) rfl
    have d := bal_small (i := ((((w.length - k : Nat) : Int) - hgt (w.take k)) / 2 - 1).toNat) (k := ((((w.length - k : Nat) : Int) + hgt (w.take k)) / 2).toNat) (by omega) (by omega)
    rw [rkS]
    split
    · omega
    · split <;> omega




/-! a matching as a path -/
def letterM (l : List Int) (i : Nat) : UInt8 := if (i : Int) < l.getD i 0 then 117 else 100
def wTo (l : List Int) (k : Nat) : List UInt8 := (List.range k).map (letterM l)
theorem wTo_len (l : List Int) (k : Nat) : (wTo l k).length = k := by simp [wTo]
theorem wTo_succ (l : List Int) (k : Nat) : wTo l (k + 1) = wTo l k ++ [letterM l k] := by
  unfold wTo
  rw [List.range_succ, List.map_append]
  rfl
theorem bytesAV_succ (l : List Int) (k : Nat) : bytesAV (wTo l (k + 1)) = bytesAV (wTo l k) ++ [.int .u8 (letterM l k).toNat] := by
  rw [wTo_succ]
  unfold bytesAV
  rw [List.map_append]
  rfl
theorem bytesAV_len (s : List UInt8) : (bytesAV s).length = s.length := List.length_map _
def pathM (l : List Int) : List UInt8 := if isNC l then wTo l l.length else []
theorem pathM_len (l : List Int) : (pathM l).length ≤ l.length := by
  unfold pathM
  split
  · rw [wTo_len]; exact Nat.le_refl _
  · exact Nat.zero_le _



def dNum (l : List Int) : Int := if isD l then rankW (pathM l) else -1




end Go.Proofs.YtbicfognbbeigaaGreat

/-
  Texts of triangulations have their contracts proved.
  They hold for rows of pairs of digits.
-/
set_option linter.unusedVariables false
set_option linter.unusedSimpArgs false
namespace Go.Proofs.YtbicfognbbeigaaGreat
open Go.Proofs.YtbicfognbbeigaaGreat.Ab Go.Proofs.YtbicfognbbeigaaGreat.Pl

def digU (m : Int) : UInt8 := UInt8.ofNat (48 + m.toNat)
def dig2 (x : List Int) : List UInt8 := [digU (x.getD 0 0), digU (x.getD 1 0)]
def glueP (l : List (List UInt8)) : Nat → List UInt8
  | 0 => []
  | i + 1 => (if 0 < i then glueP l i ++ [32] else glueP l i) ++ l.getD i []
def fmtD (f : List (List Int)) : List UInt8 := if f.length = 0 then [110, 111, 110, 101] else glueP (f.map dig2) f.length
theorem glueP_len {l : List (List UInt8)} (h : ∀ i, (l.getD i []).length ≤ 24) : ∀ i, (glueP l i).length ≤ 25 * i
  | 0 => by simp [glueP]
  | i + 1 => by
    have := glueP_len h i
    have := h i
    unfold glueP
    split <;> simp only [List.length_append, List.length_cons, List.length_nil] <;> omega
def DigF (f : List (List Int)) : Prop := ∀ i, i < f.length → (f.getD i []).length = 2 ∧ (0 ≤ ent f i 0 ∧ ent f i 0 ≤ 9) ∧ (0 ≤ ent f i 1 ∧ ent f i 1 ≤ 9)
theorem dig_getD (f : List (List Int)) (i : Nat) : ((f.map dig2).getD i []).length ≤ 24 := by
  by_cases h : i < f.length
  · simp [List.getD, h, dig2]
  · simp [List.getD, List.getElem?_eq_none (show f.length ≤ i by omega)]
theorem fmtD_len {f : List (List Int)} (h : f.length ≤ 20) : (fmtD f).length ≤ 1000 := by
  unfold fmtD
  split
  · simp
  · have := glueP_len (dig_getD f) f.length
    omega
theorem map_dig_succ {f : List (List Int)} {k : Nat} (h : k < f.length) : (f.take (k + 1)).map dig2 = (f.take k).map dig2 ++ [[digU (ent f k 0)] ++ [digU (ent f k 1)]] := by
  rw [List.take_succ_eq_append_getElem h, List.map_append]
  have e : f.getD k [] = f[k] := by simp [List.getD, h]
  unfold ent
  rw [e]
  rfl

set_option maxHeartbeats 1000000 in
theorem fmtInt_ok (m : Int) (h0 : H) (hm : 0 ≤ m ∧ m ≤ 9) : AC env 105 [.int .i64 m] h0 fun w h' => w = .str [digU m] ∧ Keeps h0 h' := by
  have hs := St.refl h0
  by_cases hz : m = 0
  · subst hz
    refine AC.enter Tryz.func105 Tryz.call105 rfl Tryz.ntmps105 (of_decide_eq_true (by rfl)) ?_
    repeat' (first
      | refine AW.seq ?_
      | (refine AW.region ?_; conv => whnf)
      | (refine AW.ret ?_; conv => whnf)
      | refine AW.cond (by rfl) ?_
      | (refine Br.tt ?_; conv => whnf))
    exact ⟨rfl, Keeps.refl _⟩
  · have t1 : m.tmod 10 = m := Int.tmod_eq_of_lt (by omega) (by omega)
    have t2 : m.tdiv 10 = 0 := Int.tdiv_eq_zero_of_lt (by omega) (by omega)
    have t3 : bytesAV [digU m] = [.int .u8 (48 + m.tmod 10)] := by
      rw [t1]
      show [AV.int .u8 ((digU m).toNat : Int)] = _
      have : ((digU m).toNat : Int) = 48 + m := by
        unfold digU
        rw [UInt8.toNat_ofNat']
        omega
      rw [this]
    refine AC.enter Tryz.func105 Tryz.call105 rfl Tryz.ntmps105 (of_decide_eq_true (by rfl)) ?_
    repeat' (first
      | (refine NewG.st hs (fun bo h1 hs1 => ?_); conv => whnf)
      | refine AW.seq ?_
      | (refine AW.region ?_; conv => whnf)
      | refine AW.block ?_
      | (refine AW.skip ?_; conv => whnf)
      | refine AW.cond (by rfl) ?_
      | (refine Br.df (by omega) ?_; conv => whnf))
    refine AW.loop3 (fun (q : Int) (s : List UInt8) (b : Nat) => [(0, .int .i64 m), (3, .slice b 0 s.length s.length), (4, .int .i64 q)]) (fun q s b h' => ((q = m ∧ s = []) ∨ (q = 0 ∧ s = [digU m])) ∧ St h0 h' [(b, row (bytesAV s))]) (fun q _ _ => q.toNat) m [] bo
      (Less.cons rfl (Less.cons rfl (Less.cons rfl (Less.nil _)))) ⟨.inl ⟨rfl, rfl⟩, hs1⟩ ?_
    clear hs1 hs
    rintro q s b h2 ⟨⟨rfl, rfl⟩ | ⟨rfl, rfl⟩, hs2⟩
    · repeat' (first
        | (refine NewG.st hs2 (fun bq h3 hs3 => ?_); conv => whnf)
        | (refine LoadsG.has (St.has hs3 (.head _)) (by simp) ?_; conv => whnf)
        | (refine AppG.stV hs3 (fun b' => .there .here) rfl (by simp [bytesAV]) (by decide) rfl (fun b' h4 hs4 => ?_); conv => whnf)
        | refine AW.seq ?_
        | (refine AW.region ?_; conv => whnf)
        | refine AW.block ?_
        | (refine AW.skip ?_; conv => whnf)
        | refine AW.cond (by rfl) ?_
        | refine Br.not ?_
        | (refine Br.df (by omega) ?_; conv => whnf)
        | (refine Wr.i64 (by omega) ?_; conv => whnf)
        | (refine Ck.mk (by omega) ?_; conv => whnf)
        | (refine Wr.u8 (by omega) ?_; conv => whnf))
      refine ⟨0, [digU q], b', by rw [← t2]; exact (Less.cons rfl (Less.cons rfl (Less.cons rfl (Less.nil _)))), ⟨.inr ⟨rfl, rfl⟩, ?_⟩, by omega⟩
      rw [t3]
      exact hs4.tail
    · repeat' (first
        | refine AW.seq ?_
        | (refine AW.region ?_; conv => whnf)
        | refine AW.block ?_
        | (refine AW.skip ?_; conv => whnf)
        | (refine AW.exit ?_; conv => whnf)
        | refine AW.cond (by rfl) ?_
        | (refine Br.ff ?_; conv => whnf)
        | (refine Br.df (by omega) ?_; conv => whnf)
        | (refine Wr.i64 (by simp only [List.length_drop, List.length_take, List.length_append, List.length_cons, List.length_nil]; omega) ?_; conv => whnf))
      refine AW.once ?_
      repeat' (first
        | (refine TextG.mk true 1 _ [digU m] (hs2.is _ (.head _)) (by rw [bytesAV_length]; simp) (by rw [List.drop_zero, List.take_of_length_le (by rw [bytesAV_length]; simp)]) ?_; conv => whnf)
        | refine AW.seq ?_
        | (refine AW.region ?_; conv => whnf)
        | (refine AW.ret ?_; conv => whnf)
        | (refine AW.exit ?_; conv => whnf)
        | refine AW.cond (by rfl) ?_
        | (refine Br.ff ?_; conv => whnf))
      exact ⟨rfl, hs2.keeps⟩
theorem gluedP_ok (l : List (List UInt8)) (b N C : Nat) (h0 : H) (hb : Has h0 b (strs l)) (hN : N = l.length) (hl : l.length ≤ 20) (hw : ∀ i, (l.getD i []).length ≤ 24) : AC env 106 [.slice b 0 N C, .str [32]] h0 fun v h' => v = .str (glueP l l.length) ∧ h' = h0 := by
  refine AC.enter Tryz.func106 Tryz.call106 rfl Tryz.ntmps106 (of_decide_eq_true (by rfl)) ?_
  repeat' (first
    | refine AW.seq ?_
    | (refine AW.region ?_; conv => whnf)
    | refine AW.block ?_)
  refine AW.loop2 (fun (s : List UInt8) (i : Nat) => [(1, .str [32]), (5, .str s), (8, .slice b 0 N C), (9, .int .i64 N), (10, .int .i64 i)]) (fun s i h' => i ≤ l.length ∧ s = glueP l i ∧ h' = h0) (fun _ i => l.length - i) [] 0
    (Less.cons rfl (Less.cons rfl (Less.cons rfl (Less.cons rfl (Less.cons rfl (Less.nil _)))))) ⟨by omega, rfl, rfl⟩ ?_
  rintro s i h1 ⟨hi, rfl, rfl⟩
  have bi : (l.getD (i : Int).toNat []).length ≤ 24 := hw i
  have bg := glueP_len hw i
  repeat' (first
    | refine AW.seq ?_
    | (refine AW.region ?_; conv => whnf)
    | refine AW.block ?_
    | (refine AW.skip ?_; conv => whnf)
    | (refine AW.ret ?_; conv => whnf)
    | (refine AW.exit ?_; conv => whnf)
    | refine AW.cond (by rfl) ?_
    | (refine Br.dec (fun hc => ?_) (fun hc => ?_) <;> conv => whnf)
    | (refine Wr.i64 (by omega) ?_; conv => whnf)
    | (refine Ck.mk (by omega) ?_; conv => whnf)
    | (refine Ck.mk (by simp only [List.length_drop, List.length_take, List.length_append, List.length_cons, List.length_nil]; omega) ?_; conv => whnf)
    | (refine Has.loadS (by first | assumption | exact St.has (by assumption) (by repeat first | exact .head _ | apply List.Mem.tail) | exact St.arg (by assumption) (by assumption)) rfl (by first | (simp; done) | omega | (simp only [List.length_set, List.length_append, List.length_cons, List.length_nil, List.length_replicate, tab_length]; omega) | (simp; omega)) ?_; conv => whnf))
  · exact ⟨_, i + 1, (Less.cons rfl (Less.cons rfl (Less.cons rfl (Less.cons rfl (Less.cons rfl (Less.nil _)))))), ⟨by omega, by rw [glueP, if_pos (by omega)]; rfl, rfl⟩, by omega⟩
  · exact ⟨_, i + 1, (Less.cons rfl (Less.cons rfl (Less.cons rfl (Less.cons rfl (Less.cons rfl (Less.nil _)))))), ⟨by omega, by rw [glueP, if_neg (by omega)]; rfl, rfl⟩, by omega⟩
  · rw [show i = l.length by omega]
    exact ⟨rfl, rfl⟩
set_option maxHeartbeats 1000000 in
theorem fmtD_ok (R : RL) (f : List (List Int)) (b M C : Nat) (h0 : H) (hb : Grid h0 b R) (hR : rws R = f) (hM : M = f.length) (hl : f.length ≤ 20) (dg : DigF f) : AC env 70 [.slice b 0 M C] h0 fun w h' => w = .str (fmtD f) ∧ Keeps h0 h' := by
  have hs := St.refl h0
  have lR : R.length = M := by rw [hM, ← hR, rws_length]
  by_cases hz : f.length = 0
  · have e : fmtD f = [110, 111, 110, 101] := if_pos hz
    refine AC.enter Tryz.func70 Tryz.call70 rfl Tryz.ntmps70 (of_decide_eq_true (by rfl)) ?_
    repeat' (first
      | refine AW.seq ?_
      | (refine AW.region ?_; conv => whnf)
      | (refine AW.ret ?_; conv => whnf)
      | refine AW.cond (by rfl) ?_
      | (refine Br.dt (by omega) ?_; conv => whnf))
    exact ⟨by rw [e], Keeps.refl _⟩
  · have e : fmtD f = glueP (f.map dig2) f.length := if_neg hz
    refine AC.enter Tryz.func70 Tryz.call70 rfl Tryz.ntmps70 (of_decide_eq_true (by rfl)) ?_
    repeat' (first
      | (refine NewG.st hs (fun bo h1 hs1 => ?_); conv => whnf)
      | refine AW.seq ?_
      | (refine AW.region ?_; conv => whnf)
      | refine AW.block ?_
      | (refine AW.skip ?_; conv => whnf)
      | refine AW.cond (by rfl) ?_
      | (refine Br.df (by omega) ?_; conv => whnf))
    refine AW.loop3 (fun (k bo N : Nat) => [(3, .slice bo 0 N N), (13, .slice b 0 M C), (14, .int .i64 M), (15, .int .i64 (k : Int))]) (fun k bo N h' => (k ≤ M ∧ N = k) ∧ St h0 h' [(bo, row (strs ((f.take k).map dig2)))]) (fun k _ _ => M - k) 0 bo 0
      (Less.cons rfl (Less.cons rfl (Less.cons rfl (Less.cons rfl (Less.nil _))))) ⟨⟨by omega, rfl⟩, hs1⟩ ?_
    clear hs1 hs
    rintro k bo N h2 ⟨⟨hk, hN⟩, hs2⟩
    by_cases hlt : k < M
    · obtain ⟨two, d0, d1⟩ := dg k (by omega)
      have hg := hb.arg hs2
      have sc := map_dig_succ (f := f) (k := k) (by omega)
      have lt : ((f.take k).map dig2).length = k := by rw [List.length_map, List.length_take]; omega
      repeat' (first
        | (refine And.intro ?_ ?_ <;> (conv => whnf))
        | (refine Grid.rowAt (hb.keep (St.keeps (by assumption))) hR k rfl (by omega) (by omega) two ?_; conv => whnf)
        | (refine Grid.num2 (hb.keep (St.keeps (by assumption))) hR k 0 rfl (by omega) two (by omega) ?_; conv => whnf)
        | (refine Grid.num2 (hb.keep (St.keeps (by assumption))) hR k 1 rfl (by omega) two (by omega) ?_; conv => whnf)
        | (refine (fmtInt_ok _ _ (by assumption)).mono ?_; rintro w h3 ⟨rfl, hk3⟩; have hs3 := St.keep (by assumption) hk3; clear hk3; conv => whnf)
        | (refine NewG.st (by assumption) (fun bq h5 hs5 => ?_); conv => whnf)
        | (refine LoadsG.has (St.has hs5 (.head _)) (by simp) ?_; conv => whnf)
        | (refine AppG.stS (l := (f.take k).map dig2) (y := [digU (ent f k 0)] ++ [digU (ent f k 1)]) hs5 (fun b' => .there .here) (by omega) (by omega) (by decide) (fun bo' h6 hs6 => ?_); have hs7 := hs6.tail; conv => whnf)
        | refine AW.seq ?_
        | (refine AW.region ?_; conv => whnf)
        | refine AW.block ?_
        | (refine AW.skip ?_; conv => whnf)
        | refine AW.cond (by rfl) ?_
        | (refine AW.draw (id := 11) (.p 0 (.p 1 (.p 2 (.p 5 (.p 6 (.r 3 [4, 8, 9, 10, 11, 12] (.all [4, 7] fun i => bif Nat.beq i 4 then (.r 7 [8, 9, 10, 11, 12] (.all [8] fun _ => (.p 9 (.all [10] fun _ => (.all [11] fun _ => (.p 12 .done)))))) else (.all [4] fun _ => (.all [8] fun _ => (.p 9 (.all [10] fun _ => (.all [11] fun _ => (.p 12 .done))))))))))))) (by kernel_rfl) (by kernel_rfl) ?_; conv => whnf)
        | (refine (within_ok _ _ _ _).mono ?_; rintro v h' ⟨rfl, e'⟩; subst h'; conv => whnf)
        | (refine Br.ff ?_; conv => whnf)
        | refine Br.not ?_
        | (refine Br.dt (by omega) ?_; conv => whnf)
        | (refine Wr.i64 (by omega) ?_; conv => whnf)
        | (refine Ck.mk (by omega) ?_; conv => whnf)
        | (refine Ck.mk (by simp only [List.length_drop, List.length_take, List.length_append, List.length_cons, List.length_nil]; omega) ?_; conv => whnf))
      all_goals exact ⟨k + 1, bo', N + 1, (Less.cons rfl (Less.cons rfl (Less.cons rfl (Less.cons rfl (Less.nil _))))), ⟨⟨by omega, by omega⟩, by rw [sc]; exact hs7⟩, by omega⟩
    · obtain rfl : k = M := by omega
      have et : f.take k = f := List.take_of_length_le (by omega)
      rw [et] at hs2
      have lm : (f.map dig2).length = f.length := List.length_map _
      repeat' (first
        | (refine (gluedP_ok (f.map dig2) _ _ _ _ (St.has hs2 (.head _)) (by omega) (by omega) (dig_getD f)).mono ?_; rw [lm]; rintro w h' ⟨rfl, e'⟩; subst h'; conv => whnf)
        | refine AW.seq ?_
        | (refine AW.region ?_; conv => whnf)
        | (refine AW.ret ?_; conv => whnf)
        | (refine AW.exit ?_; conv => whnf)
        | refine AW.cond (by rfl) ?_
        | (refine Br.df (by omega) ?_; conv => whnf))
      exact ⟨by rw [e], hs2.keeps⟩

end Go.Proofs.YtbicfognbbeigaaGreat
