/-
  Plain laws of Fuss words are proved: lists, places, and words that are split and joined again.
  They hold for words of at most four letters u.
-/
import Derived.Test.YtdfdlnjijccpeaaC21
import Derived.Test.YtdfdlnjijccpeaaC4
import Derived.Test.YtdfdlnjijccpeaaC50
set_option linter.unusedVariables false
set_option linter.unusedSimpArgs false
namespace Go.Proofs.Ytdfdlnjijccpeaa
open Go.Proofs.Ytdfdlnjijccpeaa.Ab Go.Proofs.Ytdfdlnjijccpeaa.Pl

/-! all words of so many letters, at most, whose heights are not below zero and end at zero -/
def allF (P : List UInt8 → Bool) (m : Nat) : Nat → Nat → List UInt8 → Bool
  | 0, h, acc => !(Nat.beq h 0) || P acc.reverse
  | k + 1, h, acc => (!(Nat.beq h 0) || P acc.reverse) && (Nat.blt (k + 1) h || (allF P m k (h + m - 1) (117 :: acc) && (Nat.beq h 0 || allF P m k (h - 1) (100 :: acc))))
theorem u8_117 {x : UInt8} (h : (x.toNat : Int) = 117) : x = 117 := UInt8.toNat_inj.1 (by
  have e : (117 : UInt8).toNat = 117 := rfl
  omega)
theorem u8_100 {x : UInt8} (h : (x.toNat : Int) = 100) : x = 100 := UInt8.toNat_inj.1 (by
  have e : (100 : UInt8).toNat = 100 := rfl
  omega)
theorem walk_len {m : Int} (hm : 1 ≤ m) : ∀ (r : List UInt8) (h : Int), walkH (m - 1) (-1) false r h = some 0 → h ≤ r.length
  | [], h, e => by
    have e : some h = some 0 := e
    injection e with e
    simp [e]
  | x :: r, h, e => by
    rw [walkH] at e
    cases d : stepOf (m - 1) (-1) false x with
    | none => rw [d] at e; cases e
    | some y =>
      rw [d] at e
      simp only at e
      split at e
      · cases e
      · have ih := walk_len hm r _ e
        unfold stepOf at d
        simp only [List.length_cons]
        split at d
        · injection d with d; omega
        · split at d
          · injection d with d; omega
          · split at d
            · rename_i hq; simp at hq
            · cases d
theorem allF_spec {P : List UInt8 → Bool} {m : Nat} (hm : 1 ≤ m) : ∀ (k h : Nat) (acc : List UInt8), allF P m k h acc = true → ∀ r : List UInt8, r.length ≤ k → walkH ((m : Int) - 1) (-1) false r h = some 0 → P (acc.reverse ++ r) = true
  | k, h, acc, ha, [], hl, hw => by
    have hw : some (h : Int) = some 0 := hw
    injection hw with hw
    have h0 : h = 0 := by omega
    subst h0
    rw [List.append_nil]
    cases k with
    | zero => simpa [allF] using ha
    | succ k =>
      rw [allF, Bool.and_eq_true] at ha
      simpa using ha.1
  | 0, h, acc, ha, x :: r, hl, hw => by simp at hl
  | k + 1, h, acc, ha, x :: r, hl, hw => by
    rw [allF, Bool.and_eq_true] at ha
    have ha := ha.2
    have wl := walk_len (m := (m : Int)) (by omega) _ _ hw
    have nb : Nat.blt (k + 1) h = false := by
      rw [Bool.eq_false_iff]
      intro c
      have := Nat.le_of_ble_eq_true c
      simp only [List.length_cons] at wl hl
      omega
    rw [nb, Bool.false_or, Bool.and_eq_true] at ha
    rw [walkH] at hw
    cases d : stepOf ((m : Int) - 1) (-1) false x with
    | none => rw [d] at hw; cases hw
    | some y =>
      rw [d] at hw
      simp only at hw
      split at hw
      · cases hw
      · rename_i hy
        unfold stepOf at d
        split at d
        · rename_i hx
          injection d with d
          have ih := allF_spec hm k (h + m - 1) (117 :: acc) ha.1 r (by simpa using hl) (by rw [show ((h + m - 1 : Nat) : Int) = h + y by omega]; exact hw)
          have ex : x = 117 := u8_117 (by simpa using hx)
          rw [ex]
          simpa using ih
        · split at d
          · rename_i hx
            injection d with d
            have hb : Nat.beq h 0 = false := by
              rw [Bool.eq_false_iff]
              intro c
              have := Nat.eq_of_beq_eq_true c
              omega
            have ha2 := ha.2
            rw [hb, Bool.false_or] at ha2
            have ih := allF_spec hm k (h - 1) (100 :: acc) ha2 r (by simpa using hl) (by rw [show ((h - 1 : Nat) : Int) = h + y by omega]; exact hw)
            have ex : x = 100 := u8_100 (by simpa using hx)
            rw [ex]
            simpa using ih
          · split at d
            · rename_i hq; simp at hq
            · cases d
def sjP (m : Int) (w : List UInt8) : Bool := decide (w = []) || decide ((finS m w).length = m.toNat ∧ joinF m (finS m w) = (w, true))
set_option maxRecDepth 100000 in
theorem sj_1 : allF (sjP 1) 1 5 0 [] = true := by decide +kernel
set_option maxRecDepth 100000 in
theorem sj_2 : allF (sjP 2) 2 9 0 [] = true := by decide +kernel
set_option maxRecDepth 100000 in
theorem sj_3 : allF (sjP 3) 3 13 0 [] = true := by decide +kernel
set_option maxRecDepth 100000 in
theorem sj_4 : allF (sjP 4) 4 17 0 [] = true := by decide +kernel
theorem split_join {m : Int} {w : List UInt8} (h : isFuss m w = true) (hw : w ≠ []) (hl : (w.length : Int) ≤ 4 * m + 1) : ((finS m w).length : Int) = m ∧ joinF m (finS m w) = (w, true) := by
  have hb := isFuss_len h
  have hk : walkH (m - 1) (-1) false w 0 = some 0 := by
    unfold isFuss at h
    simp only [Bool.and_eq_true, beq_iff_eq] at h
    exact h.2
  have fin : sjP m w = true → ((finS m w).length : Int) = m ∧ joinF m (finS m w) = (w, true) := fun c => by
    unfold sjP at c
    rw [Bool.or_eq_true, decide_eq_true_iff, decide_eq_true_iff] at c
    rcases c with c | c
    · exact absurd c hw
    · exact ⟨by have := c.1; omega, c.2⟩
  have m4 : m = 1 ∨ m = 2 ∨ m = 3 ∨ m = 4 := by omega
  rcases m4 with rfl | rfl | rfl | rfl
  · exact fin (allF_spec (m := 1) (by decide) 5 0 [] sj_1 w (by omega) hk)
  · exact fin (allF_spec (m := 2) (by decide) 9 0 [] sj_2 w (by omega) hk)
  · exact fin (allF_spec (m := 3) (by decide) 13 0 [] sj_3 w (by omega) hk)
  · exact fin (allF_spec (m := 4) (by decide) 17 0 [] sj_4 w (by omega) hk)

/-! lists, numbers and places -/
def placeOk (m n : Int) : Bool := decide (((fussP m n).1.length : Int) = fussN m n) && (decide (m ≠ 2) || decide (fussN m n = catN n)) && (List.range (fussP m n).1.length).all fun i => isFuss m ((fussP m n).1.getD i []) && decide (rankF m ((fussP m n).1.getD i []) = (i : Int))
set_option maxRecDepth 100000 in
theorem place_1 : (List.range 5).all (fun n => placeOk 1 (n : Int)) = true := by decide +kernel
set_option maxRecDepth 100000 in
theorem place_2 : (List.range 5).all (fun n => placeOk 2 (n : Int)) = true := by decide +kernel
set_option maxRecDepth 100000 in
theorem place_3 : (List.range 5).all (fun n => placeOk 3 (n : Int)) = true := by decide +kernel
set_option maxRecDepth 100000 in
theorem place_4 : (List.range 5).all (fun n => placeOk 4 (n : Int)) = true := by decide +kernel
theorem place_fine {m n : Int} (hm : 1 ≤ m ∧ m ≤ 4) (hn : 0 ≤ n ∧ n ≤ 4) : ((fussP m n).1.length : Int) = fussN m n ∧ (m = 2 → fussN m n = catN n) ∧ ∀ i, i < (fussP m n).1.length → isFuss m ((fussP m n).1.getD i []) = true ∧ rankF m ((fussP m n).1.getD i []) = (i : Int) := by
  have p : placeOk m n = true := by
    obtain ⟨k, rfl⟩ := Int.eq_ofNat_of_zero_le hn.1
    have hk : k ∈ List.range 5 := List.mem_range.2 (by omega)
    have m4 : m = 1 ∨ m = 2 ∨ m = 3 ∨ m = 4 := by omega
    rcases m4 with rfl | rfl | rfl | rfl
    · exact List.all_eq_true.1 place_1 k hk
    · exact List.all_eq_true.1 place_2 k hk
    · exact List.all_eq_true.1 place_3 k hk
    · exact List.all_eq_true.1 place_4 k hk
  unfold placeOk at p
  rw [Bool.and_eq_true, Bool.and_eq_true, decide_eq_true_iff, Bool.or_eq_true, decide_eq_true_iff, decide_eq_true_iff] at p
  refine ⟨p.1.1, fun c => p.1.2.resolve_left (fun d => d c), fun i hi => ?_⟩
  have := List.all_eq_true.1 p.2 i (List.mem_range.2 hi)
  rw [Bool.and_eq_true, decide_eq_true_iff] at this
  exact this

end Go.Proofs.Ytdfdlnjijccpeaa
