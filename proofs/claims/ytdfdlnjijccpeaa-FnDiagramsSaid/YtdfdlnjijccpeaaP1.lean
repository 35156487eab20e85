/-
  Plain laws about words of letters are proved: how often a letter stands, heights, and balanced words.
  They hold for all lists of bytes.
-/
import Derived.IntWalk
set_option linter.unusedVariables false
set_option linter.unusedSimpArgs false
namespace Go.Proofs.Ytdfdlnjijccpeaa.Pl

/-- how often a byte of this number stands in a word -/
def cntB (w : List UInt8) (c : Int) : Nat := (w.filter fun x => (x.toNat : Int) == c).length

theorem cntB_le (w : List UInt8) (c : Int) : cntB w c ≤ w.length := List.length_filter_le _ _
theorem cntB_snoc (w : List UInt8) (x : UInt8) (c : Int) : cntB (w ++ [x]) c = cntB w c + if (x.toNat : Int) = c then 1 else 0 := by
  unfold cntB
  rw [List.filter_append, List.length_append]
  by_cases h : (x.toNat : Int) = c <;> simp [h]

theorem take_snoc (w : List UInt8) (k : Nat) (h : k < w.length) : w.take (k + 1) = w.take k ++ [w.getD k 0] := by
  rw [List.take_succ_eq_append_getElem h]
  simp [List.getD, h]

/-- all letters are u or d -/
def steps (w : List UInt8) : Bool := w.all fun x => (x.toNat : Int) == 117 || (x.toNat : Int) == 100

theorem steps_snoc (w : List UInt8) (x : UInt8) : steps (w ++ [x]) = (steps w && ((x.toNat : Int) == 117 || (x.toNat : Int) == 100)) := by
  simp [steps]

theorem steps_take {w : List UInt8} (h : steps w = true) (k : Nat) : steps (w.take k) = true := by
  unfold steps at *
  rw [List.all_eq_true] at *
  exact fun x hx => h x (List.mem_of_mem_take hx)

theorem steps_at {w : List UInt8} {k : Nat} (hk : k < w.length) (h1 : ((w.getD k 0).toNat : Int) ≠ 117) (h2 : ((w.getD k 0).toNat : Int) ≠ 100) : steps w = false := by
  cases h : steps w with
  | false => rfl
  | true =>
    unfold steps at h
    rw [List.all_eq_true] at h
    have := h (w.getD k 0) (by simp [List.getD, hk])
    simp only [Bool.or_eq_true, beq_iff_eq] at this
    omega

/-- the height at the end: letters u less letters d -/
def hgt (w : List UInt8) : Int := (cntB w 117 : Int) - (cntB w 100 : Int)

theorem hgt_u (w : List UInt8) (x : UInt8) (h : (x.toNat : Int) = 117) : hgt (w ++ [x]) = hgt w + 1 := by
  unfold hgt
  rw [cntB_snoc, cntB_snoc, if_pos h, if_neg (by omega)]
  omega
theorem hgt_d (w : List UInt8) (x : UInt8) (h : (x.toNat : Int) = 100) : hgt (w ++ [x]) = hgt w - 1 := by
  unfold hgt
  rw [cntB_snoc, cntB_snoc, if_pos h, if_neg (by omega)]
  omega
theorem hgt_bd (w : List UInt8) : -(w.length : Int) ≤ hgt w ∧ hgt w ≤ w.length := by
  have h1 := cntB_le w 117
  have h2 := cntB_le w 100
  unfold hgt
  omega

theorem steps_iff (w : List UInt8) : steps w = true ↔ cntB w 117 + cntB w 100 = w.length := by
  induction w with
  | nil => simp [steps, cntB]
  | cons x r ih =>
    have e1 : cntB (x :: r) 117 = cntB r 117 + if (x.toNat : Int) = 117 then 1 else 0 := by unfold cntB; by_cases h : (x.toNat : Int) = 117 <;> simp [h]
    have e2 : cntB (x :: r) 100 = cntB r 100 + if (x.toNat : Int) = 100 then 1 else 0 := by unfold cntB; by_cases h : (x.toNat : Int) = 100 <;> simp [h]
    have e3 : steps (x :: r) = (((x.toNat : Int) == 117 || (x.toNat : Int) == 100) && steps r) := by simp [steps]
    have a1 := cntB_le r 117
    have key : cntB r 117 + cntB r 100 ≤ r.length := by
      clear ih e1 e2 e3 a1
      induction r with
      | nil => simp [cntB]
      | cons y s ih =>
        have f1 : cntB (y :: s) 117 = cntB s 117 + if (y.toNat : Int) = 117 then 1 else 0 := by unfold cntB; by_cases h : (y.toNat : Int) = 117 <;> simp [h]
        have f2 : cntB (y :: s) 100 = cntB s 100 + if (y.toNat : Int) = 100 then 1 else 0 := by unfold cntB; by_cases h : (y.toNat : Int) = 100 <;> simp [h]
        rw [f1, f2]
        simp only [List.length_cons]
        split <;> split <;> omega
    rw [e1, e2, e3]
    simp only [List.length_cons, Bool.and_eq_true, Bool.or_eq_true, beq_iff_eq, ih]
    split <;> split <;> omega

/-- balanced words -/
def isBal (w : List UInt8) : Prop := w.length ≤ 17 ∧ steps w = true ∧ hgt w = -1

instance (w : List UInt8) : Decidable (isBal w) := by unfold isBal; infer_instance

/-- what a letter does to the height; nothing for other bytes -/
def stepOf (up dn : Int) (lv : Bool) (x : UInt8) : Option Int :=
  if (x.toNat : Int) = 117 then some up else if (x.toNat : Int) = 100 then some dn else if (x.toNat : Int) = 108 ∧ lv = true then some 0 else none

/-- the height at the end, if it never falls below 0 and all letters are known -/
def walkH (up dn : Int) (lv : Bool) : List UInt8 → Int → Option Int
  | [], h => some h
  | x :: r, h => match stepOf up dn lv x with
    | none => none
    | some d => if h + d < 0 then none else walkH up dn lv r (h + d)

theorem walkH_snoc (up dn : Int) (lv : Bool) (w : List UInt8) (x : UInt8) : ∀ h, walkH up dn lv (w ++ [x]) h = (match walkH up dn lv w h with
    | none => none
    | some g => match stepOf up dn lv x with
      | none => none
      | some d => if g + d < 0 then none else some (g + d)) := by
  induction w with
  | nil =>
    intro h
    simp only [List.nil_append, walkH]
  | cons y r ih =>
    intro h
    simp only [List.cons_append, walkH]
    cases stepOf up dn lv y with
    | none => rfl
    | some d =>
      dsimp only
      by_cases hd : h + d < 0
      · simp [hd]
      · simp only [hd, if_false]
        exact ih _

theorem walkH_take_none {up dn : Int} {lv : Bool} {w : List UInt8} {k : Nat} (h : walkH up dn lv (w.take k) 0 = none) : walkH up dn lv w 0 = none := by
  have key : ∀ (a b : List UInt8) (h : Int), walkH up dn lv a h = none → walkH up dn lv (a ++ b) h = none := by
    intro a
    induction a with
    | nil => intro b h hh; cases hh
    | cons x r ih =>
      intro b h hh
      simp only [List.cons_append, walkH] at hh ⊢
      cases hs : stepOf up dn lv x with
      | none => rfl
      | some d =>
        rw [hs] at hh
        dsimp only at hh ⊢
        by_cases hd : h + d < 0
        · simp [hd]
        · simp only [hd, if_false] at hh ⊢
          exact ih b _ hh
  have := key (w.take k) (w.drop k) 0 h
  rwa [List.take_append_drop] at this

theorem walkH_next {up dn : Int} {lv : Bool} {w : List UInt8} {k : Nat} {g d : Int} (hk : k < w.length) (h : walkH up dn lv (w.take k) 0 = some g) (hs : stepOf up dn lv (w.getD k 0) = some d) (hd : ¬ g + d < 0) :
    walkH up dn lv (w.take (k + 1)) 0 = some (g + d) := by
  rw [take_snoc w k hk, walkH_snoc, h]
  dsimp only
  rw [hs]
  dsimp only
  rw [if_neg hd]

theorem walkH_bad {up dn : Int} {lv : Bool} {w : List UInt8} {k : Nat} {g : Int} (hk : k < w.length) (h : walkH up dn lv (w.take k) 0 = some g) (hs : stepOf up dn lv (w.getD k 0) = none) :
    walkH up dn lv w 0 = none := by
  apply walkH_take_none (k := k + 1)
  rw [take_snoc w k hk, walkH_snoc, h]
  dsimp only
  rw [hs]

theorem walkH_low {up dn : Int} {lv : Bool} {w : List UInt8} {k : Nat} {g d : Int} (hk : k < w.length) (h : walkH up dn lv (w.take k) 0 = some g) (hs : stepOf up dn lv (w.getD k 0) = some d) (hd : g + d < 0) :
    walkH up dn lv w 0 = none := by
  apply walkH_take_none (k := k + 1)
  rw [take_snoc w k hk, walkH_snoc, h]
  dsimp only
  rw [hs]
  dsimp only
  rw [if_pos hd]

theorem walkH_bd {up dn : Int} {lv : Bool} (hu : 0 ≤ up) (hdn : dn ≤ up) : ∀ (w : List UInt8) (h g : Int), 0 ≤ h → walkH up dn lv w h = some g → 0 ≤ g ∧ g ≤ h + up * w.length
  | [], h, g, h0, hh => by
    simp only [walkH] at hh
    injection hh with hh
    subst hh
    exact ⟨h0, by simp⟩
  | x :: r, h, g, h0, hh => by
    simp only [walkH] at hh
    cases hs : stepOf up dn lv x with
    | none => rw [hs] at hh; cases hh
    | some d =>
      rw [hs] at hh
      dsimp only at hh
      by_cases hd : h + d < 0
      · simp [hd] at hh
      · simp only [hd, if_false] at hh
        have h1 := walkH_bd hu hdn r (h + d) g (by omega) hh
        have h2 : d ≤ up := by
          unfold stepOf at hs
          split at hs
          · injection hs; omega
          · split at hs
            · injection hs; omega
            · split at hs
              · injection hs; omega
              · cases hs
        refine ⟨h1.1, ?_⟩
        have h3 : up * ((x :: r).length : Int) = up * (r.length : Int) + up := by
          simp only [List.length_cons, Int.natCast_add, Int.mul_add]
          omega
        omega

theorem stepOf_u {up dn : Int} {lv : Bool} {x : UInt8} (h : (x.toNat : Int) = 117) : stepOf up dn lv x = some up := by simp [stepOf, h]
theorem stepOf_d {up dn : Int} {lv : Bool} {x : UInt8} (h : (x.toNat : Int) = 100) : stepOf up dn lv x = some dn := by simp [stepOf, h]
theorem stepOf_l {up dn : Int} {x : UInt8} (h : (x.toNat : Int) = 108) : stepOf up dn true x = some 0 := by simp [stepOf, h]
theorem stepOf_no {up dn : Int} {lv : Bool} {x : UInt8} (h1 : (x.toNat : Int) ≠ 117) (h2 : (x.toNat : Int) ≠ 100) (h3 : (x.toNat : Int) ≠ 108 ∨ lv = false) : stepOf up dn lv x = none := by
  unfold stepOf
  rw [if_neg h1, if_neg h2, if_neg]
  rintro ⟨a, b⟩
  rcases h3 with h | h
  · exact h a
  · rw [h] at b; cases b

/-- paths, Motzkin words, words of Schroeder, words of Fuss -/
def isDyck (w : List UInt8) : Bool := decide (w.length ≤ 16) && (walkH 1 (-1) false w 0 == some 0)
def rises (w : List UInt8) : Bool := walkH 1 (-1) true w 0 == some 0
def isFuss (m : Int) (w : List UInt8) : Bool := decide ((1 ≤ m ∧ m ≤ 4) ∧ w.length ≤ 24) && (walkH (m - 1) (-1) false w 0 == some 0)
def isMotzkin (w : List UInt8) : Bool := decide (w.length ≤ 12) && rises w
def isSchroeder (w : List UInt8) : Bool := decide (w.length + cntB w 108 ≤ 16) && rises w

end Go.Proofs.Ytdfdlnjijccpeaa.Pl
