/-
  Contracts of small functions of the program and of the reference are proved: range tests and the shift of a word.
  They hold for all arguments within the kinds of their types.
-/
import Derived.Test.YtbicfognbbeigaaGreatEnv
import Derived.Test.YtbicfognbbeigaaGreatGX
import Derived.IntWalk
import Derived.Test.YtbicfognbbeigaaGreatGY
set_option linter.unusedVariables false
set_option linter.unusedSimpArgs false
namespace Go.Proofs.YtbicfognbbeigaaGreat
open Go.Proofs.YtbicfognbbeigaaGreat.Ab

theorem within_ok (x lo hi : Int) (h : H) : AC env 47 [.int .i64 x, .int .i64 lo, .int .i64 hi] h fun v h' => v = .bool (decide (lo ≤ x ∧ x ≤ hi)) ∧ h' = h := by
  refine AC.enter Tryz.func47 Tryz.call47 rfl Tryz.ntmps47 (of_decide_eq_true (by rfl)) ?_
  repeat' (first
    | refine AW.seq ?_
    | (refine AW.region ?_; conv => whnf)
    | (refine AW.ret ?_; conv => whnf)
    | (refine Br.dt (by omega) ?_; conv => whnf)
    | (refine Br.df (by omega) ?_; conv => whnf)
    | (refine Br.dec (fun hc => ?_) (fun hc => ?_) <;> conv => whnf))
  · exact ⟨congrArg AV.bool (by simp; omega), rfl⟩
  · exact ⟨congrArg AV.bool (by simp; omega), rfl⟩

theorem l1In_ok (x lo hi : Int) (h : H) : AC env 53 [.int .i64 x, .int .i64 lo, .int .i64 hi] h fun v h' => v = .bool (decide (lo ≤ x ∧ x ≤ hi)) ∧ h' = h := by
  refine AC.enter Tryz.func53 Tryz.call53 rfl Tryz.ntmps53 (of_decide_eq_true (by rfl)) ?_
  repeat' (first
    | refine AW.seq ?_
    | (refine AW.region ?_; conv => whnf)
    | (refine AW.ret ?_; conv => whnf)
    | (refine Br.dt (by omega) ?_; conv => whnf)
    | (refine Br.df (by omega) ?_; conv => whnf)
    | (refine Br.dec (fun hc => ?_) (fun hc => ?_) <;> conv => whnf))
  · exact ⟨congrArg AV.bool (by simp; omega), rfl⟩
  · exact ⟨congrArg AV.bool (by simp; omega), rfl⟩

/-- the first k bytes at the end -/
def shiftW (w : List UInt8) (k : Int) : List UInt8 × Bool :=
  if w.length ≤ 17 ∧ 0 ≤ k ∧ k ≤ max 0 ((w.length : Int) - 1) then (w.drop k.toNat ++ w.take k.toNat, true) else ([], false)

theorem shiftW_yes {w : List UInt8} {k : Int} (h : w.length ≤ 17 ∧ 0 ≤ k ∧ k ≤ max 0 ((w.length : Int) - 1)) : shiftW w k = (w.drop k.toNat ++ w.take k.toNat, true) := if_pos h
theorem shiftW_no {w : List UInt8} {k : Int} (h : ¬ (w.length ≤ 17 ∧ 0 ≤ k ∧ k ≤ max 0 ((w.length : Int) - 1))) : shiftW w k = ([], false) := if_neg h




end Go.Proofs.YtbicfognbbeigaaGreat

/-
  Plain laws about words of letters are proved: how often a letter stands, heights, and balanced words.
  They hold for all lists of bytes.
-/
set_option linter.unusedVariables false
set_option linter.unusedSimpArgs false
namespace Go.Proofs.YtbicfognbbeigaaGreat.Pl

/-- how often a byte of this number stands in a word -/
def cntB (w : List UInt8) (c : Int) : Nat := (w.filter fun x => (x.toNat : Int) == c).length

theorem cntB_le (w : List UInt8) (c : Int) : cntB w c ≤ w.length := List.length_filter_le _ _
theorem cntB_snoc (w : List UInt8) (x : UInt8) (c : Int) : cntB (w ++ [x]) c = cntB w c + if (x.toNat : Int) = c then 1 else 0 := by
  unfold cntB
  rw [List.filter_append, List.length_append]
  by_cases h : (x.toNat : Int) = c <;> simp [h]

theorem take_snoc (w : List UInt8) (k : Nat) (h : k < w.length) : w.take (k + 1) = w.take k ++ [w.getD k 0] := by
  rw [List.take_succ_eq_append_getElem h]
  simp [List.getD, h]

/-- all letters are u or d -/
def steps (w : List UInt8) : Bool := w.all fun x => (x.toNat : Int) == 117 || (x.toNat : Int) == 100

theorem steps_snoc (w : List UInt8) (x : UInt8) : steps (w ++ [x]) = (steps w && ((x.toNat : Int) == 117 || (x.toNat : Int) == 100)) := by
  simp [steps]

theorem steps_take {w : List UInt8} (h : steps w = true) (k : Nat) : steps (w.take k) = true := by
  unfold steps at *
  rw [List.all_eq_true] at *
  exact fun x hx => h x (List.mem_of_mem_take hx)

theorem steps_at {w : List UInt8} {k : Nat} (hk : k < w.length) (h1 : ((w.getD k 0).toNat : Int) ≠ 117) (h2 : ((w.getD k 0).toNat : Int) ≠ 100) : steps w = false := by
  cases h : steps w with
  | false => rfl
  | true =>
    unfold steps at h
    rw [List.all_eq_true] at h
    have := h (w.getD k 0) (by simp [List.getD, hk])
    simp only [Bool.or_eq_true, beq_iff_eq] at this
    omega

/-- the height at the end: letters u less letters d -/
def hgt (w : List UInt8) : Int := (cntB w 117 : Int) - (cntB w 100 : Int)

theorem hgt_u (w : List UInt8) (x : UInt8) (h : (x.toNat : Int) = 117) : hgt (w ++ [x]) = hgt w + 1 := by
  unfold hgt
  rw [cntB_snoc, cntB_snoc, if_pos h, if_neg (by omega)]
  omega
theorem hgt_d (w : List UInt8) (x : UInt8) (h : (x.toNat : Int) = 100) : hgt (w ++ [x]) = hgt w - 1 := by
  unfold hgt
  rw [cntB_snoc, cntB_snoc, if_pos h, if_neg (by omega)]
  omega
theorem hgt_bd (w : List UInt8) : -(w.length : Int) ≤ hgt w ∧ hgt w ≤ w.length := by
  have h1 := cntB_le w 117
  have h2 := cntB_le w 100
  unfold hgt
  omega

theorem steps_iff (w : List UInt8) : steps w = true ↔ cntB w 117 + cntB w 100 = w.length := by
  induction w with
  | nil => simp [steps, cntB]
  | cons x r ih =>
    have e1 : cntB (x :: r) 117 = cntB r 117 + if (x.toNat : Int) = 117 then 1 else 0 := by unfold cntB; by_cases h : (x.toNat : Int) = 117 <;> simp [h]
    have e2 : cntB (x :: r) 100 = cntB r 100 + if (x.toNat : Int) = 100 then 1 else 0 := by unfold cntB; by_cases h : (x.toNat : Int) = 100 <;> simp [h]
    have e3 : steps (x :: r) = (((x.toNat : Int) == 117 || (x.toNat : Int) == 100) && steps r) := by simp [steps]
    have a1 := cntB_le r 117
    have key : cntB r 117 + cntB r 100 ≤ r.length := by
      clear ih e1 e2 e3 a1
      induction r with
      | nil => simp [cntB]
      | cons y s ih =>
        have f1 : cntB (y :: s) 117 = cntB s 117 + if (y.toNat : Int) = 117 then 1 else 0 := by unfold cntB; by_cases h : (y.toNat : Int) = 117 <;> simp [h]
        have f2 : cntB (y :: s) 100 = cntB s 100 + if (y.toNat : Int) = 100 then 1 else 0 := by unfold cntB; by_cases h : (y.toNat : Int) = 100 <;> simp [h]
        rw [f1, f2]
        simp only [List.length_cons]
        split <;> split <;> omega
    rw [e1, e2, e3]
    simp only [List.length_cons, Bool.and_eq_true, Bool.or_eq_true, beq_iff_eq, ih]
    split <;> split <;> omega

/-- balanced words -/
def isBal (w : List UInt8) : Prop := w.length ≤ 17 ∧ steps w = true ∧ hgt w = -1

instance (w : List UInt8) : Decidable (isBal w) := by unfold isBal; infer_instance

/-- what a letter does to the height; nothing for other bytes -/
def stepOf (up dn : Int) (lv : Bool) (x : UInt8) : Option Int :=
  if (x.toNat : Int) = 117 then some up else if (x.toNat : Int) = 100 then some dn else if (x.toNat : Int) = 108 ∧ lv = true then some 0 else none

/-- the height at the end, if it never falls below 0 and all letters are known -/
def walkH (up dn : Int) (lv : Bool) : List UInt8 → Int → Option Int
  | [], h => some h
  | x :: r, h => match stepOf up dn lv x with
    | none => none
    | some d => if h + d < 0 then none else walkH up dn lv r (h + d)

theorem walkH_snoc (up dn : Int) (lv : Bool) (w : List UInt8) (x : UInt8) : ∀ h, walkH up dn lv (w ++ [x]) h = (match walkH up dn lv w h with
    | none => none
    | some g => match stepOf up dn lv x with
      | none => none
      | some d => if g + d < 0 then none else some (g + d)) := by
  induction w with
  | nil =>
    intro h
    simp only [List.nil_append, walkH]
  | cons y r ih =>
    intro h
    simp only [List.cons_append, walkH]
    cases stepOf up dn lv y with
    | none => rfl
    | some d =>
      dsimp only
      by_cases hd : h + d < 0
      · simp [hd]
      · simp only [hd, if_false]
        exact ih _

theorem walkH_take_none {up dn : Int} {lv : Bool} {w : List UInt8} {k : Nat} (h : walkH up dn lv (w.take k) 0 = none) : walkH up dn lv w 0 = none := by
  have key : ∀ (a b : List UInt8) (h : Int), walkH up dn lv a h = none → walkH up dn lv (a ++ b) h = none := by
    intro a
    induction a with
    | nil => intro b h hh; cases hh
    | cons x r ih =>
      intro b h hh
      simp only [List.cons_append, walkH] at hh ⊢
      cases hs : stepOf up dn lv x with
      | none => rfl
      | some d =>
        rw [hs] at hh
        dsimp only at hh ⊢
        by_cases hd : h + d < 0
        · simp [hd]
        · simp only [hd, if_false] at hh ⊢
          exact ih b _ hh
  have := key (w.take k) (w.drop k) 0 h
  rwa [List.take_append_drop] at this

theorem walkH_next {up dn : Int} {lv : Bool} {w : List UInt8} {k : Nat} {g d : Int} (hk : k < w.length) (h : walkH up dn lv (w.take k) 0 = some g) (hs : stepOf up dn lv (w.getD k 0) = some d) (hd : ¬ g + d < 0) :
    walkH up dn lv (w.take (k + 1)) 0 = some (g + d) := by
  rw [take_snoc w k hk, walkH_snoc, h]
  dsimp only
  rw [hs]
  dsimp only
  rw [if_neg hd]

theorem walkH_bad {up dn : Int} {lv : Bool} {w : List UInt8} {k : Nat} {g : Int} (hk : k < w.length) (h : walkH up dn lv (w.take k) 0 = some g) (hs : stepOf up dn lv (w.getD k 0) = none) :
    walkH up dn lv w 0 = none := by
  apply walkH_take_none (k := k + 1)
  rw [take_snoc w k hk, walkH_snoc, h]
  dsimp only
  rw [hs]

theorem walkH_low {up dn : Int} {lv : Bool} {w : List UInt8} {k : Nat} {g d : Int} (hk : k < w.length) (h : walkH up dn lv (w.take k) 0 = some g) (hs : stepOf up dn lv (w.getD k 0) = some d) (hd : g + d < 0) :
    walkH up dn lv w 0 = none := by
  apply walkH_take_none (k := k + 1)
  rw [take_snoc w k hk, walkH_snoc, h]
  dsimp only
  rw [hs]
  dsimp only
  rw [if_pos hd]

theorem walkH_bd {up dn : Int} {lv : Bool} (hu : 0 ≤ up) (hdn : dn ≤ up) : ∀ (w : List UInt8) (h g : Int), 0 ≤ h → walkH up dn lv w h = some g → 0 ≤ g ∧ g ≤ h + up * w.length
  | [], h, g, h0, hh => by
    simp only [walkH] at hh
    injection hh with hh
    subst hh
    exact ⟨h0, by simp⟩
  | x :: r, h, g, h0, hh => by
    simp only [walkH] at hh
    cases hs : stepOf up dn lv x with
    | none => rw [hs] at hh; cases hh
    | some d =>
      rw [hs] at hh
      dsimp only at hh
      by_cases hd : h + d < 0
      · simp [hd] at hh
      · simp only [hd, if_false] at hh
        have h1 := walkH_bd hu hdn r (h + d) g (by omega) hh
        have h2 : d ≤ up := by
          unfold stepOf at hs
          split at hs
          · injection hs; omega
          · split at hs
            · injection hs; omega
            · split at hs
              · injection hs; omega
              · cases hs
        refine ⟨h1.1, ?_⟩
        have h3 : up * ((x :: r).length : Int) = up * (r.length : Int) + up := by
          simp only [List.length_cons, Int.natCast_add, Int.mul_add]
          omega
        omega

theorem stepOf_u {up dn : Int} {lv : Bool} {x : UInt8} (h : (x.toNat : Int) = 117) : stepOf up dn lv x = some up := by simp [stepOf, h]
theorem stepOf_d {up dn : Int} {lv : Bool} {x : UInt8} (h : (x.toNat : Int) = 100) : stepOf up dn lv x = some dn := by simp [stepOf, h]
theorem stepOf_l {up dn : Int} {x : UInt8} (h : (x.toNat : Int) = 108) : stepOf up dn true x = some 0 := by simp [stepOf, h]
theorem stepOf_no {up dn : Int} {lv : Bool} {x : UInt8} (h1 : (x.toNat : Int) ≠ 117) (h2 : (x.toNat : Int) ≠ 100) (h3 : (x.toNat : Int) ≠ 108 ∨ lv = false) : stepOf up dn lv x = none := by
  unfold stepOf
  rw [if_neg h1, if_neg h2, if_neg]
  rintro ⟨a, b⟩
  rcases h3 with h | h
  · exact h a
  · rw [h] at b; cases b

/-- paths, Motzkin words, words of Schroeder, words of Fuss -/
def isDyck (w : List UInt8) : Bool := decide (w.length ≤ 16) && (walkH 1 (-1) false w 0 == some 0)
def rises (w : List UInt8) : Bool := walkH 1 (-1) true w 0 == some 0
def isFuss (m : Int) (w : List UInt8) : Bool := decide ((1 ≤ m ∧ m ≤ 4) ∧ w.length ≤ 24) && (walkH (m - 1) (-1) false w 0 == some 0)
def isMotzkin (w : List UInt8) : Bool := decide (w.length ≤ 12) && rises w
def isSchroeder (w : List UInt8) : Bool := decide (w.length + cntB w 108 ≤ 16) && rises w

end Go.Proofs.YtbicfognbbeigaaGreat.Pl

/-
  Contracts of the functions that draw are proved.
  They hold for all codes of at most 1048576 bytes.
-/
set_option linter.unusedVariables false
set_option linter.unusedSimpArgs false
namespace Go.Proofs.YtbicfognbbeigaaGreat
open Go.Proofs.YtbicfognbbeigaaGreat.Ab Go.Proofs.YtbicfognbbeigaaGreat.Pl

/-- the block that a drawer reads off, with the code and two numbers -/
def curB (v : AV) (i k : Int) : Blk := .cells true 3 [v, .int .i64 i, .int .i64 k]
structure CurSt (H0 h : H) (c : Nat) (L : List (Nat × Blk)) : Prop where
  ex : ∃ (v : AV) (l : List UInt8) (i k : Int), l.length ≤ 1048576 ∧ CellsAt H0 v (bytesAV l) ∧ (0 ≤ i ∧ i ≤ l.length) ∧ St H0 h ((c, curB v i k) :: L)
theorem CurSt.st {H0 h : H} {c : Nat} {L : List (Nat × Blk)} (s : CurSt H0 h c L) : St H0 h L := by
  obtain ⟨v, l, i, k, h1, h2, h3, h4⟩ := s.ex
  exact h4.tail
theorem CurSt.keeps {H0 h : H} {c : Nat} {L : List (Nat × Blk)} (s : CurSt H0 h c L) : Keeps H0 h := s.st.keeps
theorem NewG.cur {H0 h : H} {c : Nat} {L : List (Nat × Blk)} {x : Blk} {K : Nat → H → Prop} (s : CurSt H0 h c L) (hk : ∀ b h', CurSt H0 h' c ((b, x) :: L) → K b h') : NewG h x K := by
  obtain ⟨v, l, i, k, h1, h2, h3, h4⟩ := s.ex
  exact NewG.st h4 fun b h' hs' => hk b h' ⟨v, l, i, k, h1, h2, h3, hs'.perm (.swap _ _ _)⟩
theorem CurSt.sub {H0 h : H} {c : Nat} {L M : List (Nat × Blk)} (s : CurSt H0 h c L) (m : M.Sublist L) : CurSt H0 h c M := by
  obtain ⟨v, l, i, k, h1, h2, h3, h4⟩ := s.ex
  exact ⟨v, l, i, k, h1, h2, h3, h4.sub (List.Sublist.cons_cons _ m)⟩
theorem CurSt.keep {H0 h h' : H} {c : Nat} {L : List (Nat × Blk)} (s : CurSt H0 h c L) (m : Keeps h h') : CurSt H0 h' c L := by
  obtain ⟨v, l, i, k, h1, h2, h3, h4⟩ := s.ex
  exact ⟨v, l, i, k, h1, h2, h3, h4.keep m⟩

set_option maxRecDepth 20000 in
theorem l1New_ok (l : List UInt8) (v : AV) (h0 : H) (hv : CellsAt h0 v (bytesAV l)) (hl : l.length ≤ 1048576) : AC env 44 [v] h0 fun w h' => ∃ c, w = .ptr c 0 ∧ CurSt h0 h' c [] := by
  have hs := St.refl h0
  have hv2 := hv
  rcases hv2 with ⟨rfl, e⟩ | ⟨b, cp, rfl, hb⟩
  · have e2 : l = [] := List.eq_nil_of_length_eq_zero (by rw [← bytesAV_length, e]; rfl)
    subst e2
    refine AC.enter Tryz.func44 Tryz.call44 rfl Tryz.ntmps44 (of_decide_eq_true (by rfl)) ?_
    repeat' (first
      | refine AW.seq ?_
      | (refine AW.region ?_; conv => whnf)
      | refine AW.block ?_
      | (refine Wr.i64 (by omega) ?_; conv => whnf))
    refine AW.once ?_
    repeat' (first
      | refine AW.seq ?_
      | (refine AW.region ?_; conv => whnf)
      | (refine AW.ret ?_; conv => whnf)
      | (refine AW.exit ?_; conv => whnf)
      | refine AW.cond (by rfl) ?_
      | (refine Br.ff ?_; conv => whnf)
      | (refine NewG.st (by assumption) (fun bt h' hs' => ?_); conv => whnf))
    exact ⟨_, rfl, ⟨.nilslice, [], 0, _, by simp, hv, by simp, hs'⟩⟩
  · rw [bytesAV_length] at hv ⊢
    refine AC.enter Tryz.func44 Tryz.call44 rfl Tryz.ntmps44 (of_decide_eq_true (by rfl)) ?_
    repeat' (first
      | refine AW.seq ?_
      | (refine AW.region ?_; conv => whnf)
      | refine AW.block ?_
      | (refine Wr.i64 (by omega) ?_; conv => whnf))
    refine AW.loop2 (fun (i : Nat) (k : Int) => [(0, .slice b 0 l.length cp), (3, .int .i64 k), (4, .int .i64 i)]) (fun i k h' => i ≤ l.length ∧ (0 ≤ k ∧ k ≤ 1073741823) ∧ h' = h0) (fun i _ => l.length - i) 0 _
      (Less.cons rfl (Less.cons rfl (Less.cons rfl (Less.nil _)))) ⟨by omega, by omega, rfl⟩ ?_
    rintro i k h1 ⟨hi, hk, rfl⟩
    by_cases hlt : i < l.length ∧ i < 4000
    · have bu : (l.getD ((i : Nat) : Int).toNat 0).toNat < 256 := UInt8.toNat_lt _
      repeat' (first
        | (refine Br.dt (by omega) ?_; conv => whnf)
        | (refine Has.loadAt hb rfl (bytesAV_get l _ (by omega)) ?_; conv => whnf)
        | refine AW.seq ?_
        | (refine AW.region ?_; conv => whnf)
        | refine AW.block ?_
        | (refine AW.skip ?_; conv => whnf)
        | refine AW.cond (by rfl) ?_
        | (refine Br.dt (by omega) ?_; conv => whnf)
        | (refine Wr.i64 (by omega) ?_; conv => whnf)
        | (refine Ck.mk (by omega) ?_; conv => whnf))
      exact ⟨i + 1, _, (Less.cons rfl (Less.cons rfl (Less.cons rfl (Less.nil _)))), ⟨by omega, mask_bd _ 1073741823 (by omega), rfl⟩, by omega⟩
    · repeat' (first
        | (refine Br.dt (by omega) ?_; conv => whnf)
        | (refine Br.df (by omega) ?_; conv => whnf)
        | (refine Br.dec (fun hc => ?_) (fun hc => ?_) <;> conv => whnf)
        | refine AW.seq ?_
        | (refine AW.region ?_; conv => whnf)
        | (refine AW.ret ?_; conv => whnf)
        | (refine AW.exit ?_; conv => whnf)
        | refine AW.cond (by rfl) ?_
        | (refine Br.ff ?_; conv => whnf)
        | (refine Br.dt (by omega) ?_; conv => whnf)
        | (refine Br.df (by omega) ?_; conv => whnf)
        | (refine Br.dec (fun hc => ?_) (fun hc => ?_) <;> conv => whnf)
        | (refine NewG.st (by assumption) (fun bt h' hs' => ?_); conv => whnf))
      all_goals exact ⟨_, rfl, ⟨.slice b 0 l.length cp, l, 0, k, hl, .inr ⟨b, cp, by rw [bytesAV_length], hb⟩, by omega, hs'⟩⟩

set_option maxRecDepth 20000 in
theorem l1Byte_ok (H0 h : H) (c : Nat) (L : List (Nat × Blk)) (s : CurSt H0 h c L) : AC env 90 [.ptr c 0] h fun w h' => ∃ x : Int, w = .int .i64 x ∧ (0 ≤ x ∧ x ≤ 255) ∧ CurSt H0 h' c L := by
  obtain ⟨v, l, i, k, hl, hv, hi, hs⟩ := s.ex
  clear s
  have hs : St H0 h ((c, .cells true 3 [v, .int .i64 i, .int .i64 k]) :: L) := hs
  have hv2 := hv
  rcases hv2 with ⟨rfl, e⟩ | ⟨b, cp, rfl, hb⟩
  · have e2 : l = [] := List.eq_nil_of_length_eq_zero (by rw [← bytesAV_length, e]; rfl)
    subst e2
    simp only [List.length_nil] at hi
    refine AC.enter Tryz.func90 Tryz.call90 rfl Tryz.ntmps90 (of_decide_eq_true (by rfl)) ?_
    repeat' (first
      | (refine Has.load (St.has (by assumption) (.head _)) rfl ?_; conv => whnf)
      | (refine StoreG.st hs .here (of_decide_eq_true rfl) rfl (fun h' hs' => ?_); conv => whnf)
      | (refine Wr.wrap ?_; conv => whnf)
      | refine AW.seq ?_
      | (refine AW.region ?_; conv => whnf)
      | (refine AW.skip ?_; conv => whnf)
      | (refine AW.ret ?_; conv => whnf)
      | refine AW.cond (by rfl) ?_
      | (refine AW.draw (id := 2) (.p 0 (.p 1 (.p 2 (.p 5 (.p 6 (.p 7 (.r 3 [4, 10, 11, 12] (.p 4 (.r 8 [9, 10, 11, 12] (.p 9 (.p 10 (.p 11 (.p 12 .done))))))))))))) (by kernel_rfl) (by kernel_rfl) ?_; conv => whnf)
      | (refine AW.draw (id := 3) (.p 0 (.p 1 (.p 2 (.p 4 (.p 5 (.p 6 (.r 3 [9] (.r 7 [8, 9] (.p 8 (.p 9 .done)))))))))) (by kernel_rfl) (by kernel_rfl) ?_; conv => whnf)
      | (refine Br.df (by omega) ?_; conv => whnf)
      | (refine Ck.mk (by omega) ?_; conv => whnf))
    exact ⟨_, rfl, mask_bd _ 255 (by omega), ⟨.nilslice, [], i, _, hl, hv, by simpa using hi, hs'⟩⟩
  · by_cases hlt : i < l.length
    · have hb2 : ∀ h', Keeps H0 h' → Has h' b (bytesAV l) := fun h' k => hb.keep k
      have iw : IntKind.i64.wrap (i + 1) = i + 1 := IntWalk.i64_in _ (by omega)
      rw [bytesAV_length] at hs
      refine AC.enter Tryz.func90 Tryz.call90 rfl Tryz.ntmps90 (of_decide_eq_true (by rfl)) ?_
      repeat' (first
        | (refine Has.load (St.has (by assumption) (.head _)) rfl ?_; conv => whnf)
        | (refine Has.loadAt (hb2 _ (St.keeps (by assumption))) rfl (bytesAV_get l _ (by omega)) ?_; conv => whnf)
        | (refine StoreG.st hs .here (of_decide_eq_true rfl) rfl (fun h2 hs2 => ?_); conv => whnf)
        | (refine StoreG.st hs2 .here (of_decide_eq_true rfl) rfl (fun h3 hs3 => ?_); conv => whnf)
        | (refine Wr.wrap ?_; conv => whnf)
        | refine AW.seq ?_
        | (refine AW.region ?_; conv => whnf)
        | (refine AW.ret ?_; conv => whnf)
        | refine AW.cond (by rfl) ?_
        | (refine AW.draw (id := 2) (.p 0 (.p 1 (.p 2 (.p 5 (.p 6 (.p 7 (.r 3 [4, 10, 11, 12] (.p 4 (.r 8 [9, 10, 11, 12] (.p 9 (.p 10 (.p 11 (.p 12 .done))))))))))))) (by kernel_rfl) (by kernel_rfl) ?_; conv => whnf)
        | (refine AW.draw (id := 3) (.p 0 (.p 1 (.p 2 (.p 4 (.p 5 (.p 6 (.r 3 [9] (.r 7 [8, 9] (.p 8 (.p 9 .done)))))))))) (by kernel_rfl) (by kernel_rfl) ?_; conv => whnf)
        | (refine AW.draw (id := 4) (.p 0 (.p 1 (.p 2 (.p 3 (.p 5 (.p 6 (.p 7 (.r 4 [9, 10, 11, 12, 13, 14] (.r 8 [9, 10, 11, 12, 13, 14] (.p 9 (.r 10 [11, 12, 13, 14] (.p 11 (.p 12 (.p 13 (.p 14 .done))))))))))))))) (by kernel_rfl) (by kernel_rfl) ?_; conv => whnf)
        | (refine Br.dt (by omega) ?_; conv => whnf)
        | (refine Ck.mk (by omega) ?_; conv => whnf))
      rw [iw] at hs3
      exact ⟨_, rfl, mask_bd _ 255 (by omega), ⟨.slice b 0 l.length cp, l, i + 1, _, hl, .inr ⟨b, cp, by rw [bytesAV_length], hb⟩, by omega, hs3⟩⟩
    · rw [bytesAV_length] at hs
      refine AC.enter Tryz.func90 Tryz.call90 rfl Tryz.ntmps90 (of_decide_eq_true (by rfl)) ?_
      repeat' (first
        | (refine Has.load (St.has (by assumption) (.head _)) rfl ?_; conv => whnf)
        | (refine StoreG.st hs .here (of_decide_eq_true rfl) rfl (fun h2 hs2 => ?_); conv => whnf)
        | (refine Wr.wrap ?_; conv => whnf)
        | refine AW.seq ?_
        | (refine AW.region ?_; conv => whnf)
        | (refine AW.skip ?_; conv => whnf)
        | (refine AW.ret ?_; conv => whnf)
        | refine AW.cond (by rfl) ?_
        | (refine AW.draw (id := 2) (.p 0 (.p 1 (.p 2 (.p 5 (.p 6 (.p 7 (.r 3 [4, 10, 11, 12] (.p 4 (.r 8 [9, 10, 11, 12] (.p 9 (.p 10 (.p 11 (.p 12 .done))))))))))))) (by kernel_rfl) (by kernel_rfl) ?_; conv => whnf)
        | (refine AW.draw (id := 3) (.p 0 (.p 1 (.p 2 (.p 4 (.p 5 (.p 6 (.r 3 [9] (.r 7 [8, 9] (.p 8 (.p 9 .done)))))))))) (by kernel_rfl) (by kernel_rfl) ?_; conv => whnf)
        | (refine Br.df (by omega) ?_; conv => whnf)
        | (refine Ck.mk (by omega) ?_; conv => whnf))
      exact ⟨_, rfl, mask_bd _ 255 (by omega), ⟨.slice b 0 l.length cp, l, i, _, hl, .inr ⟨b, cp, by rw [bytesAV_length], hb⟩, by omega, hs2⟩⟩

theorem tmod_bd {x n : Int} (hx : 0 ≤ x) (hn : 0 < n) : 0 ≤ x.tmod n ∧ x.tmod n < n := ⟨Int.tmod_nonneg _ hx, Int.tmod_lt_of_pos _ hn⟩
theorem l1Below_ok (n : Int) (H0 h : H) (c : Nat) (L : List (Nat × Blk)) (s : CurSt H0 h c L) : AC env 46 [.ptr c 0, .int .i64 n] h fun w h' => ∃ x : Int, w = .int .i64 x ∧ 0 ≤ x ∧ (0 < n → x < n) ∧ CurSt H0 h' c L := by
  refine AC.enter Tryz.func46 Tryz.call46 rfl Tryz.ntmps46 (of_decide_eq_true (by rfl)) ?_
  repeat' (first
    | refine AW.seq ?_
    | (refine AW.region ?_; conv => whnf)
    | (refine AW.skip ?_; conv => whnf)
    | (refine AW.ret ?_; conv => whnf)
    | refine AW.cond (by rfl) ?_
    | (refine (l1Byte_ok _ _ _ _ (by assumption)).mono ?_; rintro w h' ⟨xB, rfl, hxB, hcur⟩; conv => whnf)
    | (refine Br.dec (fun hc => ?_) (fun hc => ?_) <;> conv => whnf)
    | (refine Wr.i64 (by omega) ?_; conv => whnf)
    | (refine Ck.mk (by omega) ?_; conv => whnf))
  · exact ⟨0, rfl, by omega, fun h => by omega, s⟩
  all_goals first
    | exact ⟨_, rfl, (tmod_bd (by omega) (by omega)).1, fun _ => (tmod_bd (by omega) (by omega)).2, hcur⟩

theorem l1Once_ok (n : Int) (H0 h : H) (c : Nat) (L : List (Nat × Blk)) (s : CurSt H0 h c L) : AC env 82 [.ptr c 0, .int .i64 n] h fun w h' => ∃ x : Bool, w = .bool x ∧ CurSt H0 h' c L := by
  refine AC.enter Tryz.func82 Tryz.call82 rfl Tryz.ntmps82 (of_decide_eq_true (by rfl)) ?_
  repeat' (first
    | refine AW.seq ?_
    | (refine AW.region ?_; conv => whnf)
    | (refine AW.ret ?_; conv => whnf)
    | (refine (l1Below_ok _ _ _ _ _ (by assumption)).mono ?_; rintro w h' ⟨xB, rfl, hxB, hxB2, hcur⟩; conv => whnf))
  exact ⟨_, rfl, hcur⟩

theorem l1PickInt_ok (l : List Int) (b N C : Nat) (H0 h : H) (c : Nat) (L : List (Nat × Blk)) (s : CurSt H0 h c L) (m : (b, row (ints l)) ∈ L) (hN : N = l.length) (h1 : 1 ≤ N) (h2 : N ≤ 1000) : AC env 89 [.ptr c 0, .slice b 0 N C] h fun w h' => ∃ x : Int, w = .int .i64 x ∧ x ∈ l ∧ CurSt H0 h' c L := by
  refine AC.enter Tryz.func89 Tryz.call89 rfl Tryz.ntmps89 (of_decide_eq_true (by rfl)) ?_
  repeat' (first
    | (refine Has.loadZ (St.has (CurSt.st (by assumption)) m) rfl (by omega) ?_; conv => whnf)
    | refine AW.seq ?_
    | (refine AW.region ?_; conv => whnf)
    | (refine AW.ret ?_; conv => whnf)
    | (refine (l1Below_ok _ _ _ _ _ (by assumption)).mono ?_; rintro w h' ⟨xB, rfl, hxB, hxB2, hcur⟩; conv => whnf)
    | (refine Ck.mk (by omega) ?_; conv => whnf))
  refine ⟨_, rfl, ?_, hcur⟩
  have hk : xB.toNat < l.length := by omega
  rw [show l.getD xB.toNat 0 = l[xB.toNat] by simp [List.getD, hk]]
  exact List.getElem_mem hk

theorem l1Pick_ok (l : List (List UInt8)) (b N C : Nat) (H0 h : H) (c : Nat) (L : List (Nat × Blk)) (s : CurSt H0 h c L) (m : (b, row (strs l)) ∈ L) (hN : N = l.length) (h1 : 1 ≤ N) (h2 : N ≤ 1000) : AC env 130 [.ptr c 0, .slice b 0 N C] h fun w h' => ∃ x : List UInt8, w = .str x ∧ x ∈ l ∧ CurSt H0 h' c L := by
  refine AC.enter Tryz.func130 Tryz.call130 rfl Tryz.ntmps130 (of_decide_eq_true (by rfl)) ?_
  repeat' (first
    | (refine Has.loadS (St.has (CurSt.st (by assumption)) m) rfl (by omega) ?_; conv => whnf)
    | refine AW.seq ?_
    | (refine AW.region ?_; conv => whnf)
    | refine AW.block ?_
    | (refine AW.skip ?_; conv => whnf)
    | (refine AW.ret ?_; conv => whnf)
    | (refine AW.exit ?_; conv => whnf)
    | refine AW.cond (by rfl) ?_
    | (refine (l1Below_ok _ _ _ _ _ (by assumption)).mono ?_; rintro w h' ⟨xB, rfl, hxB, hxB2, hcur⟩; conv => whnf)
    | (refine Br.tt ?_; conv => whnf)
    | (refine Br.ff ?_; conv => whnf)
    | refine Br.not ?_
    | (refine Br.t (beq_self_eq_true _) ?_; conv => whnf)
    | (refine Br.t (by assumption) ?_; conv => whnf)
    | (refine Br.f (by assumption) ?_; conv => whnf)
    | (refine Br.dt (by omega) ?_; conv => whnf)
    | (refine Br.df (by omega) ?_; conv => whnf)
    | (refine Br.it (by omega) ?_; conv => whnf)
    | (refine Br.if (by omega) ?_; conv => whnf)
    | (refine Br.nt (by omega) ?_; conv => whnf)
    | (refine Br.nf (by omega) ?_; conv => whnf)
    | (refine Br.dec (fun hc => ?_) (fun hc => ?_) <;> conv => whnf)
    | (refine Br.ieq (fun hc => ?_) (fun hc => ?_) <;> conv => whnf)
    | (refine Br.ine (fun hc => ?_) (fun hc => ?_) <;> conv => whnf)
    | (refine Br.mk (fun hc => ?_) (fun hc => ?_) <;> conv => whnf)
    | (refine Wr.i64 (by omega) ?_; conv => whnf)
    | (refine Ck.mk (by omega) ?_; conv => whnf)
    | (refine Wr.i64 (by simp only [List.length_drop, List.length_take, List.length_append, List.length_cons, List.length_nil]; omega) ?_; conv => whnf)
    | (refine Ck.mk (by simp only [List.length_drop, List.length_take, List.length_append, List.length_cons, List.length_nil]; omega) ?_; conv => whnf)
    | (refine Has.load1 (by first | assumption | exact St.has (by assumption) (by repeat first | exact .head _ | apply List.Mem.tail) | exact St.arg (by assumption) (by assumption)) ?_; conv => whnf)
    | (refine Has.loadS (by first | assumption | exact St.has (by assumption) (by repeat first | exact .head _ | apply List.Mem.tail) | exact St.arg (by assumption) (by assumption)) rfl (by first | (simp; done) | omega | (simp only [List.length_set, List.length_append, List.length_cons, List.length_nil, List.length_replicate, tab_length]; omega) | (simp; omega)) ?_; conv => whnf)
    | (refine Ck.mk (by simp; omega) ?_; conv => whnf))
  refine ⟨_, rfl, ?_, hcur⟩
  have hk : xB.toNat < l.length := by omega
  rw [show l.getD xB.toNat [] = l[xB.toNat] by simp [List.getD, hk]]
  exact List.getElem_mem hk

end Go.Proofs.YtbicfognbbeigaaGreat

/-
  Contracts of functions on words of letters are proved: counting, balanced words.
  They hold for all words within the size of an int.
-/
set_option linter.unusedVariables false
set_option linter.unusedSimpArgs false
namespace Go.Proofs.YtbicfognbbeigaaGreat
open Go.Proofs.YtbicfognbbeigaaGreat.Ab Go.Proofs.YtbicfognbbeigaaGreat.Pl





end Go.Proofs.YtbicfognbbeigaaGreat

/-
  Contracts of the tests of words are proved: words of Motzkin, of Schroeder and of Fuss.
  They hold for all words within the size of an int.
-/
set_option linter.unusedVariables false
set_option linter.unusedSimpArgs false
namespace Go.Proofs.YtbicfognbbeigaaGreat
open Go.Proofs.YtbicfognbbeigaaGreat.Ab Go.Proofs.YtbicfognbbeigaaGreat.Pl










end Go.Proofs.YtbicfognbbeigaaGreat

/-
  Plain laws of small numbers are proved: binomials by two ways.
  They hold for the numbers that are tried, all of them.
-/
set_option linter.unusedVariables false
set_option linter.unusedSimpArgs false
namespace Go.Proofs.YtbicfognbbeigaaGreat.Pl

/-- the program's binomial: factors from below -/
def chooseI (n k : Int) : Nat → Int
  | 0 => 1
  | i + 1 => (chooseI n k i * (n - k + (i + 1))).tdiv (i + 1)
/-- the reference's binomial: factors from above -/
def binI (n : Int) : Nat → Int
  | 0 => 1
  | i + 1 => (binI n i * (n - i)).tdiv (i + 1)

/-- both are small, and the same -/
def binFine (n k : Nat) : Bool := (List.range (k + 1)).all fun i => decide (0 ≤ chooseI n k i ∧ chooseI n k i ≤ 1000000000 ∧ 0 ≤ binI n i ∧ binI n i ≤ 1000000000)
theorem binFine_c {n k : Nat} (h : binFine n k = true) : ∀ i : Nat, i ≤ k → 0 ≤ chooseI n k i ∧ chooseI n k i ≤ 1000000000 := by
  intro i hi
  unfold binFine at h
  rw [List.all_eq_true] at h
  have := h i (by simp; omega)
  simp only [decide_eq_true_eq] at this
  exact ⟨this.1, this.2.1⟩
theorem binFine_b {n k : Nat} (h : binFine n k = true) : ∀ i : Nat, i ≤ k → 0 ≤ binI n i ∧ binI n i ≤ 1000000000 := by
  intro i hi
  unfold binFine at h
  rw [List.all_eq_true] at h
  have := h i (by simp; omega)
  simp only [decide_eq_true_eq] at this
  exact this.2.2

set_option synthInstance.maxSize 4096 in
set_option synthInstance.maxHeartbeats 400000 in
theorem fuss_fine0 : ∀ m, m < 5 → m ≠ 0 → ∀ n, n < 7 → binFine (m * n) n = true ∧ chooseI ((m * n : Nat) : Int) n n = binI ((m * n : Nat) : Int) n ∧ m * n ≤ 24 ∧ n ≤ m * n ∧ 0 ≤ (((m : Nat) : Int) - 1) * n ∧ (((m : Nat) : Int) - 1) * n ≤ 24
    ∧ -1000000000 ≤ (chooseI ((m * n : Nat) : Int) n n).tdiv ((((m : Nat) : Int) - 1) * n + 1) ∧ (chooseI ((m * n : Nat) : Int) n n).tdiv ((((m : Nat) : Int) - 1) * n + 1) ≤ 1000000000 := by decide +kernel
theorem fuss_fine {m n : Int} (hm : 1 ≤ m ∧ m ≤ 4) (hn : 0 ≤ n ∧ n ≤ 6) : binFine (m * n).toNat n.toNat = true ∧ chooseI (m * n) n n.toNat = binI (m * n) n.toNat ∧ m * n ≤ 24 ∧ n ≤ m * n ∧ 0 ≤ (m - 1) * n ∧ (m - 1) * n ≤ 24
    ∧ -1000000000 ≤ (chooseI (m * n) n n.toNat).tdiv ((m - 1) * n + 1) ∧ (chooseI (m * n) n n.toNat).tdiv ((m - 1) * n + 1) ≤ 1000000000 := by
  obtain ⟨a, rfl⟩ := Int.eq_ofNat_of_zero_le (show 0 ≤ m by omega)
  obtain ⟨b, rfl⟩ := Int.eq_ofNat_of_zero_le (show 0 ≤ n by omega)
  obtain ⟨h1, h2, h3, h4, h5⟩ := fuss_fine0 a (by omega) (by omega) b (by omega)
  have e : ((a * b : Nat) : Int) = (a : Int) * b := Int.natCast_mul a b
  rw [← e]
  exact ⟨h1, h2, by omega, by omega, h5⟩

/-- the number of words of Fuss -/
def fussN (m n : Int) : Int := if (1 ≤ m ∧ m ≤ 4) ∧ 0 ≤ n ∧ n ≤ 6 then (chooseI (m * n) n n.toNat).tdiv ((m - 1) * n + 1) else -1

end Go.Proofs.YtbicfognbbeigaaGreat.Pl
