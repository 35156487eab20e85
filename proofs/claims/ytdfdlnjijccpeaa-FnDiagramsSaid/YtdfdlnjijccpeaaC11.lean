/-
  Contracts of words of Schroeder whose level steps are lifted are proved.
  They hold for all words within the sizes that the statements' code allows.
-/
import Derived.Test.YtdfdlnjijccpeaaC10
set_option linter.unusedVariables false
set_option linter.unusedSimpArgs false
namespace Go.Proofs.Ytdfdlnjijccpeaa
open Go.Proofs.Ytdfdlnjijccpeaa.Ab Go.Proofs.Ytdfdlnjijccpeaa.Pl

theorem or64 (s k : Nat) (hs : s < 2 ^ k) (hk : k ≤ 60) : IntKind.i64.wrap ((BitVec.ofInt IntKind.i64.bits (s : Int) ||| BitVec.ofInt IntKind.i64.bits ((1 : Int) * 2 ^ min (k : Int).toNat IntKind.i64.bits)).toNat : Int) = (s : Int) + 2 ^ k := by
  have h1 : (2 : Nat) ^ k ≤ 2 ^ 60 := Nat.pow_le_pow_right (by decide) hk
  have e1 : (1 : Int) * 2 ^ min (k : Int).toNat IntKind.i64.bits = ((2 ^ k : Nat) : Int) := by
    rw [Int.toNat_natCast, show min k IntKind.i64.bits = k from Nat.min_eq_left (by show k ≤ 64; omega), Int.one_mul]
    simp
  have e2 := Nat.two_pow_add_eq_or_of_lt hs 1
  rw [Nat.mul_one] at e2
  have e3 : (BitVec.ofInt IntKind.i64.bits (s : Int) ||| BitVec.ofInt IntKind.i64.bits ((2 ^ k : Nat) : Int)).toNat = 2 ^ k + s := by
    rw [BitVec.toNat_or, BitVec.ofInt_natCast, BitVec.ofInt_natCast, BitVec.toNat_ofNat, BitVec.toNat_ofNat]
    rw [show (2 : Nat) ^ IntKind.i64.bits = 2 ^ 64 from rfl, Nat.mod_eq_of_lt (show s < 2 ^ 64 by omega), Nat.mod_eq_of_lt (show 2 ^ k < 2 ^ 64 by omega), Nat.or_comm, ← e2]
  rw [e1, e3]
  have e4 : ((2 : Int) ^ k) = ((2 ^ k : Nat) : Int) := by simp
  rw [e4]
  have : IntKind.i64.wrap (((2 ^ k + s : Nat)) : Int) = ((2 ^ k + s : Nat) : Int) := by
    apply IntWalk.i64_in
    omega
  rw [this]
  omega

/-- the word, the set and the number of peaks after so many letters -/
def liftTo (w : List UInt8) : Nat → List UInt8 × Nat × Nat
  | 0 => ([], 0, 0)
  | i + 1 => let r := liftTo w i
    if ((w.getD i 0).toNat : Int) = 108 then (r.1 ++ [117, 100], r.2.1 + 2 ^ r.2.2, r.2.2 + 1)
    else (r.1 ++ [w.getD i 0], r.2.1, if ((w.getD i 0).toNat : Int) = 100 ∧ 0 < i ∧ ((w.getD (i - 1) 0).toNat : Int) = 117 then r.2.2 + 1 else r.2.2)

theorem liftTo_bd (w : List UInt8) : ∀ i, (liftTo w i).2.1 < 2 ^ (liftTo w i).2.2 ∧ (liftTo w i).2.2 ≤ i ∧ (liftTo w i).1.length ≤ 2 * i := by
  intro i
  induction i with
  | zero => exact ⟨by simp [liftTo], by simp [liftTo], by simp [liftTo]⟩
  | succ i ih =>
    simp only [liftTo]
    split
    · refine ⟨?_, by dsimp only; omega, by simp; omega⟩
      dsimp only
      rw [Nat.pow_succ]
      omega
    · refine ⟨?_, by dsimp only; split <;> omega, by simp; omega⟩
      dsimp only
      split
      · rw [Nat.pow_succ]
        omega
      · exact ih.1

theorem cut_one (w : List UInt8) (i : Nat) (h : i < w.length) : (w.take ((i : Int) + 1).toNat).drop (i : Int).toNat = [w.getD i 0] := by
  rw [show ((i : Int) + 1).toNat = i + 1 by omega, Int.toNat_natCast, List.drop_take, show i + 1 - i = 1 by omega]
  have e : (w.drop i).take 1 = [w[i]] := by
    rw [List.drop_eq_getElem_cons h]
    rfl
  rw [e]
  simp [List.getD, h]

def lift (w : List UInt8) : List UInt8 × Int × Bool := if isSchroeder w = true then ((liftTo w w.length).1, ((liftTo w w.length).2.1 : Int), true) else ([], 0, false)

theorem isSchroeder_len {w : List UInt8} (h : isSchroeder w = true) : w.length ≤ 16 := by
  unfold isSchroeder at h
  simp only [Bool.and_eq_true, decide_eq_true_eq] at h
  omega

theorem iLiftLevels_ok (w : List UInt8) (hw : w.length ≤ 4611686018427387903) (h0 : H) : AC env 83 [.str w] h0 fun v h' => v = .tup [.str (lift w).1, .int .i64 (lift w).2.1, .bool (lift w).2.2] ∧ h' = h0 := by
  by_cases hr : isSchroeder w = true
  · rw [show lift w = ((liftTo w w.length).1, ((liftTo w w.length).2.1 : Int), true) from if_pos hr]
    have hl := isSchroeder_len hr
    refine AC.enter Try.func83 Try.call83 rfl Try.ntmps83 (of_decide_eq_true (by rfl)) ?_
    repeat' (first
      | refine AW.seq ?_
      | (refine AW.region ?_; conv => whnf)
      | refine AW.block ?_
      | (refine AW.skip ?_; conv => whnf)
      | refine AW.cond (by rfl) ?_
      | (refine (iIsSchroeder_ok _ (by first | omega | (simp only [List.length_drop, List.length_take, List.length_append, List.length_cons, List.length_nil]; omega)) _).mono ?_; rintro v h' ⟨rfl, e'⟩; subst h'; conv => whnf)
      | refine Br.not ?_
      | (refine Br.t (by assumption) ?_; conv => whnf))
    refine AW.loop4 (fun (s : List UInt8) (x : Int) (k i : Nat) => [(0, .str w), (5, .str s), (6, .int .i64 x), (7, .int .i64 (k : Int)), (8, .int .i64 (i : Int))]) (fun s x k i h' => i ≤ w.length ∧ (∃ set : Nat, x = set ∧ liftTo w i = (s, set, k)) ∧ h' = h0) (fun _ _ _ i => w.length - i) [] 0 0 0
      (Less.cons rfl (Less.cons rfl (Less.cons rfl (Less.cons rfl (Less.cons rfl (Less.nil _)))))) ⟨by omega, ⟨0, rfl, rfl⟩, rfl⟩ ?_
    rintro s x k i h1 ⟨hi, ⟨set, rfl, hs⟩, rfl⟩
    have b := liftTo_bd w i
    rw [hs] at b
    dsimp only at b
    have b2 : (2 : Nat) ^ k ≤ 2 ^ 16 := Nat.pow_le_pow_right (by decide) (by omega)
    have b3 := or64 set k b.1 (by omega)
    have b4 : (1 : Int) * 2 ^ min (k : Int).toNat IntKind.i64.bits = ((2 ^ k : Nat) : Int) := by
      rw [Int.toNat_natCast, show min k IntKind.i64.bits = k from Nat.min_eq_left (by show k ≤ 64; omega), Int.one_mul]
      simp
    have b5 : ((2 : Int) ^ k) = ((2 ^ k : Nat) : Int) := by simp
    have cu := cut_one w i
    have e1 : (i : Int).toNat = i := rfl
    have e2 : ((i : Int) - 1).toNat = i - 1 := by omega
    repeat' (first
      | refine AW.seq ?_
      | (refine AW.region ?_; conv => whnf)
      | refine AW.block ?_
      | (refine AW.skip ?_; conv => whnf)
      | (refine AW.ret ?_; conv => whnf)
      | (refine AW.exit ?_; conv => whnf)
      | refine AW.cond (by rfl) ?_
      | (refine Br.ff ?_; conv => whnf)
      | (refine Br.dt (by omega) ?_; conv => whnf)
      | (refine Br.df (by omega) ?_; conv => whnf)
      | (refine Br.dec (fun hc => ?_) (fun hc => ?_) <;> conv => whnf)
      | (refine Wr.i64 (by omega) ?_; conv => whnf)
      | (refine Ck.mk (by omega) ?_; conv => whnf)
      | (refine Ck.mk (by simp only [List.length_drop, List.length_take, List.length_append, List.length_cons, List.length_nil]; omega) ?_; conv => whnf))
    · have hl : ((w.getD i 0).toNat : Int) = 108 := hc
      exact ⟨_, _, k + 1, i + 1, (Less.cons rfl (Less.cons rfl (Less.cons rfl (Less.cons rfl (Less.cons rfl (Less.nil _)))))), ⟨by omega, ⟨set + 2 ^ k, by rw [b3, b5]; simp, by simp only [liftTo, hs]; rw [if_pos hl]⟩, rfl⟩, by omega⟩
    · rename_i c1 c2 c3
      rw [e2] at hc
      have c1 : ¬ ((w.getD i 0).toNat : Int) = 108 := c1
      have c2 : ((w.getD i 0).toNat : Int) = 100 := c2
      exact ⟨_, _, k + 1, i + 1, (Less.cons rfl (Less.cons rfl (Less.cons rfl (Less.cons rfl (Less.cons rfl (Less.nil _)))))), ⟨by omega, ⟨set, rfl, by simp only [liftTo, hs]; rw [if_neg c1, if_pos ⟨c2, by omega, hc⟩, cu (by omega)]⟩, rfl⟩, by omega⟩
    · rename_i c1 c2 c3
      rw [e2] at hc
      have c1 : ¬ ((w.getD i 0).toNat : Int) = 108 := c1
      exact ⟨_, _, k, i + 1, (Less.cons rfl (Less.cons rfl (Less.cons rfl (Less.cons rfl (Less.cons rfl (Less.nil _)))))), ⟨by omega, ⟨set, rfl, by simp only [liftTo, hs]; rw [if_neg c1, if_neg (fun h => hc h.2.2), cu (by omega)]⟩, rfl⟩, by omega⟩
    · rename_i c1 c2
      have c1 : ¬ ((w.getD i 0).toNat : Int) = 108 := c1
      exact ⟨_, _, k, i + 1, (Less.cons rfl (Less.cons rfl (Less.cons rfl (Less.cons rfl (Less.cons rfl (Less.nil _)))))), ⟨by omega, ⟨set, rfl, by simp only [liftTo, hs]; rw [if_neg c1, if_neg (fun h => by omega), cu (by omega)]⟩, rfl⟩, by omega⟩
    · rename_i c1
      have c1 : ¬ ((w.getD i 0).toNat : Int) = 108 := c1
      exact ⟨_, _, k, i + 1, (Less.cons rfl (Less.cons rfl (Less.cons rfl (Less.cons rfl (Less.cons rfl (Less.nil _)))))), ⟨by omega, ⟨set, rfl, by simp only [liftTo, hs]; rw [if_neg c1, if_neg (fun h => hc h.1), cu (by omega)]⟩, rfl⟩, by omega⟩
    · have e : i = w.length := by omega
      subst e
      rw [hs]
      exact ⟨rfl, rfl⟩
  · rw [show lift w = ([], 0, false) from if_neg hr]
    refine AC.enter Try.func83 Try.call83 rfl Try.ntmps83 (of_decide_eq_true (by rfl)) ?_
    repeat' (first
      | refine AW.seq ?_
      | (refine AW.region ?_; conv => whnf)
      | refine AW.block ?_
      | (refine AW.skip ?_; conv => whnf)
      | (refine AW.ret ?_; conv => whnf)
      | refine AW.cond (by rfl) ?_
      | (refine (iIsSchroeder_ok _ (by first | omega | (simp only [List.length_drop, List.length_take, List.length_append, List.length_cons, List.length_nil]; omega)) _).mono ?_; rintro v h' ⟨rfl, e'⟩; subst h'; conv => whnf)
      | refine Br.not ?_
      | (refine Br.mk (fun hc => ?_) (fun hc => ?_) <;> conv => whnf))
    all_goals first
      | exact ⟨rfl, rfl⟩
      | exact absurd (by assumption) hr

theorem sLiftLevels_ok (w : List UInt8) (hw : w.length ≤ 4611686018427387903) (h0 : H) : AC env 86 [.str w] h0 fun v h' => v = .tup [.str (lift w).1, .int .i64 (lift w).2.1, .bool (lift w).2.2] ∧ h' = h0 := by
  by_cases hr : isSchroeder w = true
  · rw [show lift w = ((liftTo w w.length).1, ((liftTo w w.length).2.1 : Int), true) from if_pos hr]
    have hl := isSchroeder_len hr
    refine AC.enter Try.func86 Try.call86 rfl Try.ntmps86 (of_decide_eq_true (by rfl)) ?_
    repeat' (first
      | refine AW.seq ?_
      | (refine AW.region ?_; conv => whnf)
      | refine AW.block ?_
      | (refine AW.skip ?_; conv => whnf)
      | refine AW.cond (by rfl) ?_
      | (refine (sIsSchroeder_ok _ (by first | omega | (simp only [List.length_drop, List.length_take, List.length_append, List.length_cons, List.length_nil]; omega)) _).mono ?_; rintro v h' ⟨rfl, e'⟩; subst h'; conv => whnf)
      | refine Br.not ?_
      | (refine Br.t (by assumption) ?_; conv => whnf))
    refine AW.loop4 (fun (s : List UInt8) (x : Int) (k i : Nat) => [(0, .str w), (5, .str s), (6, .int .i64 x), (7, .int .i64 (k : Int)), (8, .int .i64 (i : Int))])
      (fun s x k i h' => i ≤ w.length ∧ (∃ set : Nat, x = set ∧ liftTo w i = (s, set, k)) ∧ (0 < i → i < w.length → ((w.getD (i - 1) 0).toNat : Int) = 117 → ((w.getD i 0).toNat : Int) ≠ 100) ∧ h' = h0) (fun _ _ _ i => w.length - i) [] 0 0 0
      (Less.cons rfl (Less.cons rfl (Less.cons rfl (Less.cons rfl (Less.cons rfl (Less.nil _)))))) ⟨by omega, ⟨0, rfl, rfl⟩, fun h => absurd h (by decide), rfl⟩ ?_
    rintro s x k i h1 ⟨hi, ⟨set, rfl, hs⟩, hh, rfl⟩
    have b := liftTo_bd w i
    rw [hs] at b
    dsimp only at b
    have b2 : (2 : Nat) ^ k ≤ 2 ^ 16 := Nat.pow_le_pow_right (by decide) (by omega)
    have b4 : (1 : Int) * 2 ^ min (k : Int).toNat IntKind.i64.bits = ((2 ^ k : Nat) : Int) := by
      rw [Int.toNat_natCast, show min k IntKind.i64.bits = k from Nat.min_eq_left (by show k ≤ 64; omega), Int.one_mul]
      simp
    have cu := cut_one w i
    have cu2 := cut_two w i
    repeat' (first
      | refine AW.seq ?_
      | (refine AW.region ?_; conv => whnf)
      | refine AW.block ?_
      | (refine AW.skip ?_; conv => whnf)
      | (refine AW.ret ?_; conv => whnf)
      | (refine AW.exit ?_; conv => whnf)
      | refine AW.cond (by rfl) ?_
      | (refine Br.ff ?_; conv => whnf)
      | (refine Br.dt (by omega) ?_; conv => whnf)
      | (refine Br.df (by omega) ?_; conv => whnf)
      | (refine Br.dec (fun hc => ?_) (fun hc => ?_) <;> conv => whnf)
      | (refine Br.mk (fun hc => ?_) (fun hc => ?_) <;> conv => whnf)
      | (refine Wr.i64 (by omega) ?_; conv => whnf)
      | (refine Ck.mk (by omega) ?_; conv => whnf)
      | (refine Ck.mk (by simp only [List.length_drop, List.length_take, List.length_append, List.length_cons, List.length_nil]; omega) ?_; conv => whnf))
    · have hl : ((w.getD i 0).toNat : Int) = 108 := hc
      refine ⟨_, _, k + 1, i + 1, (Less.cons rfl (Less.cons rfl (Less.cons rfl (Less.cons rfl (Less.cons rfl (Less.nil _)))))), ⟨by omega, ⟨set + 2 ^ k, by rw [b4]; simp, by simp only [liftTo, hs]; rw [if_pos hl]⟩, fun _ _ h => ?_, rfl⟩, by omega⟩
      rw [Nat.add_sub_cancel] at h
      omega
    · rename_i c1 c2
      have c1 : ¬ ((w.getD i 0).toNat : Int) = 108 := c1
      rw [cu2 (by omega)] at hc
      have hc : w.getD i 0 = 117 ∧ w.getD (i + 1) 0 = 100 := by simpa using hc
      have d1 : ((w.getD i 0).toNat : Int) = 117 := by rw [hc.1]; rfl
      have d2 : ((w.getD (i + 1) 0).toNat : Int) = 100 := by rw [hc.2]; rfl
      refine ⟨_, _, k + 1, i + 2, (Less.cons rfl (Less.cons rfl (Less.cons rfl (Less.cons rfl (Less.cons rfl (Less.nil _)))))), ⟨by omega, ⟨set, rfl, ?_⟩, fun _ _ h => ?_, rfl⟩, by omega⟩
      · have e1 : liftTo w (i + 1) = (s ++ [w.getD i 0], set, k) := by simp only [liftTo, hs]; rw [if_neg c1, if_neg (fun h => by omega)]
        show liftTo w (i + 1 + 1) = _
        rw [liftTo, e1]
        dsimp only
        rw [if_neg (by omega), if_pos ⟨d2, by omega, by rw [Nat.add_sub_cancel]; exact d1⟩, hc.1, hc.2, List.append_assoc]
        rfl
      · rw [show i + 2 - 1 = i + 1 by omega] at h
        omega
    · rename_i c1 c2
      have c1 : ¬ ((w.getD i 0).toNat : Int) = 108 := c1
      rw [cu2 (by omega)] at hc
      refine ⟨_, _, k, i + 1, (Less.cons rfl (Less.cons rfl (Less.cons rfl (Less.cons rfl (Less.cons rfl (Less.nil _)))))), ⟨by omega, ⟨set, rfl, by simp only [liftTo, hs]; rw [if_neg c1, if_neg (fun h => hh h.2.1 (by omega) h.2.2 h.1), cu (by omega)]⟩, fun _ _ h g => ?_, rfl⟩, by omega⟩
      rw [Nat.add_sub_cancel] at h
      have e1 : w.getD i 0 = 117 := UInt8.toNat_inj.1 (by rw [show (117 : UInt8).toNat = 117 from rfl]; omega)
      have e2 : w.getD (i + 1) 0 = 100 := UInt8.toNat_inj.1 (by rw [show (100 : UInt8).toNat = 100 from rfl]; omega)
      rw [e1, e2] at hc
      cases hc
    · rename_i c1
      have c1 : ¬ ((w.getD i 0).toNat : Int) = 108 := c1
      exact ⟨_, _, k, i + 1, (Less.cons rfl (Less.cons rfl (Less.cons rfl (Less.cons rfl (Less.cons rfl (Less.nil _)))))), ⟨by omega, ⟨set, rfl, by simp only [liftTo, hs]; rw [if_neg c1, if_neg (fun h => hh h.2.1 (by omega) h.2.2 h.1), cu (by omega)]⟩, fun _ _ h g => by omega, rfl⟩, by omega⟩
    · have e : i = w.length := by omega
      subst e
      rw [hs]
      exact ⟨rfl, rfl⟩
  · rw [show lift w = ([], 0, false) from if_neg hr]
    refine AC.enter Try.func86 Try.call86 rfl Try.ntmps86 (of_decide_eq_true (by rfl)) ?_
    repeat' (first
      | refine AW.seq ?_
      | (refine AW.region ?_; conv => whnf)
      | refine AW.block ?_
      | (refine AW.skip ?_; conv => whnf)
      | (refine AW.ret ?_; conv => whnf)
      | refine AW.cond (by rfl) ?_
      | (refine (sIsSchroeder_ok _ (by first | omega | (simp only [List.length_drop, List.length_take, List.length_append, List.length_cons, List.length_nil]; omega)) _).mono ?_; rintro v h' ⟨rfl, e'⟩; subst h'; conv => whnf)
      | refine Br.not ?_
      | (refine Br.mk (fun hc => ?_) (fun hc => ?_) <;> conv => whnf))
    all_goals first
      | exact ⟨rfl, rfl⟩
      | exact absurd (by assumption) hr


end Go.Proofs.Ytdfdlnjijccpeaa
