/-
  Contracts of words whose peaks are flattened are proved.
  They hold for all words within the sizes that the statements' code allows.
-/
import Derived.Test.YtdfdlnjijccpeaaC12
set_option linter.unusedVariables false
set_option linter.unusedSimpArgs false
namespace Go.Proofs.Ytdfdlnjijccpeaa
open Go.Proofs.Ytdfdlnjijccpeaa.Ab Go.Proofs.Ytdfdlnjijccpeaa.Pl

theorem dyck_walk {w : List UInt8} (h : isDyck w = true) (i : Nat) : ∃ g, walkH 1 (-1) false (w.take i) 0 = some g ∧ 0 ≤ g := by
  unfold isDyck at h
  simp only [Bool.and_eq_true, decide_eq_true_eq, beq_iff_eq] at h
  cases hx : walkH 1 (-1) false (w.take i) 0 with
  | none => rw [walkH_take_none hx] at h; cases h.2
  | some g => exact ⟨g, rfl, (walkH_bd (by decide) (by decide) _ _ _ (by decide) hx).1⟩
theorem dyck_letters {w : List UInt8} (h : isDyck w = true) {i : Nat} (hi : i < w.length) (n : w.getD i 0 ≠ 100) : w.getD i 0 = 117 := by
  obtain ⟨g, hg, _⟩ := dyck_walk h i
  apply Classical.byContradiction
  intro n2
  have := walkH_bad hi hg (stepOf_no (fun e => n2 ((byte_117 _).1 e)) (fun e => n ((byte_100 _).1 e)) (.inr rfl))
  unfold isDyck at h
  rw [this] at h
  simp at h
theorem dyck_last {w : List UInt8} (h : isDyck w = true) {i : Nat} (hi : i < w.length) (n : w.getD i 0 = 117) : i + 1 < w.length := by
  obtain ⟨g, hg, h0⟩ := dyck_walk h i
  apply Classical.byContradiction
  intro n2
  have e : i + 1 = w.length := by omega
  have := walkH_next hi hg (stepOf_u ((byte_117 _).2 n)) (by omega)
  rw [e, List.take_length] at this
  unfold isDyck at h
  rw [this] at h
  simp only [Bool.and_eq_true, beq_iff_eq, Option.some.injEq] at h
  omega

/-- the bit of a set, as the code reads it -/
def bitP (set k : Int) : Prop := IntKind.i64.wrap ((BitVec.ofInt IntKind.i64.bits (set.fdiv (2 ^ min k.toNat IntKind.i64.bits)) &&& BitVec.ofInt IntKind.i64.bits 1).toNat : Int) = 1
instance (set k : Int) : Decidable (bitP set k) := by unfold bitP; infer_instance
/-- the word and the number of peaks after so many letters -/
def flTo (w : List UInt8) (set : Int) : Nat → List UInt8 × Nat
  | 0 => ([], 0)
  | i + 1 => let r := flTo w set i
    if peakAt w i then (r.1 ++ [if bitP set r.2 then 108 else 117], r.2 + 1)
    else if 0 < i ∧ peakAt w (i - 1) ∧ bitP set (r.2 - 1 : Nat) then r else (r.1 ++ [w.getD i 0], r.2)
theorem flTo_bd (w : List UInt8) (set : Int) : ∀ i, (flTo w set i).1.length ≤ i ∧ (flTo w set i).2 ≤ i := by
  intro i
  induction i with
  | zero => exact ⟨by simp [flTo], by simp [flTo]⟩
  | succ i ih =>
    simp only [flTo]
    split
    · exact ⟨by simp; omega, by dsimp only; omega⟩
    · split
      · exact ⟨by omega, by omega⟩
      · exact ⟨by simp; omega, by dsimp only; omega⟩
def flatOk (w : List UInt8) (set : Int) : Prop := isDyck w = true ∧ 0 ≤ set ∧ set ≤ (1 : Int) * 2 ^ min (peaks w).toNat IntKind.i64.bits - 1
instance (w : List UInt8) (set : Int) : Decidable (flatOk w set) := by unfold flatOk; infer_instance
def flat (w : List UInt8) (set : Int) : List UInt8 × Bool := if flatOk w set then ((flTo w set w.length).1, true) else ([], false)
theorem peaks_bd {w : List UInt8} (h : isDyck w = true) : (0 ≤ peaks w ∧ peaks w ≤ 16) ∧ 1 ≤ (1 : Int) * 2 ^ min (peaks w).toNat IntKind.i64.bits ∧ (1 : Int) * 2 ^ min (peaks w).toNat IntKind.i64.bits ≤ 65536 := by
  have e : peaks w = (peaksTo w (w.length - 1) : Int) := if_pos h
  have b := peaksTo_le w (w.length - 1)
  have l := (isDyck_even h).2
  have b1 : 0 ≤ peaks w ∧ peaks w ≤ 16 := by omega
  obtain ⟨n, hn⟩ := Int.eq_ofNat_of_zero_le b1.1
  refine ⟨b1, ?_⟩
  rw [hn, Int.toNat_natCast, show min n IntKind.i64.bits = n from Nat.min_eq_left (by show n ≤ 64; omega), Int.one_mul, show ((2 : Int) ^ n) = ((2 ^ n : Nat) : Int) by simp]
  have h1 : (2 : Nat) ^ n ≤ 2 ^ 16 := Nat.pow_le_pow_right (by decide) (by omega)
  have h2 : 0 < (2 : Nat) ^ n := Nat.pow_pos (by decide)
  omega

theorem flTo_peak {w : List UInt8} {set : Int} {i k : Nat} {s : List UInt8} (hs : flTo w set i = (s, k)) (h : peakAt w i) : flTo w set (i + 1) = (s ++ [if bitP set k then 108 else 117], k + 1) := by
  simp only [flTo, hs]
  rw [if_pos h]
theorem flTo_skip {w : List UInt8} {set : Int} {i k : Nat} {s : List UInt8} (hs : flTo w set i = (s, k)) (h : ¬ peakAt w i) (h2 : 0 < i ∧ peakAt w (i - 1) ∧ bitP set (k - 1 : Nat)) : flTo w set (i + 1) = (s, k) := by
  simp only [flTo, hs]
  rw [if_neg h, if_pos h2]
theorem flTo_plain {w : List UInt8} {set : Int} {i k : Nat} {s : List UInt8} (hs : flTo w set i = (s, k)) (h : ¬ peakAt w i) (h2 : ¬ (0 < i ∧ peakAt w (i - 1) ∧ bitP set (k - 1 : Nat))) : flTo w set (i + 1) = (s ++ [w.getD i 0], k) := by
  simp only [flTo, hs]
  rw [if_neg h, if_neg h2]

theorem iFlattenPeaks_ok (w : List UInt8) (set : Int) (hw : w.length ≤ 9223372036854775807) (h0 : H) : AC env 81 [.str w, .int .i64 set] h0 fun v h' => v = .tup [.str (flat w set).1, .bool (flat w set).2] ∧ Keeps h0 h' := by
  by_cases hd : isDyck w = true
  · have pb := peaks_bd hd
    have hl := (isDyck_even hd).2
    by_cases hr : 0 ≤ set ∧ set ≤ (1 : Int) * 2 ^ min (peaks w).toNat IntKind.i64.bits - 1
    · rw [show flat w set = ((flTo w set w.length).1, true) from if_pos ⟨hd, hr⟩]
      refine AC.enter Try.func81 Try.call81 rfl Try.ntmps81 (of_decide_eq_true (by rfl)) ?_
      repeat' (first
        | refine AW.seq ?_
        | (refine AW.region ?_; conv => whnf)
        | refine AW.block ?_
        | (refine AW.skip ?_; conv => whnf)
        | refine AW.cond (by rfl) ?_
        | (refine (iIsDyck_ok _ (by first | omega | (simp only [List.length_drop, List.length_take, List.length_append, List.length_cons, List.length_nil]; omega)) _).mono ?_; rintro v h' ⟨rfl, hk'⟩; conv => whnf)
        | (refine (iPeaksOf_ok _ (by first | omega | (simp only [List.length_drop, List.length_take, List.length_append, List.length_cons, List.length_nil]; omega)) _).mono ?_; rintro v h' ⟨rfl, hk'⟩; conv => whnf)
        | (refine (within_ok _ _ _ _).mono ?_; rintro v h' ⟨rfl, e'⟩; subst h'; conv => whnf)
        | refine Br.not ?_
        | (refine Br.t (by assumption) ?_; conv => whnf)
        | (refine Br.dt (by omega) ?_; conv => whnf)
        | (refine Wr.i64 (by omega) ?_; conv => whnf)
        | (refine Ck.mk (by omega) ?_; conv => whnf))
      rename_i _ k1
      refine AW.loop3 (fun (s : List UInt8) (k i : Nat) => [(0, .str w), (1, .int .i64 set), (6, .str s), (7, .int .i64 (k : Int)), (8, .int .i64 (i : Int))])
        (fun s k i h' => i ≤ w.length ∧ flTo w set i = (s, k) ∧ ¬ (0 < i ∧ peakAt w (i - 1) ∧ bitP set (k - 1 : Nat)) ∧ Keeps h0 h') (fun _ _ i => w.length - i) [] 0 0
        (Less.cons rfl (Less.cons rfl (Less.cons rfl (Less.cons rfl (Less.cons rfl (Less.nil _)))))) ⟨by omega, rfl, fun h => absurd h.1 (by decide), k1.trans hk'⟩ ?_
      rintro s k i h1 ⟨hi, hs, hh, hk1⟩
      have b := flTo_bd w set i
      rw [hs] at b
      dsimp only at b
      have cu := cut_one w i
      have e1 : (i : Int).toNat = i := rfl
      have e2 : ((i : Int) + 1).toNat = i + 1 := rfl
      have ll : (i : Int) < w.length → ¬ ((w.getD (i : Int).toNat 0).toNat : Int) = 100 → (i : Int) + 1 < w.length := fun h n => by
        have := dyck_last hd (i := i) (by omega) (dyck_letters hd (by omega) (fun e => n ((byte_100 _).2 e)))
        omega
      repeat' (first
        | refine AW.seq ?_
        | (refine AW.region ?_; conv => whnf)
        | refine AW.block ?_
        | (refine AW.skip ?_; conv => whnf)
        | (refine AW.ret ?_; conv => whnf)
        | (refine AW.exit ?_; conv => whnf)
        | refine AW.cond (by rfl) ?_
        | (refine Br.tt ?_; conv => whnf)
        | (refine Br.dt (by omega) ?_; conv => whnf)
        | (refine Br.df (by omega) ?_; conv => whnf)
        | (refine Br.dec (fun hc => ?_) (fun hc => ?_) <;> conv => whnf)
        | (refine Wr.i64 (by omega) ?_; conv => whnf)
        | (refine Ck.mk (by omega) ?_; conv => whnf)
        | (refine Ck.mk (by simp only [List.length_drop, List.length_take, List.length_append, List.length_cons, List.length_nil]; omega) ?_; conv => whnf))
      · have d : w.getD i 0 = 100 := (byte_100 _).1 hc
        have np : ¬ peakAt w i := fun h => absurd (d.symm.trans h.1) (by decide)
        exact ⟨_, k, i + 1, (Less.cons rfl (Less.cons rfl (Less.cons rfl (Less.cons rfl (Less.cons rfl (Less.nil _)))))), ⟨by omega, by rw [flTo_plain hs np hh, cu (by omega)], fun h => np (by simpa using h.2.1), hk1⟩, by omega⟩
      · have d : w.getD (i + 1) 0 = 117 := (byte_117 _).1 hc
        have np : ¬ peakAt w i := fun h => absurd (d.symm.trans h.2) (by decide)
        exact ⟨_, k, i + 1, (Less.cons rfl (Less.cons rfl (Less.cons rfl (Less.cons rfl (Less.cons rfl (Less.nil _)))))), ⟨by omega, by rw [flTo_plain hs np hh, cu (by omega)], fun h => np (by simpa using h.2.1), hk1⟩, by omega⟩
      · rename_i c1 c2 c3
        have d1 : w.getD i 0 = 117 := dyck_letters hd (by omega) (fun e => c2 ((byte_100 _).2 e))
        have l1 := dyck_last hd (by omega) d1
        have d2 : w.getD (i + 1) 0 = 100 := Classical.byContradiction fun n => c3 ((byte_117 _).2 (dyck_letters hd l1 n))
        have np : ¬ peakAt w (i + 1) := fun h => absurd (d2.symm.trans h.1) (by decide)
        have hb : bitP set k := hc
        have s1 := flTo_peak (set := set) hs ⟨d1, d2⟩
        rw [if_pos hb] at s1
        have s2 := flTo_skip s1 np ⟨by omega, by rw [Nat.add_sub_cancel]; exact ⟨d1, d2⟩, by rw [Nat.add_sub_cancel]; exact hb⟩
        exact ⟨_, k + 1, i + 2, (Less.cons rfl (Less.cons rfl (Less.cons rfl (Less.cons rfl (Less.cons rfl (Less.nil _)))))), ⟨by omega, s2, fun h => np (by simpa using h.2.1), hk1⟩, by omega⟩
      · rename_i c1 c2 c3
        have d1 : w.getD i 0 = 117 := dyck_letters hd (by omega) (fun e => c2 ((byte_100 _).2 e))
        have l1 := dyck_last hd (by omega) d1
        have d2 : w.getD (i + 1) 0 = 100 := Classical.byContradiction fun n => c3 ((byte_117 _).2 (dyck_letters hd l1 n))
        have hb : ¬ bitP set k := hc
        have s1 := flTo_peak (set := set) hs ⟨d1, d2⟩
        rw [if_neg hb] at s1
        exact ⟨_, k + 1, i + 1, (Less.cons rfl (Less.cons rfl (Less.cons rfl (Less.cons rfl (Less.cons rfl (Less.nil _)))))), ⟨by omega, s1, fun h => hb (by have := h.2.2; rwa [Nat.add_sub_cancel] at this), hk1⟩, by omega⟩
      · have e : i = w.length := by omega
        subst e
        rw [hs]
        exact ⟨rfl, hk1⟩
    · rw [show flat w set = ([], false) from if_neg fun h => hr h.2]
      refine AC.enter Try.func81 Try.call81 rfl Try.ntmps81 (of_decide_eq_true (by rfl)) ?_
      repeat' (first
        | refine AW.seq ?_
        | (refine AW.region ?_; conv => whnf)
        | (refine AW.ret ?_; conv => whnf)
        | refine AW.cond (by rfl) ?_
        | (refine (iIsDyck_ok _ (by first | omega | (simp only [List.length_drop, List.length_take, List.length_append, List.length_cons, List.length_nil]; omega)) _).mono ?_; rintro v h' ⟨rfl, hk'⟩; conv => whnf)
        | (refine (iPeaksOf_ok _ (by first | omega | (simp only [List.length_drop, List.length_take, List.length_append, List.length_cons, List.length_nil]; omega)) _).mono ?_; rintro v h' ⟨rfl, hk'⟩; conv => whnf)
        | (refine (within_ok _ _ _ _).mono ?_; rintro v h' ⟨rfl, e'⟩; subst h'; conv => whnf)
        | refine Br.not ?_
        | (refine Br.t (by assumption) ?_; conv => whnf)
        | (refine Br.df (by omega) ?_; conv => whnf)
        | (refine Wr.i64 (by omega) ?_; conv => whnf)
        | (refine Ck.mk (by omega) ?_; conv => whnf))
      rename_i _ k1
      exact ⟨rfl, k1.trans hk'⟩
  · rw [show flat w set = ([], false) from if_neg fun h => hd h.1]
    have hd : isDyck w = false := by simpa using hd
    refine AC.enter Try.func81 Try.call81 rfl Try.ntmps81 (of_decide_eq_true (by rfl)) ?_
    repeat' (first
      | refine AW.seq ?_
      | (refine AW.region ?_; conv => whnf)
      | (refine AW.ret ?_; conv => whnf)
      | refine AW.cond (by rfl) ?_
      | (refine (iIsDyck_ok _ (by first | omega | (simp only [List.length_drop, List.length_take, List.length_append, List.length_cons, List.length_nil]; omega)) _).mono ?_; rintro v h' ⟨rfl, hk'⟩; conv => whnf)
      | (refine Br.tt ?_; conv => whnf)
      | refine Br.not ?_
      | (refine Br.f (by assumption) ?_; conv => whnf))
    exact ⟨rfl, hk'⟩

theorem sFlattenPeaks_ok (w : List UInt8) (set : Int) (hw : w.length ≤ 9223372036854775807) (h0 : H) : AC env 82 [.str w, .int .i64 set] h0 fun v h' => v = .tup [.str (flat w set).1, .bool (flat w set).2] ∧ h' = h0 := by
  by_cases hd : isDyck w = true
  · have pb := peaks_bd hd
    have hl := (isDyck_even hd).2
    by_cases hr : 0 ≤ set ∧ set ≤ (1 : Int) * 2 ^ min (peaks w).toNat IntKind.i64.bits - 1
    · rw [show flat w set = ((flTo w set w.length).1, true) from if_pos ⟨hd, hr⟩]
      refine AC.enter Try.func82 Try.call82 rfl Try.ntmps82 (of_decide_eq_true (by rfl)) ?_
      repeat' (first
        | refine AW.seq ?_
        | (refine AW.region ?_; conv => whnf)
        | refine AW.block ?_
        | (refine AW.skip ?_; conv => whnf)
        | refine AW.cond (by rfl) ?_
        | (refine (sPeaksOf_ok _ (by first | omega | (simp only [List.length_drop, List.length_take, List.length_append, List.length_cons, List.length_nil]; omega)) _).mono ?_; rintro v h' ⟨rfl, e'⟩; subst h'; conv => whnf)
        | (refine (l1In_ok _ _ _ _).mono ?_; rintro v h' ⟨rfl, e'⟩; subst h'; conv => whnf)
        | refine Br.not ?_
        | (refine Br.dt (by omega) ?_; conv => whnf)
        | (refine Br.df (by omega) ?_; conv => whnf)
        | (refine Wr.i64 (by omega) ?_; conv => whnf)
        | (refine Ck.mk (by omega) ?_; conv => whnf))
      refine AW.loop3 (fun (s : List UInt8) (k i : Nat) => [(0, .str w), (1, .int .i64 set), (7, .str s), (8, .int .i64 (k : Int)), (9, .int .i64 (i : Int))])
        (fun s k i h' => i ≤ w.length ∧ flTo w set i = (s, k) ∧ ¬ (0 < i ∧ peakAt w (i - 1)) ∧ h' = h0) (fun _ _ i => w.length - i) [] 0 0
        (Less.cons rfl (Less.cons rfl (Less.cons rfl (Less.cons rfl (Less.cons rfl (Less.nil _)))))) ⟨by omega, rfl, fun h => absurd h.1 (by decide), rfl⟩ ?_
      rintro s k i h1 ⟨hi, hs, hh, rfl⟩
      have b := flTo_bd w set i
      rw [hs] at b
      dsimp only at b
      have cu := cut_one w i
      have cu2 := cut_two w i
      repeat' (first
        | refine AW.seq ?_
        | (refine AW.region ?_; conv => whnf)
        | refine AW.block ?_
        | (refine AW.skip ?_; conv => whnf)
        | (refine AW.ret ?_; conv => whnf)
        | (refine AW.exit ?_; conv => whnf)
        | refine AW.cond (by rfl) ?_
        | (refine Br.ff ?_; conv => whnf)
        | (refine Br.dt (by omega) ?_; conv => whnf)
        | (refine Br.df (by omega) ?_; conv => whnf)
        | (refine Br.dec (fun hc => ?_) (fun hc => ?_) <;> conv => whnf)
        | (refine Br.mk (fun hc => ?_) (fun hc => ?_) <;> conv => whnf)
        | (refine Wr.i64 (by omega) ?_; conv => whnf)
        | (refine Ck.mk (by omega) ?_; conv => whnf)
        | (refine Ck.mk (by simp only [List.length_drop, List.length_take, List.length_append, List.length_cons, List.length_nil]; omega) ?_; conv => whnf))
      · rename_i c1 c2 c3
        rw [cu2 (by omega)] at c3
        have pk : peakAt w i := by simpa [peakAt] using c3
        have np : ¬ peakAt w (i + 1) := fun h => absurd (pk.2.symm.trans h.1) (by decide)
        have hb : bitP set k := hc
        have s1 := flTo_peak (set := set) hs pk
        rw [if_pos hb] at s1
        have s2 := flTo_skip s1 np ⟨by omega, by rw [Nat.add_sub_cancel]; exact pk, by rw [Nat.add_sub_cancel]; exact hb⟩
        exact ⟨_, k + 1, i + 2, (Less.cons rfl (Less.cons rfl (Less.cons rfl (Less.cons rfl (Less.cons rfl (Less.nil _)))))), ⟨by omega, s2, fun h => np (by simpa using h.2), rfl⟩, by omega⟩
      · rename_i c1 c2 c3
        rw [cu2 (by omega)] at c3
        have pk : peakAt w i := by simpa [peakAt] using c3
        have np : ¬ peakAt w (i + 1) := fun h => absurd (pk.2.symm.trans h.1) (by decide)
        have hb : ¬ bitP set k := hc
        have s1 := flTo_peak (set := set) hs pk
        rw [if_neg hb] at s1
        have s2 := flTo_plain s1 np (fun h => hb (by have := h.2.2; rwa [Nat.add_sub_cancel] at this))
        rw [pk.2, List.append_assoc] at s2
        exact ⟨_, k + 1, i + 2, (Less.cons rfl (Less.cons rfl (Less.cons rfl (Less.cons rfl (Less.cons rfl (Less.nil _)))))), ⟨by omega, s2, fun h => np (by simpa using h.2), rfl⟩, by omega⟩
      · rename_i c1 c2
        rw [cu2 (by omega)] at hc
        have np : ¬ peakAt w i := fun h => by rw [h.1, h.2] at hc; cases hc
        exact ⟨_, k, i + 1, (Less.cons rfl (Less.cons rfl (Less.cons rfl (Less.cons rfl (Less.cons rfl (Less.nil _)))))), ⟨by omega, by rw [flTo_plain hs np (fun h => hh ⟨h.1, h.2.1⟩), cu (by omega)], fun h => np (by simpa using h.2), rfl⟩, by omega⟩
      · have np : ¬ peakAt w i := fun h => by have := dyck_last hd (i := i) (by omega) h.1; omega
        exact ⟨_, k, i + 1, (Less.cons rfl (Less.cons rfl (Less.cons rfl (Less.cons rfl (Less.cons rfl (Less.nil _)))))), ⟨by omega, by rw [flTo_plain hs np (fun h => hh ⟨h.1, h.2.1⟩), cu (by omega)], fun h => np (by simpa using h.2), rfl⟩, by omega⟩
      · have e : i = w.length := by omega
        subst e
        rw [hs]
        exact ⟨rfl, rfl⟩
    · rw [show flat w set = ([], false) from if_neg fun h => hr h.2]
      refine AC.enter Try.func82 Try.call82 rfl Try.ntmps82 (of_decide_eq_true (by rfl)) ?_
      repeat' (first
        | refine AW.seq ?_
        | (refine AW.region ?_; conv => whnf)
        | (refine AW.ret ?_; conv => whnf)
        | refine AW.cond (by rfl) ?_
        | (refine (sPeaksOf_ok _ (by first | omega | (simp only [List.length_drop, List.length_take, List.length_append, List.length_cons, List.length_nil]; omega)) _).mono ?_; rintro v h' ⟨rfl, e'⟩; subst h'; conv => whnf)
        | (refine (l1In_ok _ _ _ _).mono ?_; rintro v h' ⟨rfl, e'⟩; subst h'; conv => whnf)
        | refine Br.not ?_
        | (refine Br.df (by omega) ?_; conv => whnf)
        | (refine Wr.i64 (by omega) ?_; conv => whnf)
        | (refine Ck.mk (by omega) ?_; conv => whnf))
      exact ⟨rfl, rfl⟩
  · rw [show flat w set = ([], false) from if_neg fun h => hd h.1]
    have hp : peaks w = -1 := if_neg hd
    refine AC.enter Try.func82 Try.call82 rfl Try.ntmps82 (of_decide_eq_true (by rfl)) ?_
    repeat' (first
      | refine AW.seq ?_
      | (refine AW.region ?_; conv => whnf)
      | (refine AW.ret ?_; conv => whnf)
      | refine AW.cond (by rfl) ?_
      | (refine (sPeaksOf_ok _ (by first | omega | (simp only [List.length_drop, List.length_take, List.length_append, List.length_cons, List.length_nil]; omega)) _).mono ?_; rintro v h' ⟨rfl, e'⟩; subst h'; conv => whnf)
      | (refine Br.tt ?_; conv => whnf)
      | (refine Br.dt (by omega) ?_; conv => whnf))
    all_goals exact ⟨rfl, rfl⟩


end Go.Proofs.Ytdfdlnjijccpeaa
