/-
  Contracts of ranks of paths, and of diagrams as paths, are proved.
  They hold for all rows of numbers.
-/
import Derived.Test.YtdfdlnjijccpeaaC26
import Derived.Test.YtdfdlnjijccpeaaP5
set_option linter.unusedVariables false
set_option linter.unusedSimpArgs false
namespace Go.Proofs.Ytdfdlnjijccpeaa
open Go.Proofs.Ytdfdlnjijccpeaa.Ab Go.Proofs.Ytdfdlnjijccpeaa.Pl

/-! heights of a path -/
theorem dyck_at {w : List UInt8} (h : isDyck w = true) : w.length ≤ 16 ∧ hgt w = 0 ∧ (∀ k, k ≤ w.length → 0 ≤ hgt (w.take k)) ∧ ∀ k, k < w.length → ((w.getD k 0).toNat : Int) = 117 ∨ ((w.getD k 0).toNat : Int) = 100 := by
  unfold isDyck at h
  simp only [Bool.and_eq_true, decide_eq_true_eq, beq_iff_eq] at h
  obtain ⟨h1, h2⟩ := h
  have at_ : ∀ k, ∃ g, walkH 1 (-1) false (w.take k) 0 = some g := fun k => by
    cases e : walkH 1 (-1) false (w.take k) 0 with
    | none => rw [walkH_take_none e] at h2; cases h2
    | some g => exact ⟨g, rfl⟩
  refine ⟨h1, ?_, fun k hk => ?_, fun k hk => ?_⟩
  · have := walkH_hgt _ _ _ h2
    omega
  · obtain ⟨g, hg⟩ := at_ k
    have a := walkH_hgt _ _ _ hg
    have b := walkH_bd (by decide) (by decide) _ _ _ (by decide) hg
    omega
  · obtain ⟨g, hg⟩ := at_ k
    by_cases e1 : ((w.getD k 0).toNat : Int) = 117
    · exact .inl e1
    · by_cases e2 : ((w.getD k 0).toNat : Int) = 100
      · exact .inr e2
      · have e3 : stepOf 1 (-1) false (w.getD k 0) = none := by
          unfold stepOf
          rw [if_neg e1, if_neg e2, if_neg (by simp)]
        rw [walkH_bad hk hg e3] at h2
        cases h2
theorem hgt_next {w : List UInt8} {k : Nat} (hk : k < w.length) : (((w.getD k 0).toNat : Int) = 117 → hgt (w.take (k + 1)) = hgt (w.take k) + 1) ∧ (((w.getD k 0).toNat : Int) = 100 → hgt (w.take (k + 1)) = hgt (w.take k) - 1) := by
  rw [take_snoc w k hk]
  exact ⟨hgt_u _ _, hgt_d _ _⟩
/-- the height is at most what is left of the path -/
theorem dyck_left {w : List UInt8} (h : isDyck w = true) : ∀ m k, k ≤ w.length → w.length - k = m → hgt (w.take k) ≤ m := by
  obtain ⟨h1, h2, h3, h4⟩ := dyck_at h
  intro m
  induction m with
  | zero =>
    intro k hk e
    rw [show k = w.length by omega, List.take_length, h2]
    decide
  | succ m ih =>
    intro k hk e
    have a := ih (k + 1) (by omega) (by omega)
    have b := hgt_next (w := w) (k := k) (by omega)
    have c := h4 k (by omega)
    omega

/-- the rank, letter by letter -/
def rkS (w : List UInt8) : Nat → Int
  | 0 => 0
  | k + 1 => rkS w k + (if ((w.getD k 0).toNat : Int) = 117 then 0 else if hgt (w.take k) < ((w.length - k : Nat) : Int) then (bal ((((w.length - k : Nat) : Int) - hgt (w.take k)) / 2 - 1).toNat ((((w.length - k : Nat) : Int) + hgt (w.take k)) / 2).toNat : Int) else 0)
def rankW (w : List UInt8) : Int := if isDyck w then rkS w w.length else -1
theorem rkS_u {w : List UInt8} {k : Nat} (h : ((w.getD k 0).toNat : Int) = 117) : rkS w (k + 1) = rkS w k := by rw [rkS, if_pos h, Int.add_zero]
theorem rkS_d {w : List UInt8} {k : Nat} {up dn : Int} (h : ¬ ((w.getD k 0).toNat : Int) = 117) (hk : k ≤ w.length) (e1 : 2 * up = w.length - k - hgt (w.take k)) (e2 : 2 * dn = w.length - k + hgt (w.take k)) (hp : 0 < up) : rkS w (k + 1) = rkS w k + (bal (up - 1).toNat dn.toNat : Nat) := by
  rw [rkS, if_neg h, if_pos (by omega), show (((w.length - k : Nat) : Int) - hgt (w.take k)) / 2 = up by omega, show (((w.length - k : Nat) : Int) + hgt (w.take k)) / 2 = dn by omega]
theorem rkS_0 {w : List UInt8} {k : Nat} {up : Int} (h : ¬ ((w.getD k 0).toNat : Int) = 117) (hk : k ≤ w.length) (e1 : 2 * up = w.length - k - hgt (w.take k)) (hp : ¬ 0 < up) : rkS w (k + 1) = rkS w k := by
  rw [rkS, if_neg h, if_neg (by omega), Int.add_zero]
theorem bal_small {i k : Nat} (hi : i ≤ 15) (hk : k ≤ 15) : bal i k ≤ 1073741824 := Nat.le_trans (bal_le i k) (Nat.pow_le_pow_right (n := 2) (by decide) (show i + k ≤ 30 by omega))
theorem rkS_bd {w : List UInt8} (h : isDyck w = true) : ∀ k, k ≤ w.length → 0 ≤ rkS w k ∧ rkS w k ≤ 1073741824 * k := by
  obtain ⟨h1, h2, h3, h4⟩ := dyck_at h
  intro k
  induction k with
  | zero => intro _; simp [rkS]
  | succ k ih =>
    intro hk
    have f1 := (hgt_bd (w.take k)).2
    have f2 : (w.take k).length ≤ k := List.length_take_le _ _
    have a := ih (by omega)
    have b := h3 k (by omega)
    have c := dyck_left h _ k (by omega) rfl
    have d := bal_small (i := ((((w.length - k : Nat) : Int) - hgt (w.take k)) / 2 - 1).toNat) (k := ((((w.length - k : Nat) : Int) + hgt (w.take k)) / 2).toNat) (by omega) (by omega)
    rw [rkS]
    split
    · omega
    · split <;> omega

set_option maxHeartbeats 1000000 in
theorem ballot_ok (u d : Int) (h0 : H) (hu : 0 ≤ u ∧ u ≤ d ∧ d ≤ 15) : AC env 114 [.int .i64 u, .int .i64 d] h0 fun v h' => v = .int .i64 (bal u.toNat d.toNat : Nat) ∧ Keeps h0 h' := by
  obtain ⟨up, rfl⟩ := Int.eq_ofNat_of_zero_le (show 0 ≤ u by omega)
  obtain ⟨dn, rfl⟩ := Int.eq_ofNat_of_zero_le (show 0 ≤ d by omega)
  rw [Int.toNat_natCast, Int.toNat_natCast]
  have hs := St.refl h0
  have ed : ((dn : Int) + 1).toNat = dn + 1 := by omega
  have lz : ∀ k, (balRow dn 0 k).length = dn + 1 := fun k => balRow_len _ _ _
  have ez : ∀ h' b, St h0 h' [(b, row (ints (List.replicate ((dn : Int) + 1).toNat 0)))] → St h0 h' [(b, row (ints (balRow dn 0 0)))] := fun h' b s => by
    rw [balRow_zero dn 0 0 (Nat.le_refl _), ← ed]
    exact s
  refine AC.enter Try.func114 Try.call114 rfl Try.ntmps114 (of_decide_eq_true (by rfl)) ?_
  repeat' (first
    | refine AW.seq ?_
    | (refine AW.region ?_; conv => whnf)
    | refine AW.block ?_
    | (refine AW.skip ?_; conv => whnf)
    | refine AW.cond (by rfl) ?_
    | (refine (within_ok _ _ _ _).mono ?_; rintro v h' ⟨rfl, e'⟩; subst h'; conv => whnf)
    | refine Br.not ?_
    | (refine Br.dt (by omega) ?_; conv => whnf)
    | (refine Wr.i64 (by omega) ?_; conv => whnf)
    | (refine NewG.stZ (by assumption) rfl (fun bt h' hs' => ?_); conv => whnf)
    | (refine Ck.slice (by omega) (by omega) (by omega) (by decide) ?_; conv => whnf))
  refine AW.loop1 (fun (k : Nat) => [(0, .int .i64 up), (1, .int .i64 dn), (5, .slice bt 0 ((dn : Int) + 1).toNat ((dn : Int) + 1).toNat), (23, .int .i64 (((dn : Int) + 1).toNat : Nat)), (24, .int .i64 k)])
    (fun k h' => k ≤ dn + 1 ∧ St h0 h' [(bt, row (ints (balRow dn 0 k)))]) (fun k => dn + 1 - k) 0 (Less.cons rfl (Less.cons rfl (Less.cons rfl (Less.cons rfl (Less.cons rfl (Less.nil _)))))) ⟨by omega, ez _ _ hs'⟩ ?_
  rintro k h1 ⟨hk, hs1⟩
  clear hs hs'
  have l1 := lz k
  by_cases hlt : k < dn + 1
  · repeat' (first
      | refine AW.seq ?_
      | (refine AW.region ?_; conv => whnf)
      | refine AW.block ?_
      | (refine AW.skip ?_; conv => whnf)
      | refine AW.cond (by rfl) ?_
      | (refine Br.dt (by omega) ?_; conv => whnf)
      | (refine Wr.i64 (by omega) ?_; conv => whnf)
      | (refine Ck.mk (by omega) ?_; conv => whnf)
      | (refine StoreG.stZ (by assumption) (by repeat first | exact .here | apply Spot.there) rfl (by first | (simp; done) | omega | (simp only [List.length_set, List.length_append, List.length_cons, List.length_nil, List.length_replicate, tab_length]; omega) | (simp; omega)) (fun h' hs' => ?_); conv => whnf))
    have e := balRow_set (dn := dn) (i := 0) hlt (y := 1) (by rw [bal_zero]; rfl)
    rw [show (k : Int).toNat = k from rfl, e] at hs'
    exact ⟨k + 1, (Less.cons rfl (Less.cons rfl (Less.cons rfl (Less.cons rfl (Less.cons rfl (Less.nil _)))))), ⟨by omega, hs'⟩, by omega⟩
  · repeat' (first
      | refine AW.seq ?_
      | (refine AW.region ?_; conv => whnf)
      | refine AW.block ?_
      | (refine AW.exit ?_; conv => whnf)
      | refine AW.cond (by rfl) ?_
      | (refine Br.df (by omega) ?_; conv => whnf))
    have ek : k = dn + 1 := by omega
    subst ek
    refine AW.loop2 (fun (b i : Nat) => [(0, .int .i64 up), (1, .int .i64 dn), (5, .slice b 0 ((dn : Int) + 1).toNat ((dn : Int) + 1).toNat), (7, .int .i64 ((i + 1 : Nat) : Int))])
      (fun b i h' => i ≤ up ∧ St h0 h' [(b, row (ints (balRow dn i (dn + 1))))]) (fun _ i => up - i) bt 0 (Less.cons rfl (Less.cons rfl (Less.cons rfl (Less.cons rfl (Less.nil _))))) ⟨by omega, hs1⟩ ?_
    rintro b i h2 ⟨hi, hs2⟩
    clear hs1
    have l2 := balRow_len dn i (dn + 1)
    by_cases hlt2 : i < up
    · repeat' (first
        | refine AW.seq ?_
        | (refine AW.region ?_; conv => whnf)
        | refine AW.block ?_
        | (refine AW.skip ?_; conv => whnf)
        | refine AW.cond (by rfl) ?_
        | (refine Br.dt (by omega) ?_; conv => whnf)
        | (refine Wr.i64 (by omega) ?_; conv => whnf)
        | (refine NewG.stZ (by assumption) rfl (fun bt h' hs' => ?_); conv => whnf)
        | (refine Ck.slice (by omega) (by omega) (by omega) (by decide) ?_; conv => whnf))
      have hs3 : St h0 h' [(bt, row (ints (balRow dn (i + 1) (i + 1)))), (b, row (ints (balRow dn i (dn + 1))))] := by
        rw [balRow_zero dn (i + 1) (i + 1) (Nat.le_refl _), ← ed]
        exact hs'
      clear hs'
      refine AW.loop1 (fun (k : Nat) => [(0, .int .i64 up), (1, .int .i64 dn), (5, .slice b 0 ((dn : Int) + 1).toNat ((dn : Int) + 1).toNat), (7, .int .i64 ((i + 1 : Nat) : Int)), (8, .slice bt 0 ((dn : Int) + 1).toNat ((dn : Int) + 1).toNat), (9, .int .i64 k)])
        (fun k h' => i + 1 ≤ k ∧ k ≤ dn + 1 ∧ St h0 h' [(bt, row (ints (balRow dn (i + 1) k))), (b, row (ints (balRow dn i (dn + 1))))]) (fun k => dn + 1 - k) (i + 1) (Less.cons rfl (Less.cons rfl (Less.cons rfl (Less.cons rfl (Less.cons rfl (Less.cons rfl (Less.nil _))))))) ⟨by omega, by omega, hs3⟩ ?_
      rintro k h4 ⟨hik, hk2, hs4⟩
      clear hs3 hs2
      have l3 := balRow_len dn (i + 1) k
      by_cases hlt3 : k < dn + 1
      · have v0 : (balRow dn i (dn + 1)).getD k 0 = bal i k := balRow_get hlt3 hlt3
        by_cases e : k = i + 1
        · repeat' (first
            | refine AW.seq ?_
            | (refine AW.region ?_; conv => whnf)
            | refine AW.block ?_
            | (refine AW.skip ?_; conv => whnf)
            | refine AW.cond (by rfl) ?_
            | (refine Br.dt (by omega) ?_; conv => whnf)
            | (refine Br.df (by omega) ?_; conv => whnf)
            | (refine Wr.i64 (by omega) ?_; conv => whnf)
            | (refine Ck.mk (by omega) ?_; conv => whnf)
            | (refine Has.loadZ (by first | assumption | exact St.has (by assumption) (by repeat first | exact .head _ | apply List.Mem.tail) | exact St.arg (by assumption) (by assumption)) rfl (by first | (simp; done) | omega | (simp only [List.length_set, List.length_append, List.length_cons, List.length_nil, List.length_replicate, tab_length]; omega) | (simp; omega)) ?_; conv => whnf)
            | (refine StoreG.stZ (by assumption) (by repeat first | exact .here | apply Spot.there) rfl (by first | (simp; done) | omega | (simp only [List.length_set, List.length_append, List.length_cons, List.length_nil, List.length_replicate, tab_length]; omega) | (simp; omega)) (fun h' hs' => ?_); conv => whnf))
          refine ⟨k + 1, (Less.cons rfl (Less.cons rfl (Less.cons rfl (Less.cons rfl (Less.cons rfl (Less.cons rfl (Less.nil _))))))), ⟨by omega, by omega, ?_⟩, by omega⟩
          have e2 := balRow_set (dn := dn) (i := i + 1) hlt3 (y := (balRow dn i (dn + 1)).getD k 0) (by rw [v0, e, bal_diag])
          rw [← e2]
          exact hs'
        · have v1 : (balRow dn (i + 1) k).getD (k - 1) 0 = bal (i + 1) (k - 1) := balRow_get (by omega) (by omega)
          have c1 := bal_small (i := i) (k := k) (by omega) (by omega)
          have c2 := bal_small (i := i + 1) (k := k - 1) (by omega) (by omega)
          obtain ⟨M, hM⟩ : ∃ M, (balRow dn (i + 1) k).set k ((balRow dn i (dn + 1)).getD k 0) = M := ⟨_, rfl⟩
          have lM : M.length = dn + 1 := by rw [← hM, List.length_set, l3]
          have m1 : M.getD k 0 = bal i k := by rw [← hM, ← v0]; simp [List.getD, l3, hlt3]
          have m2 : M.getD (k - 1) 0 = bal (i + 1) (k - 1) := by
            rw [← hM, ← v1]
            simp only [List.getD, List.getElem?_set_ne (show k ≠ k - 1 by omega)]
          have m3 : M.set k (bal (i + 1) k : Int) = balRow dn (i + 1) (k + 1) := by
            rw [← hM, List.set_set]
            exact balRow_set hlt3 rfl
          have m4 : (M.getD k 0 : Int) + M.getD (k - 1) 0 = bal (i + 1) k := by
            obtain ⟨k', rfl⟩ : ∃ k', k = k' + 1 := ⟨k - 1, by omega⟩
            rw [m1, m2, bal_step (show i < k' by omega), Nat.add_sub_cancel]
            omega
          repeat' (first
            | (refine StoreG.stZ hs4 .here rfl (by omega) (fun h' hs5 => ?_); rw [show (k : Int).toNat = k from rfl, hM] at hs5; conv => whnf)
            | (refine Has.loadAt (hs5.has (.head _)) rfl (ints_get M k (by omega)) ?_; conv => whnf)
            | (refine Has.loadAt (hs5.has (.head _)) rfl (by rw [show ((k : Int) - 1).toNat = k - 1 by omega]; exact ints_get M (k - 1) (by omega)) ?_; conv => whnf)
            | (refine StoreG.stZ hs5 .here rfl (by omega) (fun h' hs6 => ?_); conv => whnf)
            | refine AW.seq ?_
            | (refine AW.region ?_; conv => whnf)
            | refine AW.block ?_
            | (refine AW.skip ?_; conv => whnf)
            | refine AW.cond (by rfl) ?_
            | (refine AW.draw (id := 18) (.p 0 (.p 1 (.p 2 (.p 3 (.p 4 (.p 6 (.p 7 (.p 8 (.p 9 (.r 5 [11, 12, 13] (.r 10 [11, 12, 13] (.p 11 (.p 12 (.all [13] fun _ => .done)))))))))))))) (by kernel_rfl) (by kernel_rfl) ?_; conv => whnf)
            | (refine Br.dt (by omega) ?_; conv => whnf)
            | (refine Wr.i64 (by omega) ?_; conv => whnf)
            | (refine Ck.mk (by omega) ?_; conv => whnf)
            | (refine Has.loadZ (by first | assumption | exact St.has (by assumption) (by repeat first | exact .head _ | apply List.Mem.tail) | exact St.arg (by assumption) (by assumption)) rfl (by first | (simp; done) | omega | (simp only [List.length_set, List.length_append, List.length_cons, List.length_nil, List.length_replicate, tab_length]; omega) | (simp; omega)) ?_; conv => whnf))
          refine ⟨k + 1, (Less.cons rfl (Less.cons rfl (Less.cons rfl (Less.cons rfl (Less.cons rfl (Less.cons rfl (Less.nil _))))))), ⟨by omega, by omega, ?_⟩, by omega⟩
          rw [show (k : Int).toNat = k from rfl, m4, m3] at hs6
          exact hs6
      · repeat' (first
          | refine AW.seq ?_
          | (refine AW.region ?_; conv => whnf)
          | (refine AW.exit ?_; conv => whnf)
          | refine AW.cond (by rfl) ?_
          | (refine Br.df (by omega) ?_; conv => whnf)
          | (refine Wr.i64 (by omega) ?_; conv => whnf))
        have ek : k = dn + 1 := by omega
        subst ek
        exact ⟨bt, i + 1, (Less.cons rfl (Less.cons rfl (Less.cons rfl (Less.cons rfl (Less.nil _))))), ⟨by omega, hs4.sub (List.Sublist.cons_cons _ (List.nil_sublist _))⟩, by omega⟩
    · have ei : i = up := by omega
      subst ei
      repeat' (first
        | refine AW.seq ?_
        | (refine AW.region ?_; conv => whnf)
        | (refine AW.ret ?_; conv => whnf)
        | (refine AW.exit ?_; conv => whnf)
        | refine AW.cond (by rfl) ?_
        | (refine Br.df (by omega) ?_; conv => whnf)
        | (refine Ck.mk (by omega) ?_; conv => whnf)
        | (refine Has.loadZ (by first | assumption | exact St.has (by assumption) (by repeat first | exact .head _ | apply List.Mem.tail) | exact St.arg (by assumption) (by assumption)) rfl (by first | (simp; done) | omega | (simp only [List.length_set, List.length_append, List.length_cons, List.length_nil, List.length_replicate, tab_length]; omega) | (simp; omega)) ?_; conv => whnf))
      exact ⟨congrArg _ (balRow_get (by omega) (by omega)), hs2.keeps⟩

theorem iRankPath_ok (w : List UInt8) (hw : w.length ≤ 9223372036854775807) (h0 : H) : AC env 108 [.str w] h0 fun v h' => v = .int .i64 (rankW w) ∧ Keeps h0 h' := by
  have hs := St.refl h0
  by_cases h : isDyck w = true
  · obtain ⟨h1, h2, h3, h4⟩ := dyck_at h
    have eN := (isDyck_even h).1
    have hq := half_len w.length
    refine AC.enter Try.func108 Try.call108 rfl Try.ntmps108 (of_decide_eq_true (by rfl)) ?_
    repeat' (first
      | refine AW.seq ?_
      | (refine AW.region ?_; conv => whnf)
      | refine AW.block ?_
      | (refine AW.skip ?_; conv => whnf)
      | refine AW.cond (by rfl) ?_
      | (refine (iIsDyck_ok _ (by first | omega | (simp only [List.length_drop, List.length_take, List.length_append, List.length_cons, List.length_nil]; omega)) _).mono ?_; rintro v h' ⟨rfl, hk'⟩; have hs' := St.keep (by assumption) hk'; conv => whnf)
      | refine Br.not ?_
      | (refine Br.t (by assumption) ?_; conv => whnf)
      | (refine Wr.i64 (by omega) ?_; conv => whnf)
      | (refine Ck.mk (by omega) ?_; conv => whnf))
    refine AW.loop4 (fun (x up dn : Int) (k : Nat) => [(0, .str w), (3, .int .i64 x), (4, .int .i64 up), (5, .int .i64 dn), (6, .int .i64 k)])
      (fun x up dn k h' => k ≤ w.length ∧ x = rkS w k ∧ (2 * up = w.length - k - hgt (w.take k)) ∧ (2 * dn = w.length - k + hgt (w.take k)) ∧ St h0 h' []) (fun _ _ _ k => w.length - k) 0 _ _ 0
      (Less.cons rfl (Less.cons rfl (Less.cons rfl (Less.cons rfl (Less.cons rfl (Less.nil _)))))) ⟨by omega, rfl, by rw [List.take_zero, hgt_nil, hq]; omega, by rw [List.take_zero, hgt_nil, hq]; omega, hs'⟩ ?_
    rintro x up dn k h1' ⟨hk, rfl, hup, hdn, hs1⟩
    clear hs hs'
    by_cases hlt : k < w.length
    · have b := h3 k hk
      have c := dyck_left h _ k hk rfl
      have f1 := (hgt_bd (w.take k)).2
      have f2 : (w.take k).length ≤ k := List.length_take_le _ _
      have hn := hgt_next hlt
      have d := rkS_bd h k hk
      have e := bal_small (i := (up - 1).toNat) (k := dn.toNat) (by omega) (by omega)
      rcases h4 k hlt with a | a
      · have a' : ((w.getD (k : Int).toNat 0).toNat : Int) = 117 := a
        have g := hn.1 a
        repeat' (first
          | refine AW.seq ?_
          | (refine AW.region ?_; conv => whnf)
          | refine AW.block ?_
          | (refine AW.skip ?_; conv => whnf)
          | (refine AW.exit ?_; conv => whnf)
          | refine AW.cond (by rfl) ?_
          | (refine Br.dt (by omega) ?_; conv => whnf)
          | (refine Wr.i64 (by omega) ?_; conv => whnf)
          | (refine Ck.mk (by omega) ?_; conv => whnf))
        exact ⟨_, _, _, k + 1, (Less.cons rfl (Less.cons rfl (Less.cons rfl (Less.cons rfl (Less.cons rfl (Less.nil _)))))), ⟨by omega, (rkS_u a).symm, by omega, by omega, by assumption⟩, by omega⟩
      · have a' : ((w.getD (k : Int).toNat 0).toNat : Int) = 100 := a
        have g := hn.2 a
        by_cases hp : 0 < up
        · repeat' (first
            | refine AW.seq ?_
            | (refine AW.region ?_; conv => whnf)
            | refine AW.block ?_
            | (refine AW.skip ?_; conv => whnf)
            | refine AW.cond (by rfl) ?_
            | (refine (ballot_ok _ _ _ (by omega)).mono ?_; rintro v h' ⟨rfl, hk'⟩; have hs' := St.keep (by assumption) hk'; conv => whnf)
            | (refine Br.dt (by omega) ?_; conv => whnf)
            | (refine Br.df (by omega) ?_; conv => whnf)
            | (refine Wr.i64 (by omega) ?_; conv => whnf)
            | (refine Ck.mk (by omega) ?_; conv => whnf))
          exact ⟨_, _, _, k + 1, (Less.cons rfl (Less.cons rfl (Less.cons rfl (Less.cons rfl (Less.cons rfl (Less.nil _)))))), ⟨by omega, (rkS_d (by omega) hk hup hdn hp).symm, by omega, by omega, by assumption⟩, by omega⟩
        · repeat' (first
            | refine AW.seq ?_
            | (refine AW.region ?_; conv => whnf)
            | refine AW.block ?_
            | (refine AW.skip ?_; conv => whnf)
            | refine AW.cond (by rfl) ?_
            | (refine Br.dt (by omega) ?_; conv => whnf)
            | (refine Br.df (by omega) ?_; conv => whnf)
            | (refine Wr.i64 (by omega) ?_; conv => whnf)
            | (refine Ck.mk (by omega) ?_; conv => whnf))
          exact ⟨_, _, _, k + 1, (Less.cons rfl (Less.cons rfl (Less.cons rfl (Less.cons rfl (Less.cons rfl (Less.nil _)))))), ⟨by omega, (rkS_0 (by omega) hk hup hp).symm, by omega, by omega, by assumption⟩, by omega⟩
    · repeat' (first
        | refine AW.seq ?_
        | (refine AW.region ?_; conv => whnf)
        | (refine AW.ret ?_; conv => whnf)
        | (refine AW.exit ?_; conv => whnf)
        | refine AW.cond (by rfl) ?_
        | (refine Br.df (by omega) ?_; conv => whnf))
      exact ⟨by rw [rankW, if_pos h, show w.length = k by omega], hs1.keeps⟩
  · refine AC.enter Try.func108 Try.call108 rfl Try.ntmps108 (of_decide_eq_true (by rfl)) ?_
    repeat' (first
      | refine AW.seq ?_
      | (refine AW.region ?_; conv => whnf)
      | (refine AW.skip ?_; conv => whnf)
      | (refine AW.ret ?_; conv => whnf)
      | refine AW.cond (by rfl) ?_
      | (refine (iIsDyck_ok _ (by first | omega | (simp only [List.length_drop, List.length_take, List.length_append, List.length_cons, List.length_nil]; omega)) _).mono ?_; rintro v h' ⟨rfl, hk'⟩; have hs' := St.keep (by assumption) hk'; conv => whnf)
      | refine Br.not ?_
      | (refine Br.mk (fun hc => ?_) (fun hc => ?_) <;> conv => whnf)
      | (refine Ck.mk (by omega) ?_; conv => whnf))
    all_goals first
      | exact ⟨by rw [rankW, if_neg h], by assumption⟩
      | exact absurd (by assumption) h

theorem sRankPath_ok (w : List UInt8) (hw : w.length ≤ 9223372036854775807) (h0 : H) : AC env 110 [.str w] h0 fun v h' => v = .int .i64 (rankW w) ∧ Keeps h0 h' := by
  have hs := St.refl h0
  by_cases h : isDyck w = true
  · obtain ⟨h1, h2, h3, h4⟩ := dyck_at h
    have eN := (isDyck_even h).1
    have hq := half_len w.length
    refine AC.enter Try.func110 Try.call110 rfl Try.ntmps110 (of_decide_eq_true (by rfl)) ?_
    repeat' (first
      | refine AW.seq ?_
      | (refine AW.region ?_; conv => whnf)
      | refine AW.block ?_
      | (refine AW.skip ?_; conv => whnf)
      | refine AW.cond (by rfl) ?_
      | (refine (sIsDyck_ok _ (by first | omega | (simp only [List.length_drop, List.length_take, List.length_append, List.length_cons, List.length_nil]; omega)) _).mono ?_; rintro v h' ⟨rfl, e'⟩; subst h'; conv => whnf)
      | refine Br.not ?_
      | (refine Br.t (by assumption) ?_; conv => whnf)
      | (refine Wr.i64 (by omega) ?_; conv => whnf)
      | (refine Ck.mk (by omega) ?_; conv => whnf))
    refine AW.loop4 (fun (x up dn : Int) (k : Nat) => [(0, .str w), (5, .int .i64 x), (3, .int .i64 up), (4, .int .i64 dn), (6, .int .i64 k)])
      (fun x up dn k h' => k ≤ w.length ∧ x = rkS w k ∧ (2 * up = w.length - k - hgt (w.take k)) ∧ (2 * dn = w.length - k + hgt (w.take k)) ∧ St h0 h' []) (fun _ _ _ k => w.length - k) 0 _ _ 0
      (Less.cons rfl (Less.cons rfl (Less.cons rfl (Less.cons rfl (Less.cons rfl (Less.nil _)))))) ⟨by omega, rfl, by rw [List.take_zero, hgt_nil, hq]; omega, by rw [List.take_zero, hgt_nil, hq]; omega, by assumption⟩ ?_
    rintro x up dn k h1' ⟨hk, rfl, hup, hdn, hs1⟩
    clear hs
    by_cases hlt : k < w.length
    · have b := h3 k hk
      have c := dyck_left h _ k hk rfl
      have f1 := (hgt_bd (w.take k)).2
      have f2 : (w.take k).length ≤ k := List.length_take_le _ _
      have hn := hgt_next hlt
      have d := rkS_bd h k hk
      have e := bal_small (i := (up - 1).toNat) (k := dn.toNat) (by omega) (by omega)
      rcases h4 k hlt with a | a
      · have a' : ((w.getD (k : Int).toNat 0).toNat : Int) = 117 := a
        have g := hn.1 a
        repeat' (first
          | refine AW.seq ?_
          | (refine AW.region ?_; conv => whnf)
          | refine AW.block ?_
          | (refine AW.skip ?_; conv => whnf)
          | (refine AW.exit ?_; conv => whnf)
          | refine AW.cond (by rfl) ?_
          | (refine Br.dt (by omega) ?_; conv => whnf)
          | (refine Wr.i64 (by omega) ?_; conv => whnf)
          | (refine Ck.mk (by omega) ?_; conv => whnf))
        exact ⟨_, _, _, k + 1, (Less.cons rfl (Less.cons rfl (Less.cons rfl (Less.cons rfl (Less.cons rfl (Less.nil _)))))), ⟨by omega, (rkS_u a).symm, by omega, by omega, by assumption⟩, by omega⟩
      · have a' : ((w.getD (k : Int).toNat 0).toNat : Int) = 100 := a
        have g := hn.2 a
        by_cases hp : 0 < up
        · repeat' (first
            | refine AW.seq ?_
            | (refine AW.region ?_; conv => whnf)
            | refine AW.block ?_
            | (refine AW.skip ?_; conv => whnf)
            | refine AW.cond (by rfl) ?_
            | (refine (l3Ways_ok _ _ _ (by omega)).mono ?_; rintro v h' ⟨rfl, hk'⟩; have hs' := St.keep (by assumption) hk'; conv => whnf)
            | (refine Br.dt (by omega) ?_; conv => whnf)
            | (refine Br.df (by omega) ?_; conv => whnf)
            | (refine Wr.i64 (by omega) ?_; conv => whnf)
            | (refine Ck.mk (by omega) ?_; conv => whnf))
          exact ⟨_, _, _, k + 1, (Less.cons rfl (Less.cons rfl (Less.cons rfl (Less.cons rfl (Less.cons rfl (Less.nil _)))))), ⟨by omega, (rkS_d (by omega) hk hup hdn hp).symm, by omega, by omega, by assumption⟩, by omega⟩
        · repeat' (first
            | refine AW.seq ?_
            | (refine AW.region ?_; conv => whnf)
            | refine AW.block ?_
            | (refine AW.skip ?_; conv => whnf)
            | refine AW.cond (by rfl) ?_
            | (refine Br.dt (by omega) ?_; conv => whnf)
            | (refine Br.df (by omega) ?_; conv => whnf)
            | (refine Wr.i64 (by omega) ?_; conv => whnf)
            | (refine Ck.mk (by omega) ?_; conv => whnf))
          exact ⟨_, _, _, k + 1, (Less.cons rfl (Less.cons rfl (Less.cons rfl (Less.cons rfl (Less.cons rfl (Less.nil _)))))), ⟨by omega, (rkS_0 (by omega) hk hup hp).symm, by omega, by omega, by assumption⟩, by omega⟩
    · repeat' (first
        | refine AW.seq ?_
        | (refine AW.region ?_; conv => whnf)
        | (refine AW.ret ?_; conv => whnf)
        | (refine AW.exit ?_; conv => whnf)
        | refine AW.cond (by rfl) ?_
        | (refine Br.df (by omega) ?_; conv => whnf))
      exact ⟨by rw [rankW, if_pos h, show w.length = k by omega], hs1.keeps⟩
  · refine AC.enter Try.func110 Try.call110 rfl Try.ntmps110 (of_decide_eq_true (by rfl)) ?_
    repeat' (first
      | refine AW.seq ?_
      | (refine AW.region ?_; conv => whnf)
      | (refine AW.skip ?_; conv => whnf)
      | (refine AW.ret ?_; conv => whnf)
      | refine AW.cond (by rfl) ?_
      | (refine (sIsDyck_ok _ (by first | omega | (simp only [List.length_drop, List.length_take, List.length_append, List.length_cons, List.length_nil]; omega)) _).mono ?_; rintro v h' ⟨rfl, e'⟩; subst h'; conv => whnf)
      | refine Br.not ?_
      | (refine Br.mk (fun hc => ?_) (fun hc => ?_) <;> conv => whnf)
      | (refine Ck.mk (by omega) ?_; conv => whnf))
    all_goals first
      | exact ⟨by rw [rankW, if_neg h], Keeps.refl _⟩
      | exact absurd (by assumption) h

/-! a matching as a path -/
def letterM (l : List Int) (i : Nat) : UInt8 := if (i : Int) < l.getD i 0 then 117 else 100
def wTo (l : List Int) (k : Nat) : List UInt8 := (List.range k).map (letterM l)
theorem wTo_len (l : List Int) (k : Nat) : (wTo l k).length = k := by simp [wTo]
theorem wTo_succ (l : List Int) (k : Nat) : wTo l (k + 1) = wTo l k ++ [letterM l k] := by
  unfold wTo
  rw [List.range_succ, List.map_append]
  rfl
theorem bytesAV_succ (l : List Int) (k : Nat) : bytesAV (wTo l (k + 1)) = bytesAV (wTo l k) ++ [.int .u8 (letterM l k).toNat] := by
  rw [wTo_succ]
  unfold bytesAV
  rw [List.map_append]
  rfl
theorem bytesAV_len (s : List UInt8) : (bytesAV s).length = s.length := List.length_map _
def pathM (l : List Int) : List UInt8 := if isNC l then wTo l l.length else []
theorem pathM_len (l : List Int) : (pathM l).length ≤ l.length := by
  unfold pathM
  split
  · rw [wTo_len]; exact Nat.le_refl _
  · exact Nat.zero_le _

theorem iPathOfMatching_ok (l : List Int) (b C : Nat) (h0 : H) (hb : Has h0 b (ints l)) (hL : l.length ≤ 10000000) : AC env 107 [.slice b 0 l.length C] h0 fun v h' => v = .tup [.str (pathM l), .bool (isNC l)] ∧ Keeps h0 h' := by
  have hs := St.refl h0
  by_cases h : isNC l = true
  · have e1 : pathM l = wTo l l.length := if_pos h
    refine AC.enter Try.func107 Try.call107 rfl Try.ntmps107 (of_decide_eq_true (by rfl)) ?_
    repeat' (first
      | refine AW.seq ?_
      | (refine AW.region ?_; conv => whnf)
      | refine AW.block ?_
      | (refine AW.skip ?_; conv => whnf)
      | refine AW.cond (by rfl) ?_
      | (refine (iIsNC_ok _ _ _ _ _ (by first | assumption | exact St.has (by assumption) (by repeat first | exact .head _ | apply List.Mem.tail) | exact St.arg (by assumption) (by assumption)) (by first | rfl | omega)).mono ?_; rintro v h' ⟨rfl, e'⟩; subst h'; conv => whnf)
      | refine Br.not ?_
      | (refine Br.t (by assumption) ?_; conv => whnf)
      | (refine NewG.st (by assumption) (fun bt h' hs' => ?_); conv => whnf))
    refine AW.loop2 (fun (c k : Nat) => [(4, .slice c 0 k k), (11, .slice b 0 l.length C), (12, .int .i64 l.length), (13, .int .i64 k)]) (fun c k h' => k ≤ l.length ∧ St h0 h' [(c, row (bytesAV (wTo l k)))]) (fun _ k => l.length - k) bt 0
      (Less.cons rfl (Less.cons rfl (Less.cons rfl (Less.cons rfl (Less.nil _))))) ⟨by omega, hs'⟩ ?_
    rintro c k h1 ⟨hk, hs1⟩
    clear hs hs'
    have lw := wTo_len l k
    have lb := bytesAV_len (wTo l k)
    by_cases hlt : k < l.length
    · have hb1 := hb.keep hs1.keeps
      by_cases hc2 : (k : Int) < l.getD k 0
      · have hc3 : (k : Int) < l.getD (k : Int).toNat 0 := hc2
        have e2 : bytesAV (wTo l k) ++ [.int .u8 117] = bytesAV (wTo l (k + 1)) := by
          rw [bytesAV_succ, letterM, if_pos hc2]
          rfl
        repeat' (first
          | (refine NewG.st hs1 (fun bt h' hs2 => ?_); conv => whnf)
          | (refine AppG.stV hs2 (fun b' => .there .here) (by omega) (by omega) (by decide) rfl (fun b' h' hs3 => ?_); rw [e2] at hs3; conv => whnf)
          | refine AW.seq ?_
          | (refine AW.region ?_; conv => whnf)
          | refine AW.block ?_
          | (refine AW.skip ?_; conv => whnf)
          | refine AW.cond (by rfl) ?_
          | (refine Br.dt (by omega) ?_; conv => whnf)
          | (refine Wr.i64 (by omega) ?_; conv => whnf)
          | (refine Ck.mk (by omega) ?_; conv => whnf)
          | (refine Has.loadZ (by first | assumption | exact St.has (by assumption) (by repeat first | exact .head _ | apply List.Mem.tail) | exact St.arg (by assumption) (by assumption)) rfl (by first | (simp; done) | omega | (simp only [List.length_set, List.length_append, List.length_cons, List.length_nil, List.length_replicate, tab_length]; omega) | (simp; omega)) ?_; conv => whnf)
          | (refine LoadsG.has (by first | assumption | exact St.has (by assumption) (by repeat first | exact .head _ | apply List.Mem.tail) | exact St.arg (by assumption) (by assumption)) (by simp) ?_; conv => whnf))
        exact ⟨_, k + 1, (Less.cons rfl (Less.cons rfl (Less.cons rfl (Less.cons rfl (Less.nil _))))), ⟨by omega, hs3.tail⟩, by omega⟩
      · have hc3 : ¬ (k : Int) < l.getD (k : Int).toNat 0 := hc2
        have e2 : bytesAV (wTo l k) ++ [.int .u8 100] = bytesAV (wTo l (k + 1)) := by
          rw [bytesAV_succ, letterM, if_neg hc2]
          rfl
        repeat' (first
          | (refine NewG.st hs1 (fun bt h' hs2 => ?_); conv => whnf)
          | (refine AppG.stV hs2 (fun b' => .there .here) (by omega) (by omega) (by decide) rfl (fun b' h' hs3 => ?_); rw [e2] at hs3; conv => whnf)
          | refine AW.seq ?_
          | (refine AW.region ?_; conv => whnf)
          | refine AW.block ?_
          | (refine AW.skip ?_; conv => whnf)
          | refine AW.cond (by rfl) ?_
          | (refine Br.dt (by omega) ?_; conv => whnf)
          | (refine Br.df (by omega) ?_; conv => whnf)
          | (refine Wr.i64 (by omega) ?_; conv => whnf)
          | (refine Ck.mk (by omega) ?_; conv => whnf)
          | (refine Has.loadZ (by first | assumption | exact St.has (by assumption) (by repeat first | exact .head _ | apply List.Mem.tail) | exact St.arg (by assumption) (by assumption)) rfl (by first | (simp; done) | omega | (simp only [List.length_set, List.length_append, List.length_cons, List.length_nil, List.length_replicate, tab_length]; omega) | (simp; omega)) ?_; conv => whnf)
          | (refine LoadsG.has (by first | assumption | exact St.has (by assumption) (by repeat first | exact .head _ | apply List.Mem.tail) | exact St.arg (by assumption) (by assumption)) (by simp) ?_; conv => whnf))
        exact ⟨_, k + 1, (Less.cons rfl (Less.cons rfl (Less.cons rfl (Less.cons rfl (Less.nil _))))), ⟨by omega, hs3.tail⟩, by omega⟩
    · repeat' (first
        | (refine TextG.mk true 1 _ (wTo l k) (hs1.is _ (.head _)) (by omega) (by rw [List.drop_zero, List.take_of_length_le (by omega)]) ?_; conv => whnf)
        | refine AW.seq ?_
        | (refine AW.region ?_; conv => whnf)
        | (refine AW.ret ?_; conv => whnf)
        | (refine AW.exit ?_; conv => whnf)
        | refine AW.cond (by rfl) ?_
        | (refine Br.df (by omega) ?_; conv => whnf))
      exact ⟨by rw [e1, h, show l.length = k by omega], hs1.keeps⟩
  · have h : isNC l = false := by simpa using h
    have e1 : pathM l = [] := if_neg (by rw [h]; simp)
    refine AC.enter Try.func107 Try.call107 rfl Try.ntmps107 (of_decide_eq_true (by rfl)) ?_
    repeat' (first
      | refine AW.seq ?_
      | (refine AW.region ?_; conv => whnf)
      | (refine AW.ret ?_; conv => whnf)
      | refine AW.cond (by rfl) ?_
      | (refine (iIsNC_ok _ _ _ _ _ (by first | assumption | exact St.has (by assumption) (by repeat first | exact .head _ | apply List.Mem.tail) | exact St.arg (by assumption) (by assumption)) (by first | rfl | omega)).mono ?_; rintro v h' ⟨rfl, e'⟩; subst h'; conv => whnf)
      | refine Br.not ?_
      | (refine Br.f (by assumption) ?_; conv => whnf))
    exact ⟨by rw [e1, h], Keeps.refl _⟩

theorem sPathOfMatching_ok (l : List Int) (b C : Nat) (h0 : H) (hb : Has h0 b (ints l)) (hL : l.length ≤ 10000000) : AC env 109 [.slice b 0 l.length C] h0 fun v h' => v = .tup [.str (pathM l), .bool (isNC l)] ∧ Keeps h0 h' := by
  have hs := St.refl h0
  by_cases h : isNC l = true
  · have e1 : pathM l = wTo l l.length := if_pos h
    refine AC.enter Try.func109 Try.call109 rfl Try.ntmps109 (of_decide_eq_true (by rfl)) ?_
    repeat' (first
      | refine AW.seq ?_
      | (refine AW.region ?_; conv => whnf)
      | refine AW.block ?_)
    refine AW.loop2 (fun (s : List UInt8) (k : Nat) => [(0, .slice b 0 l.length C), (4, .str s), (5, .int .i64 k)]) (fun s k h' => k ≤ l.length ∧ s = wTo l k ∧ h' = h0) (fun _ k => l.length - k) [] 0
      (Less.cons rfl (Less.cons rfl (Less.cons rfl (Less.nil _)))) ⟨by omega, rfl, rfl⟩ ?_
    rintro s k h1 ⟨hk, rfl, rfl⟩
    have lw := wTo_len l k
    by_cases hlt : k < l.length
    · by_cases hc2 : (k : Int) < l.getD k 0
      · have hc3 : (k : Int) < l.getD (k : Int).toNat 0 := hc2
        have e2 : wTo l k ++ [117] = wTo l (k + 1) := by rw [wTo_succ, letterM, if_pos hc2]
        repeat' (first
          | refine AW.seq ?_
          | (refine AW.region ?_; conv => whnf)
          | refine AW.block ?_
          | (refine AW.skip ?_; conv => whnf)
          | refine AW.cond (by rfl) ?_
          | (refine (sIsNC_ok _ _ _ _ _ (by first | assumption | exact St.has (by assumption) (by repeat first | exact .head _ | apply List.Mem.tail) | exact St.arg (by assumption) (by assumption)) (by first | rfl | omega) (by first | (simp; done) | omega | (simp only [List.length_set, List.length_append, List.length_cons, List.length_nil, List.length_replicate, tab_length]; omega) | (simp; omega))).mono ?_; rintro v h' ⟨rfl, e'⟩; subst h'; conv => whnf)
          | (refine Br.t (by assumption) ?_; conv => whnf)
          | (refine Br.dt (by omega) ?_; conv => whnf)
          | (refine Wr.i64 (by omega) ?_; conv => whnf)
          | (refine Ck.mk (by omega) ?_; conv => whnf)
          | (refine Ck.mk (by simp only [List.length_drop, List.length_take, List.length_append, List.length_cons, List.length_nil]; omega) ?_; conv => whnf)
          | (refine Has.loadZ (by first | assumption | exact St.has (by assumption) (by repeat first | exact .head _ | apply List.Mem.tail) | exact St.arg (by assumption) (by assumption)) rfl (by first | (simp; done) | omega | (simp only [List.length_set, List.length_append, List.length_cons, List.length_nil, List.length_replicate, tab_length]; omega) | (simp; omega)) ?_; conv => whnf))
        exact ⟨_, k + 1, (Less.cons rfl (Less.cons rfl (Less.cons rfl (Less.nil _)))), ⟨by omega, e2, rfl⟩, by omega⟩
      · have hc3 : ¬ (k : Int) < l.getD (k : Int).toNat 0 := hc2
        have e2 : wTo l k ++ [100] = wTo l (k + 1) := by rw [wTo_succ, letterM, if_neg hc2]
        repeat' (first
          | refine AW.seq ?_
          | (refine AW.region ?_; conv => whnf)
          | refine AW.block ?_
          | (refine AW.skip ?_; conv => whnf)
          | refine AW.cond (by rfl) ?_
          | (refine (sIsNC_ok _ _ _ _ _ (by first | assumption | exact St.has (by assumption) (by repeat first | exact .head _ | apply List.Mem.tail) | exact St.arg (by assumption) (by assumption)) (by first | rfl | omega) (by first | (simp; done) | omega | (simp only [List.length_set, List.length_append, List.length_cons, List.length_nil, List.length_replicate, tab_length]; omega) | (simp; omega))).mono ?_; rintro v h' ⟨rfl, e'⟩; subst h'; conv => whnf)
          | (refine Br.t (by assumption) ?_; conv => whnf)
          | (refine Br.dt (by omega) ?_; conv => whnf)
          | (refine Br.df (by omega) ?_; conv => whnf)
          | (refine Wr.i64 (by omega) ?_; conv => whnf)
          | (refine Ck.mk (by omega) ?_; conv => whnf)
          | (refine Ck.mk (by simp only [List.length_drop, List.length_take, List.length_append, List.length_cons, List.length_nil]; omega) ?_; conv => whnf)
          | (refine Has.loadZ (by first | assumption | exact St.has (by assumption) (by repeat first | exact .head _ | apply List.Mem.tail) | exact St.arg (by assumption) (by assumption)) rfl (by first | (simp; done) | omega | (simp only [List.length_set, List.length_append, List.length_cons, List.length_nil, List.length_replicate, tab_length]; omega) | (simp; omega)) ?_; conv => whnf))
        exact ⟨_, k + 1, (Less.cons rfl (Less.cons rfl (Less.cons rfl (Less.nil _)))), ⟨by omega, e2, rfl⟩, by omega⟩
    · repeat' (first
        | refine AW.seq ?_
        | (refine AW.region ?_; conv => whnf)
        | (refine AW.ret ?_; conv => whnf)
        | (refine AW.exit ?_; conv => whnf)
        | refine AW.cond (by rfl) ?_
        | (refine (sIsNC_ok _ _ _ _ _ (by first | assumption | exact St.has (by assumption) (by repeat first | exact .head _ | apply List.Mem.tail) | exact St.arg (by assumption) (by assumption)) (by first | rfl | omega) (by first | (simp; done) | omega | (simp only [List.length_set, List.length_append, List.length_cons, List.length_nil, List.length_replicate, tab_length]; omega) | (simp; omega))).mono ?_; rintro v h' ⟨rfl, e'⟩; subst h'; conv => whnf)
        | (refine Br.ff ?_; conv => whnf)
        | (refine Br.df (by omega) ?_; conv => whnf))
      exact ⟨by rw [e1, show l.length = k by omega], Keeps.refl _⟩
  · have h : isNC l = false := by simpa using h
    have e1 : pathM l = [] := if_neg (by rw [h]; simp)
    refine AC.enter Try.func109 Try.call109 rfl Try.ntmps109 (of_decide_eq_true (by rfl)) ?_
    repeat' (first
      | refine AW.seq ?_
      | (refine AW.region ?_; conv => whnf)
      | refine AW.block ?_)
    refine AW.once ?_
    repeat' (first
      | refine AW.seq ?_
      | (refine AW.region ?_; conv => whnf)
      | (refine AW.ret ?_; conv => whnf)
      | (refine AW.exit ?_; conv => whnf)
      | refine AW.cond (by rfl) ?_
      | (refine (sIsNC_ok _ _ _ _ _ (by first | assumption | exact St.has (by assumption) (by repeat first | exact .head _ | apply List.Mem.tail) | exact St.arg (by assumption) (by assumption)) (by first | rfl | omega) (by first | (simp; done) | omega | (simp only [List.length_set, List.length_append, List.length_cons, List.length_nil, List.length_replicate, tab_length]; omega) | (simp; omega))).mono ?_; rintro v h' ⟨rfl, e'⟩; subst h'; conv => whnf)
      | (refine Br.ff ?_; conv => whnf)
      | (refine Br.f (by assumption) ?_; conv => whnf)
      | (refine Br.dt (by omega) ?_; conv => whnf)
      | (refine Br.df (by omega) ?_; conv => whnf)
      | (refine Br.dec (fun hc => ?_) (fun hc => ?_) <;> conv => whnf))
    all_goals exact ⟨by rw [e1], Keeps.refl _⟩

def dNum (l : List Int) : Int := if isD l then rankW (pathM l) else -1

theorem iDiagramNumber_ok (l : List Int) (b C : Nat) (h0 : H) (hb : Has h0 b (ints l)) (hL : l.length ≤ 10000000) : AC env 36 [.slice b 0 l.length C] h0 fun v h' => v = .int .i64 (dNum l) ∧ Keeps h0 h' := by
  have hs := St.refl h0
  have lp := pathM_len l
  by_cases h : isD l = true
  · refine AC.enter Try.func36 Try.call36 rfl Try.ntmps36 (of_decide_eq_true (by rfl)) ?_
    repeat' (first
      | refine AW.seq ?_
      | (refine AW.region ?_; conv => whnf)
      | (refine AW.skip ?_; conv => whnf)
      | (refine AW.ret ?_; conv => whnf)
      | refine AW.cond (by rfl) ?_
      | (refine (iIsDiagram_ok _ _ _ _ _ (by first | assumption | exact St.has (by assumption) (by repeat first | exact .head _ | apply List.Mem.tail) | exact St.arg (by assumption) (by assumption)) (by first | rfl | omega)).mono ?_; rintro v h' ⟨rfl, e'⟩; subst h'; conv => whnf)
      | (refine (iPathOfMatching_ok _ _ _ _ (by first | assumption | exact St.has (by assumption) (by repeat first | exact .head _ | apply List.Mem.tail) | exact St.arg (by assumption) (by assumption)) (by first | (simp; done) | omega | (simp only [List.length_set, List.length_append, List.length_cons, List.length_nil, List.length_replicate, tab_length]; omega) | (simp; omega))).mono ?_; rintro v h' ⟨rfl, hk'⟩; have hs' := St.keep (by assumption) hk'; conv => whnf)
      | (refine (iRankPath_ok _ (by first | omega | (simp only [List.length_drop, List.length_take, List.length_append, List.length_cons, List.length_nil]; omega)) _).mono ?_; rintro v h' ⟨rfl, hk'⟩; have hs' := St.keep (by assumption) hk'; conv => whnf)
      | refine Br.not ?_
      | (refine Br.t (by assumption) ?_; conv => whnf))
    exact ⟨by rw [dNum, if_pos h], hs'.keeps⟩
  · have h : isD l = false := by simpa using h
    refine AC.enter Try.func36 Try.call36 rfl Try.ntmps36 (of_decide_eq_true (by rfl)) ?_
    repeat' (first
      | refine AW.seq ?_
      | (refine AW.region ?_; conv => whnf)
      | (refine AW.ret ?_; conv => whnf)
      | refine AW.cond (by rfl) ?_
      | (refine (iIsDiagram_ok _ _ _ _ _ (by first | assumption | exact St.has (by assumption) (by repeat first | exact .head _ | apply List.Mem.tail) | exact St.arg (by assumption) (by assumption)) (by first | rfl | omega)).mono ?_; rintro v h' ⟨rfl, e'⟩; subst h'; conv => whnf)
      | refine Br.not ?_
      | (refine Br.f (by assumption) ?_; conv => whnf))
    exact ⟨by rw [dNum, h]; rfl, Keeps.refl _⟩

theorem sDiagramNumber_ok (l : List Int) (b C : Nat) (h0 : H) (hb : Has h0 b (ints l)) (hL : l.length ≤ 10000000) : AC env 37 [.slice b 0 l.length C] h0 fun v h' => v = .int .i64 (dNum l) ∧ Keeps h0 h' := by
  have hs := St.refl h0
  have lp := pathM_len l
  by_cases h1 : isNC l = true
  · by_cases h2 : 2 ≤ l.length
    · have h : isD l = true := by unfold isD; rw [h1, decide_eq_true (by omega)]; rfl
      refine AC.enter Try.func37 Try.call37 rfl Try.ntmps37 (of_decide_eq_true (by rfl)) ?_
      repeat' (first
        | refine AW.seq ?_
        | (refine AW.region ?_; conv => whnf)
        | (refine AW.skip ?_; conv => whnf)
        | (refine AW.ret ?_; conv => whnf)
        | refine AW.cond (by rfl) ?_
        | (refine (sPathOfMatching_ok _ _ _ _ (by first | assumption | exact St.has (by assumption) (by repeat first | exact .head _ | apply List.Mem.tail) | exact St.arg (by assumption) (by assumption)) (by first | (simp; done) | omega | (simp only [List.length_set, List.length_append, List.length_cons, List.length_nil, List.length_replicate, tab_length]; omega) | (simp; omega))).mono ?_; rintro v h' ⟨rfl, hk'⟩; have hs' := St.keep (by assumption) hk'; conv => whnf)
        | (refine (sRankPath_ok _ (by first | omega | (simp only [List.length_drop, List.length_take, List.length_append, List.length_cons, List.length_nil]; omega)) _).mono ?_; rintro v h' ⟨rfl, hk'⟩; have hs' := St.keep (by assumption) hk'; conv => whnf)
        | refine Br.not ?_
        | (refine Br.t (by assumption) ?_; conv => whnf)
        | (refine Br.df (by omega) ?_; conv => whnf))
      exact ⟨by rw [dNum, if_pos h], hs'.keeps⟩
    · have h : isD l = false := by unfold isD; rw [decide_eq_false (by omega)]; rfl
      refine AC.enter Try.func37 Try.call37 rfl Try.ntmps37 (of_decide_eq_true (by rfl)) ?_
      repeat' (first
        | refine AW.seq ?_
        | (refine AW.region ?_; conv => whnf)
        | (refine AW.ret ?_; conv => whnf)
        | refine AW.cond (by rfl) ?_
        | (refine (sPathOfMatching_ok _ _ _ _ (by first | assumption | exact St.has (by assumption) (by repeat first | exact .head _ | apply List.Mem.tail) | exact St.arg (by assumption) (by assumption)) (by first | (simp; done) | omega | (simp only [List.length_set, List.length_append, List.length_cons, List.length_nil, List.length_replicate, tab_length]; omega) | (simp; omega))).mono ?_; rintro v h' ⟨rfl, hk'⟩; have hs' := St.keep (by assumption) hk'; conv => whnf)
        | refine Br.not ?_
        | (refine Br.t (by assumption) ?_; conv => whnf)
        | (refine Br.dt (by omega) ?_; conv => whnf))
      exact ⟨by rw [dNum, h]; rfl, hs'.keeps⟩
  · have h1 : isNC l = false := by simpa using h1
    have h : isD l = false := by unfold isD; rw [h1, Bool.and_false]
    refine AC.enter Try.func37 Try.call37 rfl Try.ntmps37 (of_decide_eq_true (by rfl)) ?_
    repeat' (first
      | refine AW.seq ?_
      | (refine AW.region ?_; conv => whnf)
      | (refine AW.ret ?_; conv => whnf)
      | refine AW.cond (by rfl) ?_
      | (refine (sPathOfMatching_ok _ _ _ _ (by first | assumption | exact St.has (by assumption) (by repeat first | exact .head _ | apply List.Mem.tail) | exact St.arg (by assumption) (by assumption)) (by first | (simp; done) | omega | (simp only [List.length_set, List.length_append, List.length_cons, List.length_nil, List.length_replicate, tab_length]; omega) | (simp; omega))).mono ?_; rintro v h' ⟨rfl, hk'⟩; have hs' := St.keep (by assumption) hk'; conv => whnf)
      | (refine Br.tt ?_; conv => whnf)
      | refine Br.not ?_
      | (refine Br.f (by assumption) ?_; conv => whnf))
    exact ⟨by rw [dNum, h]; rfl, hs'.keeps⟩


end Go.Proofs.Ytdfdlnjijccpeaa
