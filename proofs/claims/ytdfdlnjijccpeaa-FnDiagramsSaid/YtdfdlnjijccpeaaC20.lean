/-
  Contracts of diagrams that are closed or flipped, and of matchings that are turned, are proved.
  They hold for all rows of numbers.
-/
import Derived.Test.YtdfdlnjijccpeaaC19
set_option linter.unusedVariables false
set_option linter.unusedSimpArgs false
namespace Go.Proofs.Ytdfdlnjijccpeaa
open Go.Proofs.Ytdfdlnjijccpeaa.Ab Go.Proofs.Ytdfdlnjijccpeaa.Pl


theorem idD_len (n : Nat) : (idD n).length = 2 * n := by simp [idD]
theorem ga_idD {n i : Nat} (h : i < 2 * n) : (idD n).getD i 0 = ((2 * n - 1 - i : Nat) : Int) ∧ ga (idD n) i = 2 * n - 1 - i := by
  have e : (idD n).getD i 0 = ((2 * n - 1 - i : Nat) : Int) := by
    rw [idD, tab_getD _ h]
    omega
  exact ⟨e, by rw [ga, e]; rfl⟩
def traceL (l : List Int) : Int := if isD l = true then (loopsN (ga l) (ga (idD (l.length / 2))) l.length : Int) else -1

theorem iTraceLoops_ok (l : List Int) (b C : Nat) (h0 : H) (hb : Has h0 b (ints l)) : AC env 20 [.slice b 0 l.length C] h0 fun v h' => v = .int .i64 (traceL l) ∧ Keeps h0 h' := by
  have hs := St.refl h0
  by_cases h : isD l = true
  · have hm := isNC_spec (isD_spec h).2
    have il := into_of hm
    have ev := isM_even hm
    have hl := (isM_spec hm).1
    have e2 : 2 * (l.length / 2) = l.length := by omega
    have im : into (idD (l.length / 2)) l.length := fun i hi => by
      obtain ⟨g1, g2⟩ := ga_idD (n := l.length / 2) (i := i) (by omega)
      exact ⟨by rw [g1, g2], by omega⟩
    have lid := idD_len (l.length / 2)
    rw [show traceL l = (loopsN (ga l) (ga (idD (l.length / 2))) l.length : Int) from if_pos h]
    refine AC.enter Try.func20 Try.call20 rfl Try.ntmps20 (of_decide_eq_true (by rfl)) ?_
    repeat' (first
      | (rw [half_len])
      | refine AW.seq ?_
      | (refine AW.region ?_; conv => whnf)
      | (refine AW.skip ?_; conv => whnf)
      | refine AW.cond (by rfl) ?_
      | (refine (iIsDiagram_ok _ _ _ _ _ (by first | assumption | exact St.has (by assumption) (by repeat first | exact .head _ | apply List.Mem.tail) | exact St.arg (by assumption) (by assumption)) (by first | rfl | omega)).mono ?_; rintro v h' ⟨rfl, e'⟩; subst h'; conv => whnf)
      | (refine (upright_ok _ (by first | (simp; done) | omega | (simp only [List.length_set, List.length_append, List.length_cons, List.length_nil, List.length_replicate, tab_length]; omega) | (simp; omega)) _).mono ?_; rintro v h' ⟨b, rfl, hn⟩; have hs' := St.newCall (by assumption) hn; clear hn; conv => whnf)
      | refine Br.not ?_
      | (refine Br.t (by assumption) ?_; conv => whnf)
      | (refine Wr.i64 (by omega) ?_; conv => whnf)
      | (refine Ck.mk (by omega) ?_; conv => whnf))
    rw [e2]
    repeat' (first
      | (refine AW.ret ?_; conv => whnf)
      | (refine (cycles_ok _ _ _ _ _ _ _ (by first | assumption | exact St.has (by assumption) (by repeat first | exact .head _ | apply List.Mem.tail) | exact St.arg (by assumption) (by assumption)) (by first | assumption | exact St.has (by assumption) (by repeat first | exact .head _ | apply List.Mem.tail) | exact St.arg (by assumption) (by assumption)) (by assumption) (by assumption) (by first | (simp; done) | omega | (simp only [List.length_set, List.length_append, List.length_cons, List.length_nil, List.length_replicate, tab_length]; omega) | (simp; omega)) (by first | (simp; done) | omega | (simp only [List.length_set, List.length_append, List.length_cons, List.length_nil, List.length_replicate, tab_length]; omega) | (simp; omega))).mono ?_; rintro v h' ⟨rfl, hk'⟩; have hs' := St.keep (by assumption) hk'; conv => whnf))
    exact ⟨rfl, hs'.keeps⟩
  · rw [show traceL l = -1 from if_neg h]
    have h : isD l = false := by simpa using h
    refine AC.enter Try.func20 Try.call20 rfl Try.ntmps20 (of_decide_eq_true (by rfl)) ?_
    repeat' (first
      | refine AW.seq ?_
      | (refine AW.region ?_; conv => whnf)
      | (refine AW.ret ?_; conv => whnf)
      | refine AW.cond (by rfl) ?_
      | (refine (iIsDiagram_ok _ _ _ _ _ (by first | assumption | exact St.has (by assumption) (by repeat first | exact .head _ | apply List.Mem.tail) | exact St.arg (by assumption) (by assumption)) (by first | rfl | omega)).mono ?_; rintro v h' ⟨rfl, e'⟩; subst h'; conv => whnf)
      | refine Br.not ?_
      | (refine Br.f (by assumption) ?_; conv => whnf))
    exact ⟨rfl, Keeps.refl _⟩

theorem sTraceLoops_ok (l : List Int) (b C : Nat) (h0 : H) (hb : Has h0 b (ints l)) (hL : l.length ≤ 10000000) : AC env 34 [.slice b 0 l.length C] h0 fun v h' => v = .int .i64 (traceL l) ∧ Keeps h0 h' := by
  have hs := St.refl h0
  by_cases h : isD l = true
  · have hm := isNC_spec (isD_spec h).2
    have il := into_of hm
    have ev := isM_even hm
    have hl := (isM_spec hm).1
    rw [show traceL l = (loopsN (ga l) (ga (idD (l.length / 2))) l.length : Int) from if_pos h]
    refine AC.enter Try.func34 Try.call34 rfl Try.ntmps34 (of_decide_eq_true (by rfl)) ?_
    repeat' (first
      | refine AW.seq ?_
      | (refine AW.region ?_; conv => whnf)
      | refine AW.block ?_
      | (refine AW.skip ?_; conv => whnf)
      | refine AW.cond (by rfl) ?_
      | (refine (sIsDiagram_ok _ _ _ _ _ (by first | assumption | exact St.has (by assumption) (by repeat first | exact .head _ | apply List.Mem.tail) | exact St.arg (by assumption) (by assumption)) (by first | rfl | omega) (by first | (simp; done) | omega | (simp only [List.length_set, List.length_append, List.length_cons, List.length_nil, List.length_replicate, tab_length]; omega) | (simp; omega))).mono ?_; rintro v h' ⟨rfl, e'⟩; subst h'; conv => whnf)
      | refine Br.not ?_
      | (refine Br.t (by assumption) ?_; conv => whnf)
      | (refine NewG.stB (by assumption) rfl (fun bt h' hs' => ?_); conv => whnf)
      | (refine Ck.slice (by omega) (by omega) (by omega) (by decide) ?_; conv => whnf))
    refine AW.loop3 (fun (s : List Bool) (k i : Nat) => [(0, .slice b 0 l.length C), (3, .slice bt 0 l.length l.length), (4, .int .i64 k), (5, .int .i64 i)])
      (fun s k i h' => i ≤ l.length ∧ roundsTo (ga l) (ga (idD (l.length / 2))) l.length i = (s, k) ∧ St h0 h' [(bt, row (bools s))]) (fun _ _ i => l.length - i) (List.replicate l.length false) 0 0
      (Less.cons rfl (Less.cons rfl (Less.cons rfl (Less.cons rfl (Less.nil _))))) ⟨by omega, rfl, hs'⟩ ?_
    rintro s k i h1 ⟨hi, hr, hs1⟩
    have bk := roundsTo_le (ga l) (ga (idD (l.length / 2))) l.length i
    have ls := roundsTo_len (ga l) (ga (idD (l.length / 2))) l.length i
    rw [hr] at bk ls
    dsimp only at bk ls
    repeat' (first
      | refine AW.seq ?_
      | (refine AW.region ?_; conv => whnf)
      | refine AW.block ?_
      | (refine AW.skip ?_; conv => whnf)
      | (refine AW.ret ?_; conv => whnf)
      | (refine AW.exit ?_; conv => whnf)
      | refine AW.cond (by rfl) ?_
      | (refine Br.dec (fun hc => ?_) (fun hc => ?_) <;> conv => whnf)
      | (refine Br.mk (fun hc => ?_) (fun hc => ?_) <;> conv => whnf)
      | (refine Wr.i64 (by omega) ?_; conv => whnf)
      | (refine Ck.mk (by omega) ?_; conv => whnf)
      | (refine Has.loadB (by first | assumption | exact St.has (by assumption) (by repeat first | exact .head _ | apply List.Mem.tail) | exact St.arg (by assumption) (by assumption)) rfl (by first | (simp; done) | omega | (simp only [List.length_set, List.length_append, List.length_cons, List.length_nil, List.length_replicate, tab_length]; omega) | (simp; omega)) ?_; conv => whnf))
    · exact ⟨s, k, i + 1, (Less.cons rfl (Less.cons rfl (Less.cons rfl (Less.cons rfl (Less.nil _))))), ⟨by omega, roundsTo_seen hr hc, hs1⟩, by omega⟩
    · refine AW.loop3 (fun (u : List Bool) (x f : Nat) => [(0, .slice b 0 l.length C), (3, .slice bt 0 l.length l.length), (4, .int .i64 ((k + 1 : Nat) : Int)), (5, .int .i64 i), (6, .int .i64 x)])
        (fun u x f h' => x < l.length ∧ u.length = l.length ∧ u.count false ≤ f ∧ trail (ga l) (ga (idD (l.length / 2))) l.length s i = trail (ga l) (ga (idD (l.length / 2))) f u x ∧ St h0 h' [(bt, row (bools u))]) (fun _ _ f => f) s i l.length
        (Less.cons rfl (Less.cons rfl (Less.cons rfl (Less.cons rfl (Less.cons rfl (Less.nil _)))))) ⟨by omega, ls, by rw [← ls]; exact List.count_le_length, rfl, hs1⟩ ?_
      rintro u x f h2 ⟨hx, lu, hf, ht, hs2⟩
      have ex : l.getD (x : Int).toNat 0 = (ga l x : Int) ∧ ga l x < l.length := il x hx
      have em : (l.length : Int) - 1 - l.getD (x : Int).toNat 0 = (ga (idD (l.length / 2)) (ga l x) : Int) ∧ ga (idD (l.length / 2)) (ga l x) < l.length := by
        have g := (ga_idD (n := l.length / 2) (i := ga l x) (by omega)).2
        rw [g]
        omega
      repeat' (first
        | refine AW.seq ?_
        | (refine AW.region ?_; conv => whnf)
        | refine AW.block ?_
        | (refine AW.skip ?_; conv => whnf)
        | (refine AW.exit ?_; conv => whnf)
        | refine AW.cond (by rfl) ?_
        | refine Br.not ?_
        | (refine Br.mk (fun hc => ?_) (fun hc => ?_) <;> conv => whnf)
        | (refine Wr.i64 (by omega) ?_; conv => whnf)
        | (refine Ck.mk (by omega) ?_; conv => whnf)
        | (refine Has.loadB (by first | assumption | exact St.has (by assumption) (by repeat first | exact .head _ | apply List.Mem.tail) | exact St.arg (by assumption) (by assumption)) rfl (by first | (simp; done) | omega | (simp only [List.length_set, List.length_append, List.length_cons, List.length_nil, List.length_replicate, tab_length]; omega) | (simp; omega)) ?_; conv => whnf)
        | (refine Has.loadZ (by first | assumption | exact St.has (by assumption) (by repeat first | exact .head _ | apply List.Mem.tail) | exact St.arg (by assumption) (by assumption)) rfl (by first | (simp; done) | omega | (simp only [List.length_set, List.length_append, List.length_cons, List.length_nil, List.length_replicate, tab_length]; omega) | (simp; omega)) ?_; conv => whnf)
        | (refine StoreG.stB (by assumption) (by repeat first | exact .here | apply Spot.there) rfl (by first | (simp; done) | omega | (simp only [List.length_set, List.length_append, List.length_cons, List.length_nil, List.length_replicate, tab_length]; omega) | (simp; omega)) (fun h' hs' => ?_); conv => whnf))
      · have hcx : u.getD x false = true := hc
        rw [trail_seen _ _ _ hcx] at ht
        have rn := roundsTo_new hr (by assumption)
        rw [ht] at rn
        exact ⟨u, k + 1, i + 1, (Less.cons rfl (Less.cons rfl (Less.cons rfl (Less.cons rfl (Less.nil _))))), ⟨by omega, rn, hs2⟩, by omega⟩
      · rw [em.1]
        have hcx : u.getD x false = false := hc
        have c1 := count_mark (by omega) hcx
        have c2 := count_more (s := u.set x true) (x := ga l x) (by simp; omega)
        obtain ⟨f, rfl⟩ : ∃ g, f = g + 1 := ⟨f - 1, by omega⟩
        rw [trail_step _ _ _ hcx] at ht
        exact ⟨_, _, f, (Less.cons rfl (Less.cons rfl (Less.cons rfl (Less.cons rfl (Less.cons rfl (Less.nil _)))))), ⟨em.2, by simpa using lu, by omega, ht, hs'⟩, by omega⟩
    · have e : i = l.length := by omega
      subst e
      exact ⟨by rw [loopsN, hr], hs1.keeps⟩
  · rw [show traceL l = -1 from if_neg h]
    have h : isD l = false := by simpa using h
    refine AC.enter Try.func34 Try.call34 rfl Try.ntmps34 (of_decide_eq_true (by rfl)) ?_
    repeat' (first
      | refine AW.seq ?_
      | (refine AW.region ?_; conv => whnf)
      | (refine AW.ret ?_; conv => whnf)
      | refine AW.cond (by rfl) ?_
      | (refine (sIsDiagram_ok _ _ _ _ _ (by first | assumption | exact St.has (by assumption) (by repeat first | exact .head _ | apply List.Mem.tail) | exact St.arg (by assumption) (by assumption)) (by first | rfl | omega) (by first | (simp; done) | omega | (simp only [List.length_set, List.length_append, List.length_cons, List.length_nil, List.length_replicate, tab_length]; omega) | (simp; omega))).mono ?_; rintro v h' ⟨rfl, e'⟩; subst h'; conv => whnf)
      | refine Br.not ?_
      | (refine Br.f (by assumption) ?_; conv => whnf))
    exact ⟨rfl, Keeps.refl _⟩


/-- a diagram upside down, so many points of it -/
def flipTo (l : List Int) : Nat → List Int
  | 0 => List.replicate l.length 0
  | i + 1 => (flipTo l i).set ((l.length : Int) - 1 - (i : Int)).toNat ((l.length : Int) - 1 - l.getD i 0)
theorem flipTo_len (l : List Int) : ∀ i, (flipTo l i).length = l.length := by
  intro i
  induction i with
  | zero => simp [flipTo]
  | succ i ih => simp [flipTo, ih]
def flipD (l : List Int) : List Int × Bool := if isD l = true then (flipTo l l.length, true) else ([], false)
theorem flipD_len (l : List Int) : (flipD l).1.length ≤ 16 := by
  unfold flipD
  split
  · rename_i h
    have := (isM_spec (isNC_spec (isD_spec h).2)).1
    rw [flipTo_len]
    exact this
  · simp

theorem iFlipDiagram_ok (l : List Int) (b C : Nat) (h0 : H) (hb : Has h0 b (ints l)) : AC env 19 [.slice b 0 l.length C] h0 (RetI (flipD l) h0) := by
  have hs := St.refl h0
  by_cases h : isD l = true
  · have hm := isM_spec (isNC_spec (isD_spec h).2)
    refine AC.enter Try.func19 Try.call19 rfl Try.ntmps19 (of_decide_eq_true (by rfl)) ?_
    repeat' (first
      | refine AW.seq ?_
      | (refine AW.region ?_; conv => whnf)
      | refine AW.block ?_
      | (refine AW.skip ?_; conv => whnf)
      | refine AW.cond (by rfl) ?_
      | (refine (iIsDiagram_ok _ _ _ _ _ (by first | assumption | exact St.has (by assumption) (by repeat first | exact .head _ | apply List.Mem.tail) | exact St.arg (by assumption) (by assumption)) (by first | rfl | omega)).mono ?_; rintro v h' ⟨rfl, e'⟩; subst h'; conv => whnf)
      | refine Br.not ?_
      | (refine Br.t (by assumption) ?_; conv => whnf)
      | (refine NewG.stZ (by assumption) rfl (fun bt h' hs' => ?_); conv => whnf)
      | (refine Ck.slice (by omega) (by omega) (by omega) (by decide) ?_; conv => whnf))
    refine AW.loop1 (fun (i : Nat) => [(4, .int .i64 l.length), (5, .slice bt 0 l.length l.length), (16, .slice b 0 l.length C), (17, .int .i64 l.length), (18, .int .i64 i)])
      (fun i h' => i ≤ l.length ∧ St h0 h' [(bt, row (ints (flipTo l i)))]) (fun i => l.length - i) 0 (Less.cons rfl (Less.cons rfl (Less.cons rfl (Less.cons rfl (Less.cons rfl (Less.nil _)))))) ⟨by omega, hs'⟩ ?_
    rintro i h1 ⟨hi, hs1⟩
    have lf := flipTo_len l i
    by_cases hi2 : i < l.length
    · have ok : 0 ≤ l.getD (i : Int).toNat 0 ∧ l.getD (i : Int).toNat 0 ≤ (l.length : Int) - 1 := (hm.2 i hi2).1
      repeat' (first
        | refine AW.seq ?_
        | (refine AW.region ?_; conv => whnf)
        | refine AW.block ?_
        | (refine AW.skip ?_; conv => whnf)
        | refine AW.cond (by rfl) ?_
        | (refine Br.dt (by omega) ?_; conv => whnf)
        | (refine Wr.i64 (by omega) ?_; conv => whnf)
        | (refine Ck.mk (by omega) ?_; conv => whnf)
        | (refine Has.loadZ (by first | assumption | exact St.has (by assumption) (by repeat first | exact .head _ | apply List.Mem.tail) | exact St.arg (by assumption) (by assumption)) rfl (by first | (simp; done) | omega | (simp only [List.length_set, List.length_append, List.length_cons, List.length_nil, List.length_replicate, tab_length]; omega) | (simp; omega)) ?_; conv => whnf)
        | (refine StoreG.stZ (by assumption) (by repeat first | exact .here | apply Spot.there) rfl (by first | (simp; done) | omega | (simp only [List.length_set, List.length_append, List.length_cons, List.length_nil, List.length_replicate, tab_length]; omega) | (simp; omega)) (fun h' hs' => ?_); conv => whnf))
      exact ⟨i + 1, (Less.cons rfl (Less.cons rfl (Less.cons rfl (Less.cons rfl (Less.cons rfl (Less.nil _)))))), ⟨by omega, hs'⟩, by omega⟩
    · repeat' (first
        | refine AW.seq ?_
        | (refine AW.region ?_; conv => whnf)
        | (refine AW.ret ?_; conv => whnf)
        | (refine AW.exit ?_; conv => whnf)
        | refine AW.cond (by rfl) ?_
        | (refine Br.df (by omega) ?_; conv => whnf))
      have e : i = l.length := by omega
      subst e
      exact RetI.mk' (if_pos h) lf.symm hs1.toNew
  · have h2 : isD l = false := by simpa using h
    refine AC.enter Try.func19 Try.call19 rfl Try.ntmps19 (of_decide_eq_true (by rfl)) ?_
    repeat' (first
      | refine AW.seq ?_
      | (refine AW.region ?_; conv => whnf)
      | (refine AW.ret ?_; conv => whnf)
      | refine AW.cond (by rfl) ?_
      | (refine (iIsDiagram_ok _ _ _ _ _ (by first | assumption | exact St.has (by assumption) (by repeat first | exact .head _ | apply List.Mem.tail) | exact St.arg (by assumption) (by assumption)) (by first | rfl | omega)).mono ?_; rintro v h' ⟨rfl, e'⟩; subst h'; conv => whnf)
      | refine Br.not ?_
      | (refine Br.f (by assumption) ?_; conv => whnf)
      | (refine NewG.st (by assumption) (fun bt h' hs' => ?_); conv => whnf))
    exact RetI.mk' (if_neg h) rfl hs'.toNew

theorem sFlipDiagram_ok (l : List Int) (b C : Nat) (h0 : H) (hb : Has h0 b (ints l)) (hL : l.length ≤ 10000000) : AC env 18 [.slice b 0 l.length C] h0 (RetI (flipD l) h0) := by
  have hs := St.refl h0
  by_cases h : isD l = true
  · have hm := isM_spec (isNC_spec (isD_spec h).2)
    refine AC.enter Try.func18 Try.call18 rfl Try.ntmps18 (of_decide_eq_true (by rfl)) ?_
    repeat' (first
      | refine AW.seq ?_
      | (refine AW.region ?_; conv => whnf)
      | refine AW.block ?_
      | (refine AW.skip ?_; conv => whnf)
      | refine AW.cond (by rfl) ?_
      | (refine (sIsDiagram_ok _ _ _ _ _ (by first | assumption | exact St.has (by assumption) (by repeat first | exact .head _ | apply List.Mem.tail) | exact St.arg (by assumption) (by assumption)) (by first | rfl | omega) (by first | (simp; done) | omega | (simp only [List.length_set, List.length_append, List.length_cons, List.length_nil, List.length_replicate, tab_length]; omega) | (simp; omega))).mono ?_; rintro v h' ⟨rfl, e'⟩; subst h'; conv => whnf)
      | refine Br.not ?_
      | (refine Br.t (by assumption) ?_; conv => whnf)
      | (refine NewG.stZ (by assumption) rfl (fun bt h' hs' => ?_); conv => whnf)
      | (refine Ck.slice (by omega) (by omega) (by omega) (by decide) ?_; conv => whnf))
    refine AW.loop1 (fun (i : Nat) => [(0, .slice b 0 l.length C), (4, .slice bt 0 l.length l.length), (5, .int .i64 i)])
      (fun i h' => i ≤ l.length ∧ St h0 h' [(bt, row (ints (flipTo l i)))]) (fun i => l.length - i) 0 (Less.cons rfl (Less.cons rfl (Less.cons rfl (Less.nil _)))) ⟨by omega, hs'⟩ ?_
    rintro i h1 ⟨hi, hs1⟩
    have lf := flipTo_len l i
    by_cases hi2 : i < l.length
    · have ok : 0 ≤ l.getD (i : Int).toNat 0 ∧ l.getD (i : Int).toNat 0 ≤ (l.length : Int) - 1 := (hm.2 i hi2).1
      repeat' (first
        | refine AW.seq ?_
        | (refine AW.region ?_; conv => whnf)
        | refine AW.block ?_
        | (refine AW.skip ?_; conv => whnf)
        | refine AW.cond (by rfl) ?_
        | (refine Br.dt (by omega) ?_; conv => whnf)
        | (refine Wr.i64 (by omega) ?_; conv => whnf)
        | (refine Ck.mk (by omega) ?_; conv => whnf)
        | (refine Has.loadZ (by first | assumption | exact St.has (by assumption) (by repeat first | exact .head _ | apply List.Mem.tail) | exact St.arg (by assumption) (by assumption)) rfl (by first | (simp; done) | omega | (simp only [List.length_set, List.length_append, List.length_cons, List.length_nil, List.length_replicate, tab_length]; omega) | (simp; omega)) ?_; conv => whnf)
        | (refine StoreG.stZ (by assumption) (by repeat first | exact .here | apply Spot.there) rfl (by first | (simp; done) | omega | (simp only [List.length_set, List.length_append, List.length_cons, List.length_nil, List.length_replicate, tab_length]; omega) | (simp; omega)) (fun h' hs' => ?_); conv => whnf))
      exact ⟨i + 1, (Less.cons rfl (Less.cons rfl (Less.cons rfl (Less.nil _)))), ⟨by omega, hs'⟩, by omega⟩
    · repeat' (first
        | refine AW.seq ?_
        | (refine AW.region ?_; conv => whnf)
        | (refine AW.ret ?_; conv => whnf)
        | (refine AW.exit ?_; conv => whnf)
        | refine AW.cond (by rfl) ?_
        | (refine Br.df (by omega) ?_; conv => whnf))
      have e : i = l.length := by omega
      subst e
      exact RetI.mk' (if_pos h) lf.symm hs1.toNew
  · have h2 : isD l = false := by simpa using h
    refine AC.enter Try.func18 Try.call18 rfl Try.ntmps18 (of_decide_eq_true (by rfl)) ?_
    repeat' (first
      | refine AW.seq ?_
      | (refine AW.region ?_; conv => whnf)
      | (refine AW.ret ?_; conv => whnf)
      | refine AW.cond (by rfl) ?_
      | (refine (sIsDiagram_ok _ _ _ _ _ (by first | assumption | exact St.has (by assumption) (by repeat first | exact .head _ | apply List.Mem.tail) | exact St.arg (by assumption) (by assumption)) (by first | rfl | omega) (by first | (simp; done) | omega | (simp only [List.length_set, List.length_append, List.length_cons, List.length_nil, List.length_replicate, tab_length]; omega) | (simp; omega))).mono ?_; rintro v h' ⟨rfl, e'⟩; subst h'; conv => whnf)
      | refine Br.not ?_
      | (refine Br.f (by assumption) ?_; conv => whnf)
      | (refine NewG.st (by assumption) (fun bt h' hs' => ?_); conv => whnf))
    exact RetI.mk' (if_neg h) rfl hs'.toNew



/-- a matching turned, so many points of it -/
def turnTo (l : List Int) (k : Int) : Nat → List Int
  | 0 => List.replicate l.length 0
  | i + 1 => (turnTo l k i).set (((i : Int) - k + l.length).tmod l.length).toNat ((l.getD i 0 - k + l.length).tmod l.length)
theorem turnTo_len (l : List Int) (k : Int) : ∀ i, (turnTo l k i).length = l.length := by
  intro i
  induction i with
  | zero => simp [turnTo]
  | succ i ih => simp [turnTo, ih]
def turnOk (l : List Int) (k : Int) : Prop := isM l = true ∧ 0 ≤ k ∧ k ≤ max 0 ((l.length : Int) - 1)
instance (l : List Int) (k : Int) : Decidable (turnOk l k) := by unfold turnOk; infer_instance
def turnM (l : List Int) (k : Int) : List Int × Bool := if turnOk l k then (turnTo l k l.length, true) else ([], false)
theorem turnM_len (l : List Int) (k : Int) : (turnM l k).1.length ≤ 16 := by
  unfold turnM
  split
  · rename_i h
    have := (isM_spec h.1).1
    rw [turnTo_len]
    exact this
  · simp
theorem tmod_in {a n : Int} (ha : 0 ≤ a) (hn : 0 < n) : 0 ≤ a.tmod n ∧ a.tmod n < n := ⟨Int.tmod_nonneg _ ha, Int.tmod_lt_of_pos _ hn⟩

theorem iTurnMatching_ok (l : List Int) (k : Int) (b C : Nat) (h0 : H) (hb : Has h0 b (ints l)) (hk : -9223372036854775808 ≤ k ∧ k ≤ 9223372036854775807) : AC env 122 [.slice b 0 l.length C, .int .i64 k] h0 (RetI (turnM l k) h0) := by
  have hs := St.refl h0
  by_cases h : turnOk l k
  · obtain ⟨g1, g2⟩ := id h
    have hm := isM_spec g1
    refine AC.enter Try.func122 Try.call122 rfl Try.ntmps122 (of_decide_eq_true (by rfl)) ?_
    repeat' (first
      | refine AW.seq ?_
      | (refine AW.region ?_; conv => whnf)
      | refine AW.block ?_
      | (refine AW.skip ?_; conv => whnf)
      | refine AW.cond (by rfl) ?_
      | (refine (iIsMatching_ok _ _ _ _ _ (by first | assumption | exact St.has (by assumption) (by repeat first | exact .head _ | apply List.Mem.tail) | exact St.arg (by assumption) (by assumption)) (by first | rfl | omega)).mono ?_; rintro v h' ⟨rfl, e'⟩; subst h'; conv => whnf)
      | (refine (within_ok _ _ _ _).mono ?_; rintro v h' ⟨rfl, e'⟩; subst h'; conv => whnf)
      | refine Br.not ?_
      | (refine Br.t (by assumption) ?_; conv => whnf)
      | (refine Br.dt (by omega) ?_; conv => whnf)
      | (refine Wr.i64 (by omega) ?_; conv => whnf)
      | (refine NewG.stZ (by assumption) rfl (fun bt h' hs' => ?_); conv => whnf)
      | (refine Ck.slice (by omega) (by omega) (by omega) (by decide) ?_; conv => whnf))
    refine AW.loop1 (fun (i : Nat) => [(1, .int .i64 k), (6, .int .i64 l.length), (7, .slice bt 0 l.length l.length), (27, .slice b 0 l.length C), (28, .int .i64 l.length), (29, .int .i64 i)])
      (fun i h' => i ≤ l.length ∧ St h0 h' [(bt, row (ints (turnTo l k i)))]) (fun i => l.length - i) 0 (Less.cons rfl (Less.cons rfl (Less.cons rfl (Less.cons rfl (Less.cons rfl (Less.cons rfl (Less.nil _))))))) ⟨by omega, hs'⟩ ?_
    rintro i h1 ⟨hi, hs1⟩
    have lf := turnTo_len l k i
    by_cases hi2 : i < l.length
    · have ok : 0 ≤ l.getD (i : Int).toNat 0 ∧ l.getD (i : Int).toNat 0 ≤ (l.length : Int) - 1 := (hm.2 i hi2).1
      have t1 := tmod_in (a := (i : Int) - k + l.length) (n := l.length) (by omega) (by omega)
      repeat' (first
        | refine AW.seq ?_
        | (refine AW.region ?_; conv => whnf)
        | refine AW.block ?_
        | (refine AW.skip ?_; conv => whnf)
        | refine AW.cond (by rfl) ?_
        | (refine AW.draw (id := 8) (.p 0 (.p 1 (.p 2 (.p 3 (.p 4 (.p 5 (.p 6 (.p 7 (.p 8 (.p 9 (.p 10 (.p 11 (.p 12 (.p 13 (.p 14 (.p 15 (.all [16] fun _ => .done))))))))))))))))) (by kernel_rfl) (by kernel_rfl) ?_; conv => whnf)
        | (refine Br.dt (by omega) ?_; conv => whnf)
        | (refine Wr.i64 (by omega) ?_; conv => whnf)
        | (refine Ck.mk (by omega) ?_; conv => whnf)
        | (refine Has.loadZ (by first | assumption | exact St.has (by assumption) (by repeat first | exact .head _ | apply List.Mem.tail) | exact St.arg (by assumption) (by assumption)) rfl (by first | (simp; done) | omega | (simp only [List.length_set, List.length_append, List.length_cons, List.length_nil, List.length_replicate, tab_length]; omega) | (simp; omega)) ?_; conv => whnf)
        | (refine StoreG.stZ (by assumption) (by repeat first | exact .here | apply Spot.there) rfl (by first | (simp; done) | omega | (simp only [List.length_set, List.length_append, List.length_cons, List.length_nil, List.length_replicate, tab_length]; omega) | (simp; omega)) (fun h' hs' => ?_); conv => whnf))
      exact ⟨i + 1, (Less.cons rfl (Less.cons rfl (Less.cons rfl (Less.cons rfl (Less.cons rfl (Less.cons rfl (Less.nil _))))))), ⟨by omega, hs'⟩, by omega⟩
    · repeat' (first
        | refine AW.seq ?_
        | (refine AW.region ?_; conv => whnf)
        | (refine AW.ret ?_; conv => whnf)
        | (refine AW.exit ?_; conv => whnf)
        | refine AW.cond (by rfl) ?_
        | (refine Br.df (by omega) ?_; conv => whnf))
      have e : i = l.length := by omega
      subst e
      exact RetI.mk' (if_pos h) lf.symm hs1.toNew
  · by_cases g : isM l = true
    · have g2 : ¬ (0 ≤ k ∧ k ≤ max 0 ((l.length : Int) - 1)) := fun x => h ⟨g, x⟩
      have hm := isM_spec g
      refine AC.enter Try.func122 Try.call122 rfl Try.ntmps122 (of_decide_eq_true (by rfl)) ?_
      repeat' (first
        | refine AW.seq ?_
        | (refine AW.region ?_; conv => whnf)
        | (refine AW.ret ?_; conv => whnf)
        | refine AW.cond (by rfl) ?_
        | (refine (iIsMatching_ok _ _ _ _ _ (by first | assumption | exact St.has (by assumption) (by repeat first | exact .head _ | apply List.Mem.tail) | exact St.arg (by assumption) (by assumption)) (by first | rfl | omega)).mono ?_; rintro v h' ⟨rfl, e'⟩; subst h'; conv => whnf)
        | (refine (within_ok _ _ _ _).mono ?_; rintro v h' ⟨rfl, e'⟩; subst h'; conv => whnf)
        | refine Br.not ?_
        | (refine Br.t (by assumption) ?_; conv => whnf)
        | (refine Br.df (by omega) ?_; conv => whnf)
        | (refine Wr.i64 (by omega) ?_; conv => whnf)
        | (refine NewG.st (by assumption) (fun bt h' hs' => ?_); conv => whnf))
      exact RetI.mk' (if_neg h) rfl hs'.toNew
    · have g : isM l = false := by simpa using g
      refine AC.enter Try.func122 Try.call122 rfl Try.ntmps122 (of_decide_eq_true (by rfl)) ?_
      repeat' (first
        | refine AW.seq ?_
        | (refine AW.region ?_; conv => whnf)
        | (refine AW.ret ?_; conv => whnf)
        | refine AW.cond (by rfl) ?_
        | (refine (iIsMatching_ok _ _ _ _ _ (by first | assumption | exact St.has (by assumption) (by repeat first | exact .head _ | apply List.Mem.tail) | exact St.arg (by assumption) (by assumption)) (by first | rfl | omega)).mono ?_; rintro v h' ⟨rfl, e'⟩; subst h'; conv => whnf)
        | (refine Br.tt ?_; conv => whnf)
        | refine Br.not ?_
        | (refine Br.f (by assumption) ?_; conv => whnf)
        | (refine NewG.st (by assumption) (fun bt h' hs' => ?_); conv => whnf))
      exact RetI.mk' (if_neg h) rfl hs'.toNew

theorem sTurnMatching_ok (l : List Int) (k : Int) (b C : Nat) (h0 : H) (hb : Has h0 b (ints l)) (hk : -9223372036854775808 ≤ k ∧ k ≤ 9223372036854775807) (hL : l.length ≤ 10000000) : AC env 123 [.slice b 0 l.length C, .int .i64 k] h0 (RetI (turnM l k) h0) := by
  have hs := St.refl h0
  by_cases h : turnOk l k
  · obtain ⟨g1, g2⟩ := id h
    have hm := isM_spec g1
    refine AC.enter Try.func123 Try.call123 rfl Try.ntmps123 (of_decide_eq_true (by rfl)) ?_
    repeat' (first
      | refine AW.seq ?_
      | (refine AW.region ?_; conv => whnf)
      | refine AW.block ?_
      | (refine AW.skip ?_; conv => whnf)
      | refine AW.cond (by rfl) ?_
      | (refine (sIsMatching_ok _ _ _ _ _ (by first | assumption | exact St.has (by assumption) (by repeat first | exact .head _ | apply List.Mem.tail) | exact St.arg (by assumption) (by assumption)) (by first | rfl | omega) (by first | (simp; done) | omega | (simp only [List.length_set, List.length_append, List.length_cons, List.length_nil, List.length_replicate, tab_length]; omega) | (simp; omega))).mono ?_; rintro v h' ⟨rfl, e'⟩; subst h'; conv => whnf)
      | (refine (l1In_ok _ _ _ _).mono ?_; rintro v h' ⟨rfl, e'⟩; subst h'; conv => whnf)
      | refine Br.not ?_
      | (refine Br.t (by assumption) ?_; conv => whnf)
      | (refine Br.dt (by omega) ?_; conv => whnf)
      | (refine Wr.i64 (by omega) ?_; conv => whnf)
      | (refine NewG.stZ (by assumption) rfl (fun bt h' hs' => ?_); conv => whnf)
      | (refine Ck.slice (by omega) (by omega) (by omega) (by decide) ?_; conv => whnf))
    refine AW.loop1 (fun (i : Nat) => [(0, .slice b 0 l.length C), (1, .int .i64 k), (6, .int .i64 l.length), (7, .slice bt 0 l.length l.length), (8, .int .i64 i)])
      (fun i h' => i ≤ l.length ∧ St h0 h' [(bt, row (ints (turnTo l k i)))]) (fun i => l.length - i) 0 (Less.cons rfl (Less.cons rfl (Less.cons rfl (Less.cons rfl (Less.cons rfl (Less.nil _)))))) ⟨by omega, hs'⟩ ?_
    rintro i h1 ⟨hi, hs1⟩
    have lf := turnTo_len l k i
    by_cases hi2 : i < l.length
    · have ok : 0 ≤ l.getD (i : Int).toNat 0 ∧ l.getD (i : Int).toNat 0 ≤ (l.length : Int) - 1 := (hm.2 i hi2).1
      have t1 := tmod_in (a := (i : Int) - k + l.length) (n := l.length) (by omega) (by omega)
      repeat' (first
        | refine AW.seq ?_
        | (refine AW.region ?_; conv => whnf)
        | refine AW.block ?_
        | (refine AW.skip ?_; conv => whnf)
        | refine AW.cond (by rfl) ?_
        | (refine AW.draw (id := 8) (.p 0 (.p 1 (.p 2 (.p 3 (.p 4 (.p 5 (.p 6 (.p 7 (.p 8 (.p 9 (.p 10 (.p 12 (.p 14 (.p 16 (.r 11 [13, 15, 17, 18, 19] (.p 13 (.p 15 (.p 17 (.p 18 (.all [19] fun _ => .done)))))))))))))))))))) (by kernel_rfl) (by kernel_rfl) ?_; conv => whnf)
        | (refine Br.dt (by omega) ?_; conv => whnf)
        | (refine Wr.i64 (by omega) ?_; conv => whnf)
        | (refine Ck.mk (by omega) ?_; conv => whnf)
        | (refine Has.loadZ (by first | assumption | exact St.has (by assumption) (by repeat first | exact .head _ | apply List.Mem.tail) | exact St.arg (by assumption) (by assumption)) rfl (by first | (simp; done) | omega | (simp only [List.length_set, List.length_append, List.length_cons, List.length_nil, List.length_replicate, tab_length]; omega) | (simp; omega)) ?_; conv => whnf)
        | (refine StoreG.stZ (by assumption) (by repeat first | exact .here | apply Spot.there) rfl (by first | (simp; done) | omega | (simp only [List.length_set, List.length_append, List.length_cons, List.length_nil, List.length_replicate, tab_length]; omega) | (simp; omega)) (fun h' hs' => ?_); conv => whnf))
      exact ⟨i + 1, (Less.cons rfl (Less.cons rfl (Less.cons rfl (Less.cons rfl (Less.cons rfl (Less.nil _)))))), ⟨by omega, hs'⟩, by omega⟩
    · repeat' (first
        | refine AW.seq ?_
        | (refine AW.region ?_; conv => whnf)
        | (refine AW.ret ?_; conv => whnf)
        | (refine AW.exit ?_; conv => whnf)
        | refine AW.cond (by rfl) ?_
        | (refine Br.df (by omega) ?_; conv => whnf))
      have e : i = l.length := by omega
      subst e
      exact RetI.mk' (if_pos h) lf.symm hs1.toNew
  · by_cases g : isM l = true
    · have g2 : ¬ (0 ≤ k ∧ k ≤ max 0 ((l.length : Int) - 1)) := fun x => h ⟨g, x⟩
      have hm := isM_spec g
      refine AC.enter Try.func123 Try.call123 rfl Try.ntmps123 (of_decide_eq_true (by rfl)) ?_
      repeat' (first
        | refine AW.seq ?_
        | (refine AW.region ?_; conv => whnf)
        | (refine AW.ret ?_; conv => whnf)
        | refine AW.cond (by rfl) ?_
        | (refine (sIsMatching_ok _ _ _ _ _ (by first | assumption | exact St.has (by assumption) (by repeat first | exact .head _ | apply List.Mem.tail) | exact St.arg (by assumption) (by assumption)) (by first | rfl | omega) (by first | (simp; done) | omega | (simp only [List.length_set, List.length_append, List.length_cons, List.length_nil, List.length_replicate, tab_length]; omega) | (simp; omega))).mono ?_; rintro v h' ⟨rfl, e'⟩; subst h'; conv => whnf)
        | (refine (l1In_ok _ _ _ _).mono ?_; rintro v h' ⟨rfl, e'⟩; subst h'; conv => whnf)
        | refine Br.not ?_
        | (refine Br.t (by assumption) ?_; conv => whnf)
        | (refine Br.df (by omega) ?_; conv => whnf)
        | (refine Wr.i64 (by omega) ?_; conv => whnf)
        | (refine NewG.st (by assumption) (fun bt h' hs' => ?_); conv => whnf))
      exact RetI.mk' (if_neg h) rfl hs'.toNew
    · have g : isM l = false := by simpa using g
      refine AC.enter Try.func123 Try.call123 rfl Try.ntmps123 (of_decide_eq_true (by rfl)) ?_
      repeat' (first
        | refine AW.seq ?_
        | (refine AW.region ?_; conv => whnf)
        | (refine AW.ret ?_; conv => whnf)
        | refine AW.cond (by rfl) ?_
        | (refine (sIsMatching_ok _ _ _ _ _ (by first | assumption | exact St.has (by assumption) (by repeat first | exact .head _ | apply List.Mem.tail) | exact St.arg (by assumption) (by assumption)) (by first | rfl | omega) (by first | (simp; done) | omega | (simp only [List.length_set, List.length_append, List.length_cons, List.length_nil, List.length_replicate, tab_length]; omega) | (simp; omega))).mono ?_; rintro v h' ⟨rfl, e'⟩; subst h'; conv => whnf)
        | (refine Br.tt ?_; conv => whnf)
        | refine Br.not ?_
        | (refine Br.f (by assumption) ?_; conv => whnf)
        | (refine NewG.st (by assumption) (fun bt h' hs' => ?_); conv => whnf))
      exact RetI.mk' (if_neg h) rfl hs'.toNew

/-- two rows and whether there are some -/
def Ret2 (x y : List Int) (t : Bool) (h0 : H) (v : AV) (h' : H) : Prop := ∃ b c, v = .tup [.slice b 0 x.length x.length, .slice c 0 y.length y.length, .bool t] ∧ St h0 h' [(c, row (ints y)), (b, row (ints x))]
def turn2 (l m : List Int) : List Int × List Int × Bool := if loopsOf l m < 1 then ([], [], false) else ((turnM l 1).1, (turnM m 1).1, true)
theorem turn2_len (l m : List Int) : (turn2 l m).1.length ≤ 16 ∧ (turn2 l m).2.1.length ≤ 16 := by
  unfold turn2
  split
  · simp
  · exact ⟨turnM_len l 1, turnM_len m 1⟩

theorem iTurnMeander_ok (l m : List Int) (b c C D : Nat) (h0 : H) (hb : Has h0 b (ints l)) (hc' : Has h0 c (ints m)) : AC env 61 [.slice b 0 l.length C, .slice c 0 m.length D] h0 (Ret2 (turn2 l m).1 (turn2 l m).2.1 (turn2 l m).2.2 h0) := by
  have hs := St.refl h0
  by_cases h : loopsOf l m < 1
  · rw [show turn2 l m = ([], [], false) from if_pos h]
    refine AC.enter Try.func61 Try.call61 rfl Try.ntmps61 (of_decide_eq_true (by rfl)) ?_
    repeat' (first
      | refine AW.seq ?_
      | (refine AW.region ?_; conv => whnf)
      | (refine AW.ret ?_; conv => whnf)
      | refine AW.cond (by rfl) ?_
      | (refine (iLoopsOf_ok _ _ _ _ _ _ _ (by first | assumption | exact St.has (by assumption) (by repeat first | exact .head _ | apply List.Mem.tail) | exact St.arg (by assumption) (by assumption)) (by first | assumption | exact St.has (by assumption) (by repeat first | exact .head _ | apply List.Mem.tail) | exact St.arg (by assumption) (by assumption))).mono ?_; rintro v h' ⟨rfl, hk'⟩; have hs' := St.keep (by assumption) hk'; conv => whnf)
      | (refine Br.dt (by omega) ?_; conv => whnf)
      | (refine NewG.st (by assumption) (fun bt h' hs' => ?_); conv => whnf))
    exact ⟨_, _, rfl, hs'⟩
  · rw [show turn2 l m = _ from if_neg h]
    refine AC.enter Try.func61 Try.call61 rfl Try.ntmps61 (of_decide_eq_true (by rfl)) ?_
    repeat' (first
      | refine AW.seq ?_
      | (refine AW.region ?_; conv => whnf)
      | (refine AW.skip ?_; conv => whnf)
      | (refine AW.ret ?_; conv => whnf)
      | refine AW.cond (by rfl) ?_
      | (refine (iLoopsOf_ok _ _ _ _ _ _ _ (by first | assumption | exact St.has (by assumption) (by repeat first | exact .head _ | apply List.Mem.tail) | exact St.arg (by assumption) (by assumption)) (by first | assumption | exact St.has (by assumption) (by repeat first | exact .head _ | apply List.Mem.tail) | exact St.arg (by assumption) (by assumption))).mono ?_; rintro v h' ⟨rfl, hk'⟩; have hs' := St.keep (by assumption) hk'; conv => whnf)
      | (refine (iTurnMatching_ok _ _ _ _ _ (by first | assumption | exact St.has (by assumption) (by repeat first | exact .head _ | apply List.Mem.tail) | exact St.arg (by assumption) (by assumption)) (by omega)).mono ?_; rintro v h' ⟨b, rfl, hn⟩; have hs' := St.newCall (by assumption) hn; clear hn; conv => whnf)
      | (refine Br.df (by omega) ?_; conv => whnf))
    exact ⟨_, _, rfl, hs'⟩

theorem sTurnMeander_ok (l m : List Int) (b c C D : Nat) (h0 : H) (hb : Has h0 b (ints l)) (hc' : Has h0 c (ints m)) (hL : l.length ≤ 10000000) (hM : m.length ≤ 10000000) : AC env 62 [.slice b 0 l.length C, .slice c 0 m.length D] h0 (Ret2 (turn2 l m).1 (turn2 l m).2.1 (turn2 l m).2.2 h0) := by
  have hs := St.refl h0
  by_cases h : loopsOf l m < 1
  · rw [show turn2 l m = ([], [], false) from if_pos h]
    refine AC.enter Try.func62 Try.call62 rfl Try.ntmps62 (of_decide_eq_true (by rfl)) ?_
    repeat' (first
      | refine AW.seq ?_
      | (refine AW.region ?_; conv => whnf)
      | (refine AW.ret ?_; conv => whnf)
      | refine AW.cond (by rfl) ?_
      | (refine (sLoopsOf_ok _ _ _ _ _ _ _ (by first | assumption | exact St.has (by assumption) (by repeat first | exact .head _ | apply List.Mem.tail) | exact St.arg (by assumption) (by assumption)) (by first | assumption | exact St.has (by assumption) (by repeat first | exact .head _ | apply List.Mem.tail) | exact St.arg (by assumption) (by assumption)) (by first | (simp; done) | omega | (simp only [List.length_set, List.length_append, List.length_cons, List.length_nil, List.length_replicate, tab_length]; omega) | (simp; omega)) (by first | (simp; done) | omega | (simp only [List.length_set, List.length_append, List.length_cons, List.length_nil, List.length_replicate, tab_length]; omega) | (simp; omega))).mono ?_; rintro v h' ⟨rfl, hk'⟩; have hs' := St.keep (by assumption) hk'; conv => whnf)
      | (refine Br.dt (by omega) ?_; conv => whnf)
      | (refine NewG.st (by assumption) (fun bt h' hs' => ?_); conv => whnf))
    exact ⟨_, _, rfl, hs'⟩
  · rw [show turn2 l m = _ from if_neg h]
    refine AC.enter Try.func62 Try.call62 rfl Try.ntmps62 (of_decide_eq_true (by rfl)) ?_
    repeat' (first
      | refine AW.seq ?_
      | (refine AW.region ?_; conv => whnf)
      | (refine AW.skip ?_; conv => whnf)
      | (refine AW.ret ?_; conv => whnf)
      | refine AW.cond (by rfl) ?_
      | (refine (sLoopsOf_ok _ _ _ _ _ _ _ (by first | assumption | exact St.has (by assumption) (by repeat first | exact .head _ | apply List.Mem.tail) | exact St.arg (by assumption) (by assumption)) (by first | assumption | exact St.has (by assumption) (by repeat first | exact .head _ | apply List.Mem.tail) | exact St.arg (by assumption) (by assumption)) (by first | (simp; done) | omega | (simp only [List.length_set, List.length_append, List.length_cons, List.length_nil, List.length_replicate, tab_length]; omega) | (simp; omega)) (by first | (simp; done) | omega | (simp only [List.length_set, List.length_append, List.length_cons, List.length_nil, List.length_replicate, tab_length]; omega) | (simp; omega))).mono ?_; rintro v h' ⟨rfl, hk'⟩; have hs' := St.keep (by assumption) hk'; conv => whnf)
      | (refine (sTurnMatching_ok _ _ _ _ _ (by first | assumption | exact St.has (by assumption) (by repeat first | exact .head _ | apply List.Mem.tail) | exact St.arg (by assumption) (by assumption)) (by omega) (by first | (simp; done) | omega | (simp only [List.length_set, List.length_append, List.length_cons, List.length_nil, List.length_replicate, tab_length]; omega) | (simp; omega))).mono ?_; rintro v h' ⟨b, rfl, hn⟩; have hs' := St.newCall (by assumption) hn; clear hn; conv => whnf)
      | (refine Br.df (by omega) ?_; conv => whnf))
    exact ⟨_, _, rfl, hs'⟩


end Go.Proofs.Ytdfdlnjijccpeaa
