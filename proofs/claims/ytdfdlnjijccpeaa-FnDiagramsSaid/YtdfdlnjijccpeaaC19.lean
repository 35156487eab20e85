/-
  Contracts of loops of matchings are proved.
  They hold for all rows of numbers.
-/
import Derived.Test.YtdfdlnjijccpeaaP6
set_option linter.unusedVariables false
set_option linter.unusedSimpArgs false
namespace Go.Proofs.Ytdfdlnjijccpeaa
open Go.Proofs.Ytdfdlnjijccpeaa.Ab Go.Proofs.Ytdfdlnjijccpeaa.Pl

theorem loopsOf_yes {a b : List Int} (ha : isNC a = true) (hb : isNC b = true) (he : a.length = b.length) : loopsOf a b = (loopsN (ga a) (ga b) a.length : Int) := if_pos ⟨ha, hb, he⟩
/-- the maps that loops follow stay among the places -/
def into (l : List Int) (n : Nat) : Prop := ∀ i, i < n → l.getD i 0 = ga l i ∧ ga l i < n
theorem into_of {l : List Int} (h : isM l = true) : into l l.length := fun i hi => ⟨(isM_ga h hi).2.2.1, (isM_ga h hi).1⟩

theorem cycles_ok (l m : List Int) (b c C D : Nat) (h0 : H) (hb : Has h0 b (ints l)) (hc' : Has h0 c (ints m)) (il : into l l.length) (im : into m l.length) (he : m.length = l.length) (hl : l.length ≤ 100) :
    AC env 101 [.slice b 0 l.length C, .slice c 0 l.length D] h0 fun v h' => v = .int .i64 (loopsN (ga l) (ga m) l.length : Nat) ∧ Keeps h0 h' := by
  have hs := St.refl h0
  refine AC.enter Try.func101 Try.call101 rfl Try.ntmps101 (of_decide_eq_true (by rfl)) ?_
  repeat' (first
    | refine AW.seq ?_
    | (refine AW.region ?_; conv => whnf)
    | refine AW.block ?_
    | (refine NewG.stB (by assumption) rfl (fun bt h' hs' => ?_); conv => whnf)
    | (refine Ck.slice (by omega) (by omega) (by omega) (by decide) ?_; conv => whnf))
  refine AW.loop3 (fun (s : List Bool) (k i : Nat) => [(0, .slice b 0 l.length C), (1, .slice c 0 l.length D), (5, .slice bt 0 l.length l.length), (6, .int .i64 k), (13, .int .i64 l.length), (14, .int .i64 i)])
    (fun s k i h' => i ≤ l.length ∧ roundsTo (ga l) (ga m) l.length i = (s, k) ∧ St h0 h' [(bt, row (bools s))]) (fun _ _ i => l.length - i) (List.replicate l.length false) 0 0
    (Less.cons rfl (Less.cons rfl (Less.cons rfl (Less.cons rfl (Less.cons rfl (Less.cons rfl (Less.nil _))))))) ⟨by omega, rfl, hs'⟩ ?_
  rintro s k i h1 ⟨hi, hr, hs1⟩
  have bk := roundsTo_le (ga l) (ga m) l.length i
  have ls := roundsTo_len (ga l) (ga m) l.length i
  rw [hr] at bk ls
  dsimp only at bk ls
  repeat' (first
    | refine AW.seq ?_
    | (refine AW.region ?_; conv => whnf)
    | refine AW.block ?_
    | (refine AW.skip ?_; conv => whnf)
    | (refine AW.ret ?_; conv => whnf)
    | (refine AW.exit ?_; conv => whnf)
    | refine AW.cond (by rfl) ?_
    | (refine Br.dec (fun hc => ?_) (fun hc => ?_) <;> conv => whnf)
    | (refine Br.mk (fun hc => ?_) (fun hc => ?_) <;> conv => whnf)
    | (refine Wr.i64 (by omega) ?_; conv => whnf)
    | (refine Ck.mk (by omega) ?_; conv => whnf)
    | (refine Has.loadB (by first | assumption | exact St.has (by assumption) (by repeat first | exact .head _ | apply List.Mem.tail) | exact St.arg (by assumption) (by assumption)) rfl (by first | (simp; done) | omega | (simp only [List.length_set, List.length_append, List.length_cons, List.length_nil, List.length_replicate, tab_length]; omega) | (simp; omega)) ?_; conv => whnf))
  · exact ⟨s, k, i + 1, (Less.cons rfl (Less.cons rfl (Less.cons rfl (Less.cons rfl (Less.cons rfl (Less.cons rfl (Less.nil _))))))), ⟨by omega, roundsTo_seen hr hc, hs1⟩, by omega⟩
  · refine AW.loop3 (fun (u : List Bool) (x f : Nat) => [(0, .slice b 0 l.length C), (1, .slice c 0 l.length D), (5, .slice bt 0 l.length l.length), (6, .int .i64 ((k + 1 : Nat) : Int)), (8, .int .i64 x), (13, .int .i64 l.length), (14, .int .i64 i)])
      (fun u x f h' => x < l.length ∧ u.length = l.length ∧ u.count false ≤ f ∧ trail (ga l) (ga m) l.length s i = trail (ga l) (ga m) f u x ∧ St h0 h' [(bt, row (bools u))]) (fun _ _ f => f) s i l.length
      (Less.cons rfl (Less.cons rfl (Less.cons rfl (Less.cons rfl (Less.cons rfl (Less.cons rfl (Less.cons rfl (Less.nil _)))))))) ⟨by omega, ls, by rw [← ls]; exact List.count_le_length, rfl, hs1⟩ ?_
    rintro u x f h2 ⟨hx, lu, hf, ht, hs2⟩
    have ex : l.getD (x : Int).toNat 0 = (ga l x : Int) ∧ ga l x < l.length := il x hx
    have em : m.getD (l.getD (x : Int).toNat 0).toNat 0 = (ga m (ga l x) : Int) ∧ ga m (ga l x) < l.length := im _ ex.2
    repeat' (first
      | refine AW.seq ?_
      | (refine AW.region ?_; conv => whnf)
      | refine AW.block ?_
      | (refine AW.skip ?_; conv => whnf)
      | (refine AW.exit ?_; conv => whnf)
      | refine AW.cond (by rfl) ?_
      | refine Br.not ?_
      | (refine Br.mk (fun hc => ?_) (fun hc => ?_) <;> conv => whnf)
      | (refine Wr.i64 (by omega) ?_; conv => whnf)
      | (refine Ck.mk (by omega) ?_; conv => whnf)
      | (refine Has.loadB (by first | assumption | exact St.has (by assumption) (by repeat first | exact .head _ | apply List.Mem.tail) | exact St.arg (by assumption) (by assumption)) rfl (by first | (simp; done) | omega | (simp only [List.length_set, List.length_append, List.length_cons, List.length_nil, List.length_replicate, tab_length]; omega) | (simp; omega)) ?_; conv => whnf)
      | (refine Has.loadZ (by first | assumption | exact St.has (by assumption) (by repeat first | exact .head _ | apply List.Mem.tail) | exact St.arg (by assumption) (by assumption)) rfl (by first | (simp; done) | omega | (simp only [List.length_set, List.length_append, List.length_cons, List.length_nil, List.length_replicate, tab_length]; omega) | (simp; omega)) ?_; conv => whnf)
      | (refine StoreG.stB (by assumption) (by repeat first | exact .here | apply Spot.there) rfl (by first | (simp; done) | omega | (simp only [List.length_set, List.length_append, List.length_cons, List.length_nil, List.length_replicate, tab_length]; omega) | (simp; omega)) (fun h' hs' => ?_); conv => whnf))
    · have hcx : u.getD x false = true := hc
      rw [trail_seen _ _ _ hcx] at ht
      have rn := roundsTo_new hr (by assumption)
      rw [ht] at rn
      exact ⟨u, k + 1, i + 1, (Less.cons rfl (Less.cons rfl (Less.cons rfl (Less.cons rfl (Less.cons rfl (Less.cons rfl (Less.nil _))))))), ⟨by omega, rn, hs2⟩, by omega⟩
    · rw [em.1]
      have hcx : u.getD x false = false := hc
      have c1 := count_mark (by omega) hcx
      have c2 := count_more (s := u.set x true) (x := ga l x) (by simp; omega)
      obtain ⟨f, rfl⟩ : ∃ g, f = g + 1 := ⟨f - 1, by omega⟩
      rw [trail_step _ _ _ hcx] at ht
      exact ⟨_, _, f, (Less.cons rfl (Less.cons rfl (Less.cons rfl (Less.cons rfl (Less.cons rfl (Less.cons rfl (Less.cons rfl (Less.nil _)))))))), ⟨em.2, by simpa using lu, by omega, ht, hs'⟩, by omega⟩
  · have e : i = l.length := by omega
    subst e
    exact ⟨by rw [loopsN, hr], hs1.keeps⟩

theorem iLoopsOf_ok (l m : List Int) (b c C D : Nat) (h0 : H) (hb : Has h0 b (ints l)) (hc' : Has h0 c (ints m)) : AC env 22 [.slice b 0 l.length C, .slice c 0 m.length D] h0 fun v h' => v = .int .i64 (loopsOf l m) ∧ Keeps h0 h' := by
  have hs := St.refl h0
  by_cases h : isNC l = true ∧ isNC m = true ∧ l.length = m.length
  · obtain ⟨h1, h2, h3⟩ := h
    have il := into_of (isNC_spec h1)
    have im := into_of (isNC_spec h2)
    have ll := (isM_spec (isNC_spec h1)).1
    rw [loopsOf_yes h1 h2 h3]
    rw [← h3] at im ⊢
    refine AC.enter Try.func22 Try.call22 rfl Try.ntmps22 (of_decide_eq_true (by rfl)) ?_
    repeat' (first
      | refine AW.seq ?_
      | (refine AW.region ?_; conv => whnf)
      | (refine AW.skip ?_; conv => whnf)
      | (refine AW.ret ?_; conv => whnf)
      | refine AW.cond (by rfl) ?_
      | (refine (iIsNC_ok _ _ _ _ _ (by first | assumption | exact St.has (by assumption) (by repeat first | exact .head _ | apply List.Mem.tail) | exact St.arg (by assumption) (by assumption)) (by first | rfl | omega)).mono ?_; rintro v h' ⟨rfl, e'⟩; subst h'; conv => whnf)
      | (refine (cycles_ok _ _ _ _ _ _ _ (by first | assumption | exact St.has (by assumption) (by repeat first | exact .head _ | apply List.Mem.tail) | exact St.arg (by assumption) (by assumption)) (by first | assumption | exact St.has (by assumption) (by repeat first | exact .head _ | apply List.Mem.tail) | exact St.arg (by assumption) (by assumption)) (by assumption) (by assumption) (by first | (simp; done) | omega | (simp only [List.length_set, List.length_append, List.length_cons, List.length_nil, List.length_replicate, tab_length]; omega) | (simp; omega)) (by first | (simp; done) | omega | (simp only [List.length_set, List.length_append, List.length_cons, List.length_nil, List.length_replicate, tab_length]; omega) | (simp; omega))).mono ?_; rintro v h' ⟨rfl, hk'⟩; have hs' := St.keep (by assumption) hk'; conv => whnf)
      | refine Br.not ?_
      | (refine Br.t (beq_self_eq_true _) ?_; conv => whnf)
      | (refine Br.t (by assumption) ?_; conv => whnf))
    exact ⟨rfl, hk'⟩
  · rw [show loopsOf l m = -1 from if_neg h]
    refine AC.enter Try.func22 Try.call22 rfl Try.ntmps22 (of_decide_eq_true (by rfl)) ?_
    repeat' (first
      | refine AW.seq ?_
      | (refine AW.region ?_; conv => whnf)
      | (refine AW.skip ?_; conv => whnf)
      | (refine AW.ret ?_; conv => whnf)
      | refine AW.cond (by rfl) ?_
      | (refine (iIsNC_ok _ _ _ _ _ (by first | assumption | exact St.has (by assumption) (by repeat first | exact .head _ | apply List.Mem.tail) | exact St.arg (by assumption) (by assumption)) (by first | rfl | omega)).mono ?_; rintro v h' ⟨rfl, e'⟩; subst h'; conv => whnf)
      | (refine Br.tt ?_; conv => whnf)
      | refine Br.not ?_
      | (refine Br.t (by assumption) ?_; conv => whnf)
      | (refine Br.f (by assumption) ?_; conv => whnf)
      | (refine Br.dec (fun hc => ?_) (fun hc => ?_) <;> conv => whnf)
      | (refine Br.mk (fun hc => ?_) (fun hc => ?_) <;> conv => whnf))
    all_goals first
      | exact ⟨rfl, Keeps.refl _⟩
      | (exfalso; exact h ⟨by assumption, by assumption, by omega⟩)

theorem sLoopsOf_ok (l m : List Int) (b c C D : Nat) (h0 : H) (hb : Has h0 b (ints l)) (hc' : Has h0 c (ints m)) (hL : l.length ≤ 10000000) (hM : m.length ≤ 10000000) : AC env 59 [.slice b 0 l.length C, .slice c 0 m.length D] h0 fun v h' => v = .int .i64 (loopsOf l m) ∧ Keeps h0 h' := by
  have hs := St.refl h0
  by_cases h : isNC l = true ∧ isNC m = true ∧ l.length = m.length
  · obtain ⟨g1, g2, g3⟩ := h
    have il := into_of (isNC_spec g1)
    have im := into_of (isNC_spec g2)
    have hl := (isM_spec (isNC_spec g1)).1
    rw [loopsOf_yes g1 g2 g3]
    rw [← g3] at im ⊢
    refine AC.enter Try.func59 Try.call59 rfl Try.ntmps59 (of_decide_eq_true (by rfl)) ?_
    repeat' (first
      | refine AW.seq ?_
      | (refine AW.region ?_; conv => whnf)
      | refine AW.block ?_
      | (refine AW.skip ?_; conv => whnf)
      | refine AW.cond (by rfl) ?_
      | (refine (sIsNC_ok _ _ _ _ _ (by first | assumption | exact St.has (by assumption) (by repeat first | exact .head _ | apply List.Mem.tail) | exact St.arg (by assumption) (by assumption)) (by first | rfl | omega) (by first | (simp; done) | omega | (simp only [List.length_set, List.length_append, List.length_cons, List.length_nil, List.length_replicate, tab_length]; omega) | (simp; omega))).mono ?_; rintro v h' ⟨rfl, e'⟩; subst h'; conv => whnf)
      | refine Br.not ?_
      | (refine Br.t (beq_self_eq_true _) ?_; conv => whnf)
      | (refine Br.t (by assumption) ?_; conv => whnf)
      | (refine NewG.stB (by assumption) rfl (fun bt h' hs' => ?_); conv => whnf)
      | (refine Ck.slice (by omega) (by omega) (by omega) (by decide) ?_; conv => whnf))
    refine AW.loop3 (fun (s : List Bool) (k i : Nat) => [(0, .slice b 0 l.length C), (1, .slice c 0 l.length D), (5, .slice bt 0 l.length l.length), (6, .int .i64 k), (7, .int .i64 i)])
      (fun s k i h' => i ≤ l.length ∧ roundsTo (ga l) (ga m) l.length i = (s, k) ∧ St h0 h' [(bt, row (bools s))]) (fun _ _ i => l.length - i) (List.replicate l.length false) 0 0
      (Less.cons rfl (Less.cons rfl (Less.cons rfl (Less.cons rfl (Less.cons rfl (Less.nil _)))))) ⟨by omega, rfl, hs'⟩ ?_
    rintro s k i h1 ⟨hi, hr, hs1⟩
    have bk := roundsTo_le (ga l) (ga m) l.length i
    have ls := roundsTo_len (ga l) (ga m) l.length i
    rw [hr] at bk ls
    dsimp only at bk ls
    repeat' (first
      | refine AW.seq ?_
      | (refine AW.region ?_; conv => whnf)
      | refine AW.block ?_
      | (refine AW.skip ?_; conv => whnf)
      | (refine AW.ret ?_; conv => whnf)
      | (refine AW.exit ?_; conv => whnf)
      | refine AW.cond (by rfl) ?_
      | (refine Br.dec (fun hc => ?_) (fun hc => ?_) <;> conv => whnf)
      | (refine Br.mk (fun hc => ?_) (fun hc => ?_) <;> conv => whnf)
      | (refine Wr.i64 (by omega) ?_; conv => whnf)
      | (refine Ck.mk (by omega) ?_; conv => whnf)
      | (refine Has.loadB (by first | assumption | exact St.has (by assumption) (by repeat first | exact .head _ | apply List.Mem.tail) | exact St.arg (by assumption) (by assumption)) rfl (by first | (simp; done) | omega | (simp only [List.length_set, List.length_append, List.length_cons, List.length_nil, List.length_replicate, tab_length]; omega) | (simp; omega)) ?_; conv => whnf))
    · exact ⟨s, k, i + 1, (Less.cons rfl (Less.cons rfl (Less.cons rfl (Less.cons rfl (Less.cons rfl (Less.nil _)))))), ⟨by omega, roundsTo_seen hr hc, hs1⟩, by omega⟩
    · refine AW.loop3 (fun (u : List Bool) (x f : Nat) => [(0, .slice b 0 l.length C), (1, .slice c 0 l.length D), (5, .slice bt 0 l.length l.length), (6, .int .i64 ((k + 1 : Nat) : Int)), (7, .int .i64 i), (8, .int .i64 x)])
        (fun u x f h' => x < l.length ∧ u.length = l.length ∧ u.count false ≤ f ∧ trail (ga l) (ga m) l.length s i = trail (ga l) (ga m) f u x ∧ St h0 h' [(bt, row (bools u))]) (fun _ _ f => f) s i l.length
        (Less.cons rfl (Less.cons rfl (Less.cons rfl (Less.cons rfl (Less.cons rfl (Less.cons rfl (Less.nil _))))))) ⟨by omega, ls, by rw [← ls]; exact List.count_le_length, rfl, hs1⟩ ?_
      rintro u x f h2 ⟨hx, lu, hf, ht, hs2⟩
      have ex : l.getD (x : Int).toNat 0 = (ga l x : Int) ∧ ga l x < l.length := il x hx
      have em : m.getD (l.getD (x : Int).toNat 0).toNat 0 = (ga m (ga l x) : Int) ∧ ga m (ga l x) < l.length := im _ ex.2
      repeat' (first
        | refine AW.seq ?_
        | (refine AW.region ?_; conv => whnf)
        | refine AW.block ?_
        | (refine AW.skip ?_; conv => whnf)
        | (refine AW.exit ?_; conv => whnf)
        | refine AW.cond (by rfl) ?_
        | refine Br.not ?_
        | (refine Br.mk (fun hc => ?_) (fun hc => ?_) <;> conv => whnf)
        | (refine Wr.i64 (by omega) ?_; conv => whnf)
        | (refine Ck.mk (by omega) ?_; conv => whnf)
        | (refine Has.loadB (by first | assumption | exact St.has (by assumption) (by repeat first | exact .head _ | apply List.Mem.tail) | exact St.arg (by assumption) (by assumption)) rfl (by first | (simp; done) | omega | (simp only [List.length_set, List.length_append, List.length_cons, List.length_nil, List.length_replicate, tab_length]; omega) | (simp; omega)) ?_; conv => whnf)
        | (refine Has.loadZ (by first | assumption | exact St.has (by assumption) (by repeat first | exact .head _ | apply List.Mem.tail) | exact St.arg (by assumption) (by assumption)) rfl (by first | (simp; done) | omega | (simp only [List.length_set, List.length_append, List.length_cons, List.length_nil, List.length_replicate, tab_length]; omega) | (simp; omega)) ?_; conv => whnf)
        | (refine StoreG.stB (by assumption) (by repeat first | exact .here | apply Spot.there) rfl (by first | (simp; done) | omega | (simp only [List.length_set, List.length_append, List.length_cons, List.length_nil, List.length_replicate, tab_length]; omega) | (simp; omega)) (fun h' hs' => ?_); conv => whnf))
      · have hcx : u.getD x false = true := hc
        rw [trail_seen _ _ _ hcx] at ht
        have rn := roundsTo_new hr (by assumption)
        rw [ht] at rn
        exact ⟨u, k + 1, i + 1, (Less.cons rfl (Less.cons rfl (Less.cons rfl (Less.cons rfl (Less.cons rfl (Less.nil _)))))), ⟨by omega, rn, hs2⟩, by omega⟩
      · rw [em.1]
        have hcx : u.getD x false = false := hc
        have c1 := count_mark (by omega) hcx
        have c2 := count_more (s := u.set x true) (x := ga l x) (by simp; omega)
        obtain ⟨f, rfl⟩ : ∃ g, f = g + 1 := ⟨f - 1, by omega⟩
        rw [trail_step _ _ _ hcx] at ht
        exact ⟨_, _, f, (Less.cons rfl (Less.cons rfl (Less.cons rfl (Less.cons rfl (Less.cons rfl (Less.cons rfl (Less.nil _))))))), ⟨em.2, by simpa using lu, by omega, ht, hs'⟩, by omega⟩
    · have e : i = l.length := by omega
      subst e
      exact ⟨by rw [loopsN, hr], hs1.keeps⟩
  · rw [show loopsOf l m = -1 from if_neg h]
    refine AC.enter Try.func59 Try.call59 rfl Try.ntmps59 (of_decide_eq_true (by rfl)) ?_
    repeat' (first
      | refine AW.seq ?_
      | (refine AW.region ?_; conv => whnf)
      | refine AW.block ?_
      | (refine AW.skip ?_; conv => whnf)
      | (refine AW.ret ?_; conv => whnf)
      | refine AW.cond (by rfl) ?_
      | (refine (sIsNC_ok _ _ _ _ _ (by first | assumption | exact St.has (by assumption) (by repeat first | exact .head _ | apply List.Mem.tail) | exact St.arg (by assumption) (by assumption)) (by first | rfl | omega) (by first | (simp; done) | omega | (simp only [List.length_set, List.length_append, List.length_cons, List.length_nil, List.length_replicate, tab_length]; omega) | (simp; omega))).mono ?_; rintro v h' ⟨rfl, e'⟩; subst h'; conv => whnf)
      | (refine Br.tt ?_; conv => whnf)
      | refine Br.not ?_
      | (refine Br.t (by assumption) ?_; conv => whnf)
      | (refine Br.f (by assumption) ?_; conv => whnf)
      | (refine Br.dec (fun hc => ?_) (fun hc => ?_) <;> conv => whnf)
      | (refine Br.mk (fun hc => ?_) (fun hc => ?_) <;> conv => whnf)
      | (refine NewG.stB (by assumption) rfl (fun bt h' hs' => ?_); conv => whnf)
      | (refine Ck.slice (by omega) (by omega) (by omega) (by decide) ?_; conv => whnf))
    all_goals first
      | exact ⟨rfl, Keeps.refl _⟩
      | (exfalso; exact h ⟨by assumption, by assumption, by omega⟩)

theorem iIsMeander_ok (l m : List Int) (b c C D : Nat) (h0 : H) (hb : Has h0 b (ints l)) (hc' : Has h0 c (ints m)) : AC env 60 [.slice b 0 l.length C, .slice c 0 m.length D] h0 fun v h' => v = .bool (loopsOf l m == 1) ∧ Keeps h0 h' := by
  have hs := St.refl h0
  refine AC.enter Try.func60 Try.call60 rfl Try.ntmps60 (of_decide_eq_true (by rfl)) ?_
  repeat' (first
    | refine AW.seq ?_
    | (refine AW.region ?_; conv => whnf)
    | (refine AW.ret ?_; conv => whnf)
    | (refine (iLoopsOf_ok _ _ _ _ _ _ _ (by first | assumption | exact St.has (by assumption) (by repeat first | exact .head _ | apply List.Mem.tail) | exact St.arg (by assumption) (by assumption)) (by first | assumption | exact St.has (by assumption) (by repeat first | exact .head _ | apply List.Mem.tail) | exact St.arg (by assumption) (by assumption))).mono ?_; rintro v h' ⟨rfl, hk'⟩; have hs' := St.keep (by assumption) hk'; conv => whnf))
  exact ⟨rfl, hk'⟩

theorem sIsMeander_ok (l m : List Int) (b c C D : Nat) (h0 : H) (hb : Has h0 b (ints l)) (hc' : Has h0 c (ints m)) (hL : l.length ≤ 10000000) (hM : m.length ≤ 10000000) : AC env 73 [.slice b 0 l.length C, .slice c 0 m.length D] h0 fun v h' => v = .bool (loopsOf l m == 1) ∧ Keeps h0 h' := by
  have hs := St.refl h0
  refine AC.enter Try.func73 Try.call73 rfl Try.ntmps73 (of_decide_eq_true (by rfl)) ?_
  repeat' (first
    | refine AW.seq ?_
    | (refine AW.region ?_; conv => whnf)
    | (refine AW.ret ?_; conv => whnf)
    | (refine (sLoopsOf_ok _ _ _ _ _ _ _ (by first | assumption | exact St.has (by assumption) (by repeat first | exact .head _ | apply List.Mem.tail) | exact St.arg (by assumption) (by assumption)) (by first | assumption | exact St.has (by assumption) (by repeat first | exact .head _ | apply List.Mem.tail) | exact St.arg (by assumption) (by assumption)) (by first | (simp; done) | omega | (simp only [List.length_set, List.length_append, List.length_cons, List.length_nil, List.length_replicate, tab_length]; omega) | (simp; omega)) (by first | (simp; done) | omega | (simp only [List.length_set, List.length_append, List.length_cons, List.length_nil, List.length_replicate, tab_length]; omega) | (simp; omega))).mono ?_; rintro v h' ⟨rfl, hk'⟩; have hs' := St.keep (by assumption) hk'; conv => whnf))
  exact ⟨rfl, hk'⟩



end Go.Proofs.Ytdfdlnjijccpeaa
