/-
  Contracts of rows of rows of numbers, and of friezes, are proved.
  They hold for all rows within the sizes that the statements speak of.
-/
import Derived.Test.YtcepogfmajlcjaaGC
import Derived.Test.YtcepogfmajlcjaaGY
set_option linter.unusedVariables false
set_option linter.unusedSimpArgs false
namespace Go.Proofs.Ytcepogfmajlcjaa
open Go.Proofs.Ytcepogfmajlcjaa.Ab Go.Proofs.Ytcepogfmajlcjaa.Pl

theorem szIntS_ok (l : List Int) (v : AV) (x : Int) (h0 : H) (hv : ShowsI h0 v l) (hl : l.length ≤ 9223372036854775807) (hx : 0 ≤ x ∧ x ≤ 1048576) : AC env 69 [v, .int .i64 x] h0 fun v h' => (∃ k, v = .int .i64 k ∧ ((x < l.length ∧ k = -1) ∨ (l.length ≤ x ∧ k = x - l.length))) ∧ h' = h0 := by
  rcases hv with (⟨rfl, e⟩ | ⟨b, c, rfl, hb⟩) | ⟨rfl, rfl⟩
  · have e : l = [] := List.eq_nil_of_length_eq_zero (by rw [← ints_length, e]; rfl)
    subst e
    refine AC.enter Try.func69 Try.call69 rfl Try.ntmps69 (of_decide_eq_true (by rfl)) ?_
    repeat' (first
      | refine AW.seq ?_
      | (refine AW.region ?_; conv => whnf)
      | refine AW.block ?_
      | (refine AW.skip ?_; conv => whnf)
      | (refine AW.ret ?_; conv => whnf)
      | (refine AW.exit ?_; conv => whnf)
      | refine AW.cond (by rfl) ?_
      | (refine Br.tt ?_; conv => whnf)
      | (refine Br.ff ?_; conv => whnf)
      | refine Br.not ?_
      | (refine Br.t (beq_self_eq_true _) ?_; conv => whnf)
      | (refine Br.t (by assumption) ?_; conv => whnf)
      | (refine Br.f (by assumption) ?_; conv => whnf)
      | (refine Br.dt (by omega) ?_; conv => whnf)
      | (refine Br.df (by omega) ?_; conv => whnf)
      | (refine Br.it (by omega) ?_; conv => whnf)
      | (refine Br.if (by omega) ?_; conv => whnf)
      | (refine Br.nt (by omega) ?_; conv => whnf)
      | (refine Br.nf (by omega) ?_; conv => whnf)
      | (refine Br.dec (fun hc => ?_) (fun hc => ?_) <;> conv => whnf)
      | (refine Br.ieq (fun hc => ?_) (fun hc => ?_) <;> conv => whnf)
      | (refine Br.ine (fun hc => ?_) (fun hc => ?_) <;> conv => whnf)
      | (refine Br.mk (fun hc => ?_) (fun hc => ?_) <;> conv => whnf)
      | (refine Wr.i64 (by omega) ?_; conv => whnf)
      | (refine Ck.mk (by omega) ?_; conv => whnf)
      | (refine Wr.i64 (by simp only [List.length_drop, List.length_take, List.length_append, List.length_cons, List.length_nil]; omega) ?_; conv => whnf)
      | (refine Ck.mk (by simp only [List.length_drop, List.length_take, List.length_append, List.length_cons, List.length_nil]; omega) ?_; conv => whnf)
      | (refine Ck.mk (by simp; omega) ?_; conv => whnf))
    exact ⟨⟨_, rfl, by simp; omega⟩, rfl⟩
  · rw [ints_length]
    refine AC.enter Try.func69 Try.call69 rfl Try.ntmps69 (of_decide_eq_true (by rfl)) ?_
    repeat' (first
      | refine AW.seq ?_
      | (refine AW.region ?_; conv => whnf)
      | refine AW.block ?_
      | (refine AW.skip ?_; conv => whnf)
      | (refine AW.ret ?_; conv => whnf)
      | (refine AW.exit ?_; conv => whnf)
      | refine AW.cond (by rfl) ?_
      | (refine Br.tt ?_; conv => whnf)
      | (refine Br.ff ?_; conv => whnf)
      | refine Br.not ?_
      | (refine Br.t (beq_self_eq_true _) ?_; conv => whnf)
      | (refine Br.t (by assumption) ?_; conv => whnf)
      | (refine Br.f (by assumption) ?_; conv => whnf)
      | (refine Br.dt (by omega) ?_; conv => whnf)
      | (refine Br.df (by omega) ?_; conv => whnf)
      | (refine Br.it (by omega) ?_; conv => whnf)
      | (refine Br.if (by omega) ?_; conv => whnf)
      | (refine Br.nt (by omega) ?_; conv => whnf)
      | (refine Br.nf (by omega) ?_; conv => whnf)
      | (refine Br.dec (fun hc => ?_) (fun hc => ?_) <;> conv => whnf)
      | (refine Br.ieq (fun hc => ?_) (fun hc => ?_) <;> conv => whnf)
      | (refine Br.ine (fun hc => ?_) (fun hc => ?_) <;> conv => whnf)
      | (refine Br.mk (fun hc => ?_) (fun hc => ?_) <;> conv => whnf)
      | (refine Wr.i64 (by omega) ?_; conv => whnf)
      | (refine Ck.mk (by omega) ?_; conv => whnf)
      | (refine Wr.i64 (by simp only [List.length_drop, List.length_take, List.length_append, List.length_cons, List.length_nil]; omega) ?_; conv => whnf)
      | (refine Ck.mk (by simp only [List.length_drop, List.length_take, List.length_append, List.length_cons, List.length_nil]; omega) ?_; conv => whnf)
      | (refine Ck.mk (by simp; omega) ?_; conv => whnf))
    all_goals exact ⟨⟨_, rfl, by omega⟩, rfl⟩
  · refine AC.enter Try.func69 Try.call69 rfl Try.ntmps69 (of_decide_eq_true (by rfl)) ?_
    repeat' (first
      | refine AW.seq ?_
      | (refine AW.region ?_; conv => whnf)
      | refine AW.block ?_
      | (refine AW.skip ?_; conv => whnf)
      | (refine AW.ret ?_; conv => whnf)
      | (refine AW.exit ?_; conv => whnf)
      | refine AW.cond (by rfl) ?_
      | (refine Br.tt ?_; conv => whnf)
      | (refine Br.ff ?_; conv => whnf)
      | refine Br.not ?_
      | (refine Br.t (beq_self_eq_true _) ?_; conv => whnf)
      | (refine Br.t (by assumption) ?_; conv => whnf)
      | (refine Br.f (by assumption) ?_; conv => whnf)
      | (refine Br.dt (by omega) ?_; conv => whnf)
      | (refine Br.df (by omega) ?_; conv => whnf)
      | (refine Br.it (by omega) ?_; conv => whnf)
      | (refine Br.if (by omega) ?_; conv => whnf)
      | (refine Br.nt (by omega) ?_; conv => whnf)
      | (refine Br.nf (by omega) ?_; conv => whnf)
      | (refine Br.dec (fun hc => ?_) (fun hc => ?_) <;> conv => whnf)
      | (refine Br.ieq (fun hc => ?_) (fun hc => ?_) <;> conv => whnf)
      | (refine Br.ine (fun hc => ?_) (fun hc => ?_) <;> conv => whnf)
      | (refine Br.mk (fun hc => ?_) (fun hc => ?_) <;> conv => whnf)
      | (refine Wr.i64 (by omega) ?_; conv => whnf)
      | (refine Ck.mk (by omega) ?_; conv => whnf)
      | (refine Wr.i64 (by simp only [List.length_drop, List.length_take, List.length_append, List.length_cons, List.length_nil]; omega) ?_; conv => whnf)
      | (refine Ck.mk (by simp only [List.length_drop, List.length_take, List.length_append, List.length_cons, List.length_nil]; omega) ?_; conv => whnf)
      | (refine Ck.mk (by simp; omega) ?_; conv => whnf))
    exact ⟨⟨_, rfl, by simp; omega⟩, rfl⟩

theorem szIntSS_ok (ls : List (List Int)) (v : AV) (x : Int) (h0 : H) (hv : RowsAt h0 v ls) (hb : ∀ l ∈ ls, bdI l ∧ l.length ≤ 9223372036854775807) (hl : ls.length ≤ 9223372036854775807) (hx : 0 ≤ x ∧ x ≤ 1048576) :
    AC env 33 [v, .int .i64 x] h0 fun v h' => (∃ k, v = .int .i64 k ∧ (0 ≤ k → k ≤ x ∧ (ls.length : Int) ≤ x) ∧ (0 ≤ k → ∀ l ∈ ls, (l.length : Int) ≤ x)) ∧ h' = h0 := by
  obtain ⟨vs, hc, hn, hp⟩ := hv
  rcases hc with ⟨rfl, rfl⟩ | ⟨b, c, rfl, hb2⟩
  · have e : ls = [] := List.eq_nil_of_length_eq_zero hn.symm
    subst e
    refine AC.enter Try.func33 Try.call33 rfl Try.ntmps33 (of_decide_eq_true (by rfl)) ?_
    repeat' (first
      | refine AW.seq ?_
      | (refine AW.region ?_; conv => whnf)
      | refine AW.block ?_
      | (refine AW.skip ?_; conv => whnf)
      | (refine AW.ret ?_; conv => whnf)
      | (refine AW.exit ?_; conv => whnf)
      | refine AW.cond (by rfl) ?_
      | (refine Br.tt ?_; conv => whnf)
      | (refine Br.ff ?_; conv => whnf)
      | refine Br.not ?_
      | (refine Br.t (beq_self_eq_true _) ?_; conv => whnf)
      | (refine Br.t (by assumption) ?_; conv => whnf)
      | (refine Br.f (by assumption) ?_; conv => whnf)
      | (refine Br.dt (by omega) ?_; conv => whnf)
      | (refine Br.df (by omega) ?_; conv => whnf)
      | (refine Br.it (by omega) ?_; conv => whnf)
      | (refine Br.if (by omega) ?_; conv => whnf)
      | (refine Br.nt (by omega) ?_; conv => whnf)
      | (refine Br.nf (by omega) ?_; conv => whnf)
      | (refine Br.dec (fun hc => ?_) (fun hc => ?_) <;> conv => whnf)
      | (refine Br.ieq (fun hc => ?_) (fun hc => ?_) <;> conv => whnf)
      | (refine Br.ine (fun hc => ?_) (fun hc => ?_) <;> conv => whnf)
      | (refine Br.mk (fun hc => ?_) (fun hc => ?_) <;> conv => whnf)
      | (refine Wr.i64 (by omega) ?_; conv => whnf)
      | (refine Ck.mk (by omega) ?_; conv => whnf)
      | (refine Wr.i64 (by simp only [List.length_drop, List.length_take, List.length_append, List.length_cons, List.length_nil]; omega) ?_; conv => whnf)
      | (refine Ck.mk (by simp only [List.length_drop, List.length_take, List.length_append, List.length_cons, List.length_nil]; omega) ?_; conv => whnf)
      | (refine Has.load1 (by first | assumption | exact St.has (by assumption) (by repeat first | exact .head _ | apply List.Mem.tail) | exact St.arg (by assumption) (by assumption)) ?_; conv => whnf)
      | (refine Ck.mk (by simp; omega) ?_; conv => whnf))
    refine AW.once ?_
    repeat' (first
      | refine AW.seq ?_
      | (refine AW.region ?_; conv => whnf)
      | refine AW.block ?_
      | (refine AW.skip ?_; conv => whnf)
      | (refine AW.ret ?_; conv => whnf)
      | (refine AW.exit ?_; conv => whnf)
      | refine AW.cond (by rfl) ?_
      | (refine Br.tt ?_; conv => whnf)
      | (refine Br.ff ?_; conv => whnf)
      | refine Br.not ?_
      | (refine Br.t (beq_self_eq_true _) ?_; conv => whnf)
      | (refine Br.t (by assumption) ?_; conv => whnf)
      | (refine Br.f (by assumption) ?_; conv => whnf)
      | (refine Br.dt (by omega) ?_; conv => whnf)
      | (refine Br.df (by omega) ?_; conv => whnf)
      | (refine Br.it (by omega) ?_; conv => whnf)
      | (refine Br.if (by omega) ?_; conv => whnf)
      | (refine Br.nt (by omega) ?_; conv => whnf)
      | (refine Br.nf (by omega) ?_; conv => whnf)
      | (refine Br.dec (fun hc => ?_) (fun hc => ?_) <;> conv => whnf)
      | (refine Br.ieq (fun hc => ?_) (fun hc => ?_) <;> conv => whnf)
      | (refine Br.ine (fun hc => ?_) (fun hc => ?_) <;> conv => whnf)
      | (refine Br.mk (fun hc => ?_) (fun hc => ?_) <;> conv => whnf)
      | (refine Wr.i64 (by omega) ?_; conv => whnf)
      | (refine Ck.mk (by omega) ?_; conv => whnf)
      | (refine Wr.i64 (by simp only [List.length_drop, List.length_take, List.length_append, List.length_cons, List.length_nil]; omega) ?_; conv => whnf)
      | (refine Ck.mk (by simp only [List.length_drop, List.length_take, List.length_append, List.length_cons, List.length_nil]; omega) ?_; conv => whnf)
      | (refine Has.load1 (by first | assumption | exact St.has (by assumption) (by repeat first | exact .head _ | apply List.Mem.tail) | exact St.arg (by assumption) (by assumption)) ?_; conv => whnf)
      | (refine Ck.mk (by simp; omega) ?_; conv => whnf))
    exact ⟨⟨_, rfl, fun _ => by simp; omega, fun _ l hl => (nomatch hl)⟩, rfl⟩
  · refine AC.enter Try.func33 Try.call33 rfl Try.ntmps33 (of_decide_eq_true (by rfl)) ?_
    repeat' (first
      | refine AW.seq ?_
      | (refine AW.region ?_; conv => whnf)
      | refine AW.block ?_
      | (refine AW.skip ?_; conv => whnf)
      | (refine AW.ret ?_; conv => whnf)
      | (refine AW.exit ?_; conv => whnf)
      | refine AW.cond (by rfl) ?_
      | (refine Br.tt ?_; conv => whnf)
      | (refine Br.ff ?_; conv => whnf)
      | refine Br.not ?_
      | (refine Br.t (beq_self_eq_true _) ?_; conv => whnf)
      | (refine Br.t (by assumption) ?_; conv => whnf)
      | (refine Br.f (by assumption) ?_; conv => whnf)
      | (refine Br.dt (by omega) ?_; conv => whnf)
      | (refine Br.df (by omega) ?_; conv => whnf)
      | (refine Br.it (by omega) ?_; conv => whnf)
      | (refine Br.if (by omega) ?_; conv => whnf)
      | (refine Br.nt (by omega) ?_; conv => whnf)
      | (refine Br.nf (by omega) ?_; conv => whnf)
      | (refine Br.dec (fun hc => ?_) (fun hc => ?_) <;> conv => whnf)
      | (refine Br.ieq (fun hc => ?_) (fun hc => ?_) <;> conv => whnf)
      | (refine Br.ine (fun hc => ?_) (fun hc => ?_) <;> conv => whnf)
      | (refine Br.mk (fun hc => ?_) (fun hc => ?_) <;> conv => whnf)
      | (refine Wr.i64 (by omega) ?_; conv => whnf)
      | (refine Ck.mk (by omega) ?_; conv => whnf)
      | (refine Wr.i64 (by simp only [List.length_drop, List.length_take, List.length_append, List.length_cons, List.length_nil]; omega) ?_; conv => whnf)
      | (refine Ck.mk (by simp only [List.length_drop, List.length_take, List.length_append, List.length_cons, List.length_nil]; omega) ?_; conv => whnf)
      | (refine Has.load1 (by first | assumption | exact St.has (by assumption) (by repeat first | exact .head _ | apply List.Mem.tail) | exact St.arg (by assumption) (by assumption)) ?_; conv => whnf)
      | (refine Ck.mk (by simp; omega) ?_; conv => whnf))
    · exact ⟨⟨_, rfl, fun h => absurd h (by decide), fun h => absurd h (by decide)⟩, rfl⟩
    · refine AW.loop2 (fun (i : Nat) (y : Int) => [(0, .slice b 0 vs.length c), (1, .int .i64 y), (5, .int .i64 i)]) (fun i y h' => i ≤ vs.length ∧ 0 ≤ y ∧ y ≤ x - vs.length ∧ (∀ j, j < i → ((ls.getD j []).length : Int) ≤ x) ∧ h' = h0) (fun i _ => vs.length - i) 0 _
        (Less.cons rfl (Less.cons rfl (Less.cons rfl (Less.nil _)))) ⟨by omega, by omega, by omega, fun j hj => by omega, rfl⟩ ?_
      rintro i y h1 ⟨hi, hy, hy2, hrow, rfl⟩
      by_cases hlt : i < vs.length
      · obtain ⟨u, hw⟩ : ∃ u, vs[i]? = some u := ⟨_, List.getElem?_eq_getElem hlt⟩
        obtain ⟨l, hl2⟩ : ∃ l, ls[i]? = some l := ⟨_, List.getElem?_eq_getElem (by omega)⟩
        have hsh := hp i _ _ hw hl2
        have hlen := (hb _ (List.mem_of_getElem? hl2)).2
        have eg : ls.getD i [] = l := by simp [List.getD, hl2]
        have hsh2 := hsh
        rcases hsh2 with (⟨rfl, e⟩ | ⟨b3, c3, rfl, hb3⟩) | ⟨rfl, el⟩
        all_goals
          repeat' (first
            | (refine Has.loadAt hb2 rfl hw ?_; conv => whnf)
            | (refine (szIntS_ok _ _ _ _ hsh hlen (by omega)).mono ?_; rintro v h' ⟨⟨k, rfl, hk⟩, e'⟩; subst h'; conv => whnf)
            | refine AW.seq ?_
            | (refine AW.region ?_; conv => whnf)
            | refine AW.block ?_
            | (refine AW.skip ?_; conv => whnf)
            | (refine AW.ret ?_; conv => whnf)
            | (refine AW.exit ?_; conv => whnf)
            | refine AW.cond (by rfl) ?_
            | (refine Br.tt ?_; conv => whnf)
            | (refine Br.ff ?_; conv => whnf)
            | refine Br.not ?_
            | (refine Br.t (beq_self_eq_true _) ?_; conv => whnf)
            | (refine Br.t (by assumption) ?_; conv => whnf)
            | (refine Br.f (by assumption) ?_; conv => whnf)
            | (refine Br.dt (by omega) ?_; conv => whnf)
            | (refine Br.df (by omega) ?_; conv => whnf)
            | (refine Br.it (by omega) ?_; conv => whnf)
            | (refine Br.if (by omega) ?_; conv => whnf)
            | (refine Br.nt (by omega) ?_; conv => whnf)
            | (refine Br.nf (by omega) ?_; conv => whnf)
            | (refine Br.dec (fun hc => ?_) (fun hc => ?_) <;> conv => whnf)
            | (refine Br.ieq (fun hc => ?_) (fun hc => ?_) <;> conv => whnf)
            | (refine Br.ine (fun hc => ?_) (fun hc => ?_) <;> conv => whnf)
            | (refine Br.mk (fun hc => ?_) (fun hc => ?_) <;> conv => whnf)
            | (refine Wr.i64 (by omega) ?_; conv => whnf)
            | (refine Ck.mk (by omega) ?_; conv => whnf)
            | (refine Wr.i64 (by simp only [List.length_drop, List.length_take, List.length_append, List.length_cons, List.length_nil]; omega) ?_; conv => whnf)
            | (refine Ck.mk (by simp only [List.length_drop, List.length_take, List.length_append, List.length_cons, List.length_nil]; omega) ?_; conv => whnf)
            | (refine Has.load1 (by first | assumption | exact St.has (by assumption) (by repeat first | exact .head _ | apply List.Mem.tail) | exact St.arg (by assumption) (by assumption)) ?_; conv => whnf)
            | (refine Ck.mk (by simp; omega) ?_; conv => whnf))
          · exact ⟨⟨_, rfl, fun h => absurd h (by decide), fun h => absurd h (by decide)⟩, rfl⟩
          · refine ⟨i + 1, _, (Less.cons rfl (Less.cons rfl (Less.cons rfl (Less.nil _)))), ⟨by omega, by omega, by omega, fun j hj => ?_, rfl⟩, by omega⟩
            by_cases e : j = i
            · subst e
              rw [eg]
              omega
            · exact hrow j (by omega)
      · repeat' (first
          | refine AW.seq ?_
          | (refine AW.region ?_; conv => whnf)
          | refine AW.block ?_
          | (refine AW.skip ?_; conv => whnf)
          | (refine AW.ret ?_; conv => whnf)
          | (refine AW.exit ?_; conv => whnf)
          | refine AW.cond (by rfl) ?_
          | (refine Br.tt ?_; conv => whnf)
          | (refine Br.ff ?_; conv => whnf)
          | refine Br.not ?_
          | (refine Br.t (beq_self_eq_true _) ?_; conv => whnf)
          | (refine Br.t (by assumption) ?_; conv => whnf)
          | (refine Br.f (by assumption) ?_; conv => whnf)
          | (refine Br.dt (by omega) ?_; conv => whnf)
          | (refine Br.df (by omega) ?_; conv => whnf)
          | (refine Br.it (by omega) ?_; conv => whnf)
          | (refine Br.if (by omega) ?_; conv => whnf)
          | (refine Br.nt (by omega) ?_; conv => whnf)
          | (refine Br.nf (by omega) ?_; conv => whnf)
          | (refine Br.dec (fun hc => ?_) (fun hc => ?_) <;> conv => whnf)
          | (refine Br.ieq (fun hc => ?_) (fun hc => ?_) <;> conv => whnf)
          | (refine Br.ine (fun hc => ?_) (fun hc => ?_) <;> conv => whnf)
          | (refine Br.mk (fun hc => ?_) (fun hc => ?_) <;> conv => whnf)
          | (refine Wr.i64 (by omega) ?_; conv => whnf)
          | (refine Ck.mk (by omega) ?_; conv => whnf)
          | (refine Wr.i64 (by simp only [List.length_drop, List.length_take, List.length_append, List.length_cons, List.length_nil]; omega) ?_; conv => whnf)
          | (refine Ck.mk (by simp only [List.length_drop, List.length_take, List.length_append, List.length_cons, List.length_nil]; omega) ?_; conv => whnf)
          | (refine Has.load1 (by first | assumption | exact St.has (by assumption) (by repeat first | exact .head _ | apply List.Mem.tail) | exact St.arg (by assumption) (by assumption)) ?_; conv => whnf)
          | (refine Ck.mk (by simp; omega) ?_; conv => whnf))
        refine ⟨⟨_, rfl, fun _ => by omega, fun _ l hl => ?_⟩, rfl⟩
        obtain ⟨j, hj⟩ := List.getElem?_of_mem hl
        have := hrow j (by have := (List.getElem?_eq_some_iff.1 hj).1; omega)
        rwa [List.getD, hj] at this

theorem toIntSh_ok (l : List Int) (v : AV) (h0 : H) (hv : ShowsI h0 v l) (hl : l.length ≤ 100000000) : AC env 18 [v] h0 fun r h' => ∃ b, r = .slice b 0 l.length l.length ∧ New h0 h' b (ints l) := by
  rcases hv with hv | ⟨rfl, rfl⟩
  · exact toIntS_ok l v h0 hv hl
  · have hs := St.refl h0
    refine AC.enter Try.func18 Try.call18 rfl Try.ntmps18 (of_decide_eq_true (by rfl)) ?_
    repeat' (first
      | refine AW.seq ?_
      | (refine AW.region ?_; conv => whnf)
      | refine AW.block ?_
      | (refine AW.skip ?_; conv => whnf)
      | (refine AW.ret ?_; conv => whnf)
      | (refine AW.exit ?_; conv => whnf)
      | refine AW.cond (by rfl) ?_
      | (refine Br.tt ?_; conv => whnf)
      | (refine Br.ff ?_; conv => whnf)
      | refine Br.not ?_
      | (refine Br.t (beq_self_eq_true _) ?_; conv => whnf)
      | (refine Br.t (by assumption) ?_; conv => whnf)
      | (refine Br.f (by assumption) ?_; conv => whnf)
      | (refine Br.dt (by omega) ?_; conv => whnf)
      | (refine Br.df (by omega) ?_; conv => whnf)
      | (refine Br.it (by omega) ?_; conv => whnf)
      | (refine Br.if (by omega) ?_; conv => whnf)
      | (refine Br.nt (by omega) ?_; conv => whnf)
      | (refine Br.nf (by omega) ?_; conv => whnf)
      | (refine Br.dec (fun hc => ?_) (fun hc => ?_) <;> conv => whnf)
      | (refine Br.ieq (fun hc => ?_) (fun hc => ?_) <;> conv => whnf)
      | (refine Br.ine (fun hc => ?_) (fun hc => ?_) <;> conv => whnf)
      | (refine Br.mk (fun hc => ?_) (fun hc => ?_) <;> conv => whnf)
      | (refine Wr.i64 (by omega) ?_; conv => whnf)
      | (refine Ck.mk (by omega) ?_; conv => whnf)
      | (refine Wr.i64 (by simp only [List.length_drop, List.length_take, List.length_append, List.length_cons, List.length_nil]; omega) ?_; conv => whnf)
      | (refine Ck.mk (by simp only [List.length_drop, List.length_take, List.length_append, List.length_cons, List.length_nil]; omega) ?_; conv => whnf)
      | (refine NewG.stZ (by assumption) rfl (fun bt h' hs' => ?_); conv => whnf)
      | (refine Ck.slice (by omega) (by omega) (by omega) (by decide) ?_; conv => whnf)
      | (refine Has.load1 (by first | assumption | exact St.has (by assumption) (by repeat first | exact .head _ | apply List.Mem.tail) | exact St.arg (by assumption) (by assumption)) ?_; conv => whnf)
      | (refine Has.loadZ (by first | assumption | exact St.has (by assumption) (by repeat first | exact .head _ | apply List.Mem.tail) | exact St.arg (by assumption) (by assumption)) rfl (by first | (simp; done) | omega | (simp only [List.length_set, List.length_append, List.length_cons, List.length_nil, List.length_replicate, tab_length]; omega) | (simp; omega)) ?_; conv => whnf)
      | (refine StoreG.st1 (by assumption) (by repeat first | exact .here | apply Spot.there) rfl (fun h' hs' => ?_); conv => whnf)
      | (refine StoreG.stZ (by assumption) (by repeat first | exact .here | apply Spot.there) rfl (by first | (simp; done) | omega | (simp only [List.length_set, List.length_append, List.length_cons, List.length_nil, List.length_replicate, tab_length]; omega) | (simp; omega)) (fun h' hs' => ?_); conv => whnf)
      | (refine Ck.mk (by simp; omega) ?_; conv => whnf))
    refine AW.once ?_
    repeat' (first
      | refine AW.seq ?_
      | (refine AW.region ?_; conv => whnf)
      | refine AW.block ?_
      | (refine AW.skip ?_; conv => whnf)
      | (refine AW.ret ?_; conv => whnf)
      | (refine AW.exit ?_; conv => whnf)
      | refine AW.cond (by rfl) ?_
      | (refine Br.tt ?_; conv => whnf)
      | (refine Br.ff ?_; conv => whnf)
      | refine Br.not ?_
      | (refine Br.t (beq_self_eq_true _) ?_; conv => whnf)
      | (refine Br.t (by assumption) ?_; conv => whnf)
      | (refine Br.f (by assumption) ?_; conv => whnf)
      | (refine Br.dt (by omega) ?_; conv => whnf)
      | (refine Br.df (by omega) ?_; conv => whnf)
      | (refine Br.it (by omega) ?_; conv => whnf)
      | (refine Br.if (by omega) ?_; conv => whnf)
      | (refine Br.nt (by omega) ?_; conv => whnf)
      | (refine Br.nf (by omega) ?_; conv => whnf)
      | (refine Br.dec (fun hc => ?_) (fun hc => ?_) <;> conv => whnf)
      | (refine Br.ieq (fun hc => ?_) (fun hc => ?_) <;> conv => whnf)
      | (refine Br.ine (fun hc => ?_) (fun hc => ?_) <;> conv => whnf)
      | (refine Br.mk (fun hc => ?_) (fun hc => ?_) <;> conv => whnf)
      | (refine Wr.i64 (by omega) ?_; conv => whnf)
      | (refine Ck.mk (by omega) ?_; conv => whnf)
      | (refine Wr.i64 (by simp only [List.length_drop, List.length_take, List.length_append, List.length_cons, List.length_nil]; omega) ?_; conv => whnf)
      | (refine Ck.mk (by simp only [List.length_drop, List.length_take, List.length_append, List.length_cons, List.length_nil]; omega) ?_; conv => whnf)
      | (refine NewG.stZ (by assumption) rfl (fun bt h' hs' => ?_); conv => whnf)
      | (refine Ck.slice (by omega) (by omega) (by omega) (by decide) ?_; conv => whnf)
      | (refine Has.load1 (by first | assumption | exact St.has (by assumption) (by repeat first | exact .head _ | apply List.Mem.tail) | exact St.arg (by assumption) (by assumption)) ?_; conv => whnf)
      | (refine Has.loadZ (by first | assumption | exact St.has (by assumption) (by repeat first | exact .head _ | apply List.Mem.tail) | exact St.arg (by assumption) (by assumption)) rfl (by first | (simp; done) | omega | (simp only [List.length_set, List.length_append, List.length_cons, List.length_nil, List.length_replicate, tab_length]; omega) | (simp; omega)) ?_; conv => whnf)
      | (refine StoreG.st1 (by assumption) (by repeat first | exact .here | apply Spot.there) rfl (fun h' hs' => ?_); conv => whnf)
      | (refine StoreG.stZ (by assumption) (by repeat first | exact .here | apply Spot.there) rfl (by first | (simp; done) | omega | (simp only [List.length_set, List.length_append, List.length_cons, List.length_nil, List.length_replicate, tab_length]; omega) | (simp; omega)) (fun h' hs' => ?_); conv => whnf)
      | (refine Ck.mk (by simp; omega) ?_; conv => whnf))
    exact ⟨_, rfl, hs'.toNew⟩

theorem slcs_fill (R : RL) (c k : Nat) (l : List Int) : (slcs R ++ List.replicate (k + 1) AV.nilslice).set R.length (.slice c 0 l.length l.length) = slcs (R ++ [(c, l)]) ++ List.replicate k AV.nilslice := by
  rw [List.set_append_right _ _ (by simp), slcs_length, Nat.sub_self, List.replicate_succ, List.set_cons_zero, slcs_append, List.append_assoc]
  rfl

theorem toIntSS_ok (ls : List (List Int)) (v : AV) (h0 : H) (hv : RowsAt h0 v ls) (hl : ls.length ≤ 10000000) (hr : ∀ l ∈ ls, l.length ≤ 100000000) : AC env 35 [v] h0 fun r h' => ∃ b R, r = .slice b 0 ls.length ls.length ∧ rws R = ls ∧ R.length = ls.length ∧ St h0 h' ((b, row (slcs R)) :: (blks R ++ [])) := by
  have hs := St.refl h0
  obtain ⟨vs, hc, hn, hp⟩ := hv
  rcases hc with ⟨rfl, rfl⟩ | ⟨b, c, rfl, hb2⟩
  · have e : ls = [] := List.eq_nil_of_length_eq_zero hn.symm
    subst e
    refine AC.enter Try.func35 Try.call35 rfl Try.ntmps35 (of_decide_eq_true (by rfl)) ?_
    repeat' (first
      | (refine NewG.stN (m := 0) (by assumption) rfl (by rfl) (fun bt h' hs' => ?_); conv => whnf)
      | refine AW.seq ?_
      | (refine AW.region ?_; conv => whnf)
      | refine AW.block ?_
      | (refine AW.skip ?_; conv => whnf)
      | (refine AW.ret ?_; conv => whnf)
      | (refine AW.exit ?_; conv => whnf)
      | refine AW.cond (by rfl) ?_
      | (refine (toIntS_ok _ _ _ (by first | assumption | exact CellsAt.keep (by assumption) (St.keeps (by assumption))) (by first | (simp; done) | omega | (simp only [List.length_set, List.length_append, List.length_cons, List.length_nil, List.length_replicate, tab_length]; omega) | (simp; omega))).mono ?_; rintro v h' ⟨b, rfl, hn⟩; have hs' := St.newCall (by assumption) hn; clear hn; conv => whnf)
      | (refine Br.tt ?_; conv => whnf)
      | (refine Br.ff ?_; conv => whnf)
      | refine Br.not ?_
      | (refine Br.t (beq_self_eq_true _) ?_; conv => whnf)
      | (refine Br.t (by assumption) ?_; conv => whnf)
      | (refine Br.f (by assumption) ?_; conv => whnf)
      | (refine Br.dt (by omega) ?_; conv => whnf)
      | (refine Br.df (by omega) ?_; conv => whnf)
      | (refine Br.it (by omega) ?_; conv => whnf)
      | (refine Br.if (by omega) ?_; conv => whnf)
      | (refine Br.nt (by omega) ?_; conv => whnf)
      | (refine Br.nf (by omega) ?_; conv => whnf)
      | (refine Br.dec (fun hc => ?_) (fun hc => ?_) <;> conv => whnf)
      | (refine Br.ieq (fun hc => ?_) (fun hc => ?_) <;> conv => whnf)
      | (refine Br.ine (fun hc => ?_) (fun hc => ?_) <;> conv => whnf)
      | (refine Br.mk (fun hc => ?_) (fun hc => ?_) <;> conv => whnf)
      | (refine Wr.i64 (by omega) ?_; conv => whnf)
      | (refine Ck.mk (by omega) ?_; conv => whnf)
      | (refine Wr.i64 (by simp only [List.length_drop, List.length_take, List.length_append, List.length_cons, List.length_nil]; omega) ?_; conv => whnf)
      | (refine Ck.mk (by simp only [List.length_drop, List.length_take, List.length_append, List.length_cons, List.length_nil]; omega) ?_; conv => whnf)
      | (refine NewG.st (by assumption) (fun bt h' hs' => ?_); conv => whnf)
      | (refine Ck.slice (by omega) (by omega) (by omega) (by decide) ?_; conv => whnf)
      | (refine Has.load1 (by first | assumption | exact St.has (by assumption) (by repeat first | exact .head _ | apply List.Mem.tail) | exact St.arg (by assumption) (by assumption)) ?_; conv => whnf)
      | (refine StoreG.st1 (by assumption) (by repeat first | exact .here | apply Spot.there) rfl (fun h' hs' => ?_); conv => whnf)
      | (refine Ck.mk (by simp; omega) ?_; conv => whnf))
    refine AW.once ?_
    repeat' (first
      | refine AW.seq ?_
      | (refine AW.region ?_; conv => whnf)
      | refine AW.block ?_
      | (refine AW.skip ?_; conv => whnf)
      | (refine AW.ret ?_; conv => whnf)
      | (refine AW.exit ?_; conv => whnf)
      | refine AW.cond (by rfl) ?_
      | (refine (toIntS_ok _ _ _ (by first | assumption | exact CellsAt.keep (by assumption) (St.keeps (by assumption))) (by first | (simp; done) | omega | (simp only [List.length_set, List.length_append, List.length_cons, List.length_nil, List.length_replicate, tab_length]; omega) | (simp; omega))).mono ?_; rintro v h' ⟨b, rfl, hn⟩; have hs' := St.newCall (by assumption) hn; clear hn; conv => whnf)
      | (refine Br.tt ?_; conv => whnf)
      | (refine Br.ff ?_; conv => whnf)
      | refine Br.not ?_
      | (refine Br.t (beq_self_eq_true _) ?_; conv => whnf)
      | (refine Br.t (by assumption) ?_; conv => whnf)
      | (refine Br.f (by assumption) ?_; conv => whnf)
      | (refine Br.dt (by omega) ?_; conv => whnf)
      | (refine Br.df (by omega) ?_; conv => whnf)
      | (refine Br.it (by omega) ?_; conv => whnf)
      | (refine Br.if (by omega) ?_; conv => whnf)
      | (refine Br.nt (by omega) ?_; conv => whnf)
      | (refine Br.nf (by omega) ?_; conv => whnf)
      | (refine Br.dec (fun hc => ?_) (fun hc => ?_) <;> conv => whnf)
      | (refine Br.ieq (fun hc => ?_) (fun hc => ?_) <;> conv => whnf)
      | (refine Br.ine (fun hc => ?_) (fun hc => ?_) <;> conv => whnf)
      | (refine Br.mk (fun hc => ?_) (fun hc => ?_) <;> conv => whnf)
      | (refine Wr.i64 (by omega) ?_; conv => whnf)
      | (refine Ck.mk (by omega) ?_; conv => whnf)
      | (refine Wr.i64 (by simp only [List.length_drop, List.length_take, List.length_append, List.length_cons, List.length_nil]; omega) ?_; conv => whnf)
      | (refine Ck.mk (by simp only [List.length_drop, List.length_take, List.length_append, List.length_cons, List.length_nil]; omega) ?_; conv => whnf)
      | (refine NewG.st (by assumption) (fun bt h' hs' => ?_); conv => whnf)
      | (refine Ck.slice (by omega) (by omega) (by omega) (by decide) ?_; conv => whnf)
      | (refine Has.load1 (by first | assumption | exact St.has (by assumption) (by repeat first | exact .head _ | apply List.Mem.tail) | exact St.arg (by assumption) (by assumption)) ?_; conv => whnf)
      | (refine StoreG.st1 (by assumption) (by repeat first | exact .here | apply Spot.there) rfl (fun h' hs' => ?_); conv => whnf)
      | (refine Ck.mk (by simp; omega) ?_; conv => whnf))
    exact ⟨_, [], rfl, rfl, rfl, hs'⟩
  · refine AC.enter Try.func35 Try.call35 rfl Try.ntmps35 (of_decide_eq_true (by rfl)) ?_
    repeat' (first
      | (refine NewG.stN (m := vs.length) (by assumption) rfl (by omega) (fun bt h' hs' => ?_); conv => whnf)
      | refine AW.seq ?_
      | (refine AW.region ?_; conv => whnf)
      | refine AW.block ?_
      | (refine AW.skip ?_; conv => whnf)
      | (refine AW.ret ?_; conv => whnf)
      | (refine AW.exit ?_; conv => whnf)
      | refine AW.cond (by rfl) ?_
      | (refine (toIntS_ok _ _ _ (by first | assumption | exact CellsAt.keep (by assumption) (St.keeps (by assumption))) (by first | (simp; done) | omega | (simp only [List.length_set, List.length_append, List.length_cons, List.length_nil, List.length_replicate, tab_length]; omega) | (simp; omega))).mono ?_; rintro v h' ⟨b, rfl, hn⟩; have hs' := St.newCall (by assumption) hn; clear hn; conv => whnf)
      | (refine Br.tt ?_; conv => whnf)
      | (refine Br.ff ?_; conv => whnf)
      | refine Br.not ?_
      | (refine Br.t (beq_self_eq_true _) ?_; conv => whnf)
      | (refine Br.t (by assumption) ?_; conv => whnf)
      | (refine Br.f (by assumption) ?_; conv => whnf)
      | (refine Br.dt (by omega) ?_; conv => whnf)
      | (refine Br.df (by omega) ?_; conv => whnf)
      | (refine Br.it (by omega) ?_; conv => whnf)
      | (refine Br.if (by omega) ?_; conv => whnf)
      | (refine Br.nt (by omega) ?_; conv => whnf)
      | (refine Br.nf (by omega) ?_; conv => whnf)
      | (refine Br.dec (fun hc => ?_) (fun hc => ?_) <;> conv => whnf)
      | (refine Br.ieq (fun hc => ?_) (fun hc => ?_) <;> conv => whnf)
      | (refine Br.ine (fun hc => ?_) (fun hc => ?_) <;> conv => whnf)
      | (refine Br.mk (fun hc => ?_) (fun hc => ?_) <;> conv => whnf)
      | (refine Wr.i64 (by omega) ?_; conv => whnf)
      | (refine Ck.mk (by omega) ?_; conv => whnf)
      | (refine Wr.i64 (by simp only [List.length_drop, List.length_take, List.length_append, List.length_cons, List.length_nil]; omega) ?_; conv => whnf)
      | (refine Ck.mk (by simp only [List.length_drop, List.length_take, List.length_append, List.length_cons, List.length_nil]; omega) ?_; conv => whnf)
      | (refine NewG.st (by assumption) (fun bt h' hs' => ?_); conv => whnf)
      | (refine Ck.slice (by omega) (by omega) (by omega) (by decide) ?_; conv => whnf)
      | (refine Has.load1 (by first | assumption | exact St.has (by assumption) (by repeat first | exact .head _ | apply List.Mem.tail) | exact St.arg (by assumption) (by assumption)) ?_; conv => whnf)
      | (refine StoreG.st1 (by assumption) (by repeat first | exact .here | apply Spot.there) rfl (fun h' hs' => ?_); conv => whnf)
      | (refine Ck.mk (by simp; omega) ?_; conv => whnf))
    refine AW.loop2 (fun (i : Nat) (R : RL) => [(0, .slice b 0 vs.length c), (3, .slice bt 0 vs.length vs.length), (4, .int .i64 i)]) (fun i R h' => i ≤ vs.length ∧ R.length = i ∧ rws R = ls.take i ∧ St h0 h' ((bt, row (slcs R ++ List.replicate (vs.length - i) AV.nilslice)) :: (blks R ++ []))) (fun i _ => vs.length - i) 0 []
      (Less.cons rfl (Less.cons rfl (Less.cons rfl (Less.nil _)))) ⟨by omega, rfl, rfl, by simpa [slcs, blks] using hs'⟩ ?_
    rintro i R h1 ⟨hi, hRl, hRt, hs1⟩
    by_cases hlt : i < vs.length
    · obtain ⟨u, hw⟩ : ∃ u, vs[i]? = some u := ⟨_, List.getElem?_eq_getElem hlt⟩
      obtain ⟨l, hl2⟩ : ∃ l, ls[i]? = some l := ⟨_, List.getElem?_eq_getElem (by omega)⟩
      have hsh := (hp i _ _ hw hl2).keep hs1.keeps
      have hlen := hr _ (List.mem_of_getElem? hl2)
      have ek : vs.length - i = (vs.length - (i + 1)) + 1 := by omega
      rw [ek] at hs1
      have hsh2 := hsh
      have hR2 : rws (R ++ [(0, l)]) = ls.take (i + 1) := by
        rw [rws_append, hRt, List.take_add_one, hl2]
        rfl
      rcases hsh2 with (⟨rfl, e⟩ | ⟨b3, c3, rfl, hb3⟩) | ⟨rfl, el⟩
      all_goals
        repeat' (first
          | (refine Has.loadAt (hb2.keep hs1.keeps) rfl hw ?_; conv => whnf)
          | (refine (toIntSh_ok _ _ _ hsh hlen).mono ?_; rintro v h' ⟨c2, rfl, hn2⟩; have hs' := St.newCall hs1 hn2; conv => whnf)
          | (refine StoreG.stV hs' (.there .here) rfl (by simp; omega) rfl (fun h' hs2 => ?_); conv => whnf)
          | refine AW.seq ?_
          | (refine AW.region ?_; conv => whnf)
          | refine AW.block ?_
          | (refine AW.skip ?_; conv => whnf)
          | (refine AW.ret ?_; conv => whnf)
          | (refine AW.exit ?_; conv => whnf)
          | refine AW.cond (by rfl) ?_
          | (refine (toIntS_ok _ _ _ (by first | assumption | exact CellsAt.keep (by assumption) (St.keeps (by assumption))) (by first | (simp; done) | omega | (simp only [List.length_set, List.length_append, List.length_cons, List.length_nil, List.length_replicate, tab_length]; omega) | (simp; omega))).mono ?_; rintro v h' ⟨b, rfl, hn⟩; have hs' := St.newCall (by assumption) hn; clear hn; conv => whnf)
          | (refine Br.tt ?_; conv => whnf)
          | (refine Br.ff ?_; conv => whnf)
          | refine Br.not ?_
          | (refine Br.t (beq_self_eq_true _) ?_; conv => whnf)
          | (refine Br.t (by assumption) ?_; conv => whnf)
          | (refine Br.f (by assumption) ?_; conv => whnf)
          | (refine Br.dt (by omega) ?_; conv => whnf)
          | (refine Br.df (by omega) ?_; conv => whnf)
          | (refine Br.it (by omega) ?_; conv => whnf)
          | (refine Br.if (by omega) ?_; conv => whnf)
          | (refine Br.nt (by omega) ?_; conv => whnf)
          | (refine Br.nf (by omega) ?_; conv => whnf)
          | (refine Br.dec (fun hc => ?_) (fun hc => ?_) <;> conv => whnf)
          | (refine Br.ieq (fun hc => ?_) (fun hc => ?_) <;> conv => whnf)
          | (refine Br.ine (fun hc => ?_) (fun hc => ?_) <;> conv => whnf)
          | (refine Br.mk (fun hc => ?_) (fun hc => ?_) <;> conv => whnf)
          | (refine Wr.i64 (by omega) ?_; conv => whnf)
          | (refine Ck.mk (by omega) ?_; conv => whnf)
          | (refine Wr.i64 (by simp only [List.length_drop, List.length_take, List.length_append, List.length_cons, List.length_nil]; omega) ?_; conv => whnf)
          | (refine Ck.mk (by simp only [List.length_drop, List.length_take, List.length_append, List.length_cons, List.length_nil]; omega) ?_; conv => whnf)
          | (refine NewG.st (by assumption) (fun bt h' hs' => ?_); conv => whnf)
          | (refine Ck.slice (by omega) (by omega) (by omega) (by decide) ?_; conv => whnf)
          | (refine Has.load1 (by first | assumption | exact St.has (by assumption) (by repeat first | exact .head _ | apply List.Mem.tail) | exact St.arg (by assumption) (by assumption)) ?_; conv => whnf)
          | (refine StoreG.st1 (by assumption) (by repeat first | exact .here | apply Spot.there) rfl (fun h' hs' => ?_); conv => whnf)
          | (refine Ck.mk (by simp; omega) ?_; conv => whnf))
        refine ⟨i + 1, R ++ [(c2, l)], (Less.cons rfl (Less.cons rfl (Less.cons rfl (Less.nil _)))), ⟨by omega, by simp; omega, by rw [← hR2, rws_append, rws_append]; rfl, ?_⟩, by omega⟩
        have e : (slcs R ++ List.replicate (vs.length - (i + 1) + 1) AV.nilslice).set (i : Int).toNat (.slice c2 0 l.length l.length) = slcs (R ++ [(c2, l)]) ++ List.replicate (vs.length - (i + 1)) AV.nilslice := by
          rw [← slcs_fill, hRl]
          rfl
        rw [e] at hs2
        refine hs2.perm ?_
        rw [blks_append, List.append_assoc]
        refine (List.Perm.swap _ _ _).trans (.cons _ ?_)
        exact (List.perm_middle (l₁ := blks R) (l₂ := []) (a := (c2, row (ints l)))).symm
    · repeat' (first
        | refine AW.seq ?_
        | (refine AW.region ?_; conv => whnf)
        | refine AW.block ?_
        | (refine AW.skip ?_; conv => whnf)
        | (refine AW.ret ?_; conv => whnf)
        | (refine AW.exit ?_; conv => whnf)
        | refine AW.cond (by rfl) ?_
        | (refine (toIntS_ok _ _ _ (by first | assumption | exact CellsAt.keep (by assumption) (St.keeps (by assumption))) (by first | (simp; done) | omega | (simp only [List.length_set, List.length_append, List.length_cons, List.length_nil, List.length_replicate, tab_length]; omega) | (simp; omega))).mono ?_; rintro v h' ⟨b, rfl, hn⟩; have hs' := St.newCall (by assumption) hn; clear hn; conv => whnf)
        | (refine Br.tt ?_; conv => whnf)
        | (refine Br.ff ?_; conv => whnf)
        | refine Br.not ?_
        | (refine Br.t (beq_self_eq_true _) ?_; conv => whnf)
        | (refine Br.t (by assumption) ?_; conv => whnf)
        | (refine Br.f (by assumption) ?_; conv => whnf)
        | (refine Br.dt (by omega) ?_; conv => whnf)
        | (refine Br.df (by omega) ?_; conv => whnf)
        | (refine Br.it (by omega) ?_; conv => whnf)
        | (refine Br.if (by omega) ?_; conv => whnf)
        | (refine Br.nt (by omega) ?_; conv => whnf)
        | (refine Br.nf (by omega) ?_; conv => whnf)
        | (refine Br.dec (fun hc => ?_) (fun hc => ?_) <;> conv => whnf)
        | (refine Br.ieq (fun hc => ?_) (fun hc => ?_) <;> conv => whnf)
        | (refine Br.ine (fun hc => ?_) (fun hc => ?_) <;> conv => whnf)
        | (refine Br.mk (fun hc => ?_) (fun hc => ?_) <;> conv => whnf)
        | (refine Wr.i64 (by omega) ?_; conv => whnf)
        | (refine Ck.mk (by omega) ?_; conv => whnf)
        | (refine Wr.i64 (by simp only [List.length_drop, List.length_take, List.length_append, List.length_cons, List.length_nil]; omega) ?_; conv => whnf)
        | (refine Ck.mk (by simp only [List.length_drop, List.length_take, List.length_append, List.length_cons, List.length_nil]; omega) ?_; conv => whnf)
        | (refine NewG.st (by assumption) (fun bt h' hs' => ?_); conv => whnf)
        | (refine Ck.slice (by omega) (by omega) (by omega) (by decide) ?_; conv => whnf)
        | (refine Has.load1 (by first | assumption | exact St.has (by assumption) (by repeat first | exact .head _ | apply List.Mem.tail) | exact St.arg (by assumption) (by assumption)) ?_; conv => whnf)
        | (refine StoreG.st1 (by assumption) (by repeat first | exact .here | apply Spot.there) rfl (fun h' hs' => ?_); conv => whnf)
        | (refine Ck.mk (by simp; omega) ?_; conv => whnf))
      have e : i = vs.length := by omega
      subst e
      rw [Nat.sub_self, List.replicate_zero, List.append_nil] at hs1
      refine ⟨_, R, by rw [hn], by rw [hRt, hn, List.take_length], by omega, hs1⟩

theorem eqIntSS_ok (R S : RL) (f : List (List Int)) (b c N C D : Nat) (h0 : H) (hb : Grid h0 b R) (hc' : Grid h0 c S) (hR : rws R = f) (hS : rws S = f) (hN : N = f.length) (hl : N ≤ 1000000000) (hr : ∀ l ∈ f, l.length ≤ 1000000000) : AC env 23 [.slice b 0 N C, .slice c 0 N D] h0 fun v h' => v = .bool true ∧ h' = h0 := by
  have lR : R.length = N := by rw [hN, ← hR, rws_length]
  have lS : S.length = N := by rw [hN, ← hS, rws_length]
  refine AC.enter Try.func23 Try.call23 rfl Try.ntmps23 (of_decide_eq_true (by rfl)) ?_
  repeat' (first
    | refine AW.seq ?_
    | (refine AW.region ?_; conv => whnf)
    | refine AW.block ?_
    | (refine AW.skip ?_; conv => whnf)
    | (refine AW.ret ?_; conv => whnf)
    | (refine AW.exit ?_; conv => whnf)
    | refine AW.cond (by rfl) ?_
    | (refine AW.draw (id := 6) (.p 0 (.p 1 (.p 2 (.p 4 (.p 5 (.p 6 (.r 3 [8, 9] (.r 7 [8, 9] (.all [8] fun _ => (.p 9 .done)))))))))) (by kernel_rfl) (by kernel_rfl) ?_; conv => whnf)
    | (refine (eqIntS_ok _ _ _ _ _ _ _ (by first | assumption | exact St.has (by assumption) (by repeat first | exact .head _ | apply List.Mem.tail) | exact St.arg (by assumption) (by assumption)) (by first | assumption | exact St.has (by assumption) (by repeat first | exact .head _ | apply List.Mem.tail) | exact St.arg (by assumption) (by assumption)) (by first | rfl | omega) (by first | (simp; done) | omega | (simp only [List.length_set, List.length_append, List.length_cons, List.length_nil, List.length_replicate, tab_length]; omega) | (simp; omega))).mono ?_; rintro v h' ⟨rfl, e'⟩; subst h'; conv => whnf)
    | (refine Br.tt ?_; conv => whnf)
    | (refine Br.ff ?_; conv => whnf)
    | refine Br.not ?_
    | (refine Br.t (beq_self_eq_true _) ?_; conv => whnf)
    | (refine Br.t (by assumption) ?_; conv => whnf)
    | (refine Br.f (by assumption) ?_; conv => whnf)
    | (refine Br.dt (by omega) ?_; conv => whnf)
    | (refine Br.df (by omega) ?_; conv => whnf)
    | (refine Br.it (by omega) ?_; conv => whnf)
    | (refine Br.if (by omega) ?_; conv => whnf)
    | (refine Br.nt (by omega) ?_; conv => whnf)
    | (refine Br.nf (by omega) ?_; conv => whnf)
    | (refine Br.dec (fun hc => ?_) (fun hc => ?_) <;> conv => whnf)
    | (refine Br.ieq (fun hc => ?_) (fun hc => ?_) <;> conv => whnf)
    | (refine Br.ine (fun hc => ?_) (fun hc => ?_) <;> conv => whnf)
    | (refine Br.mk (fun hc => ?_) (fun hc => ?_) <;> conv => whnf)
    | (refine Wr.i64 (by omega) ?_; conv => whnf)
    | (refine Ck.mk (by omega) ?_; conv => whnf)
    | (refine Wr.i64 (by simp only [List.length_drop, List.length_take, List.length_append, List.length_cons, List.length_nil]; omega) ?_; conv => whnf)
    | (refine Ck.mk (by simp only [List.length_drop, List.length_take, List.length_append, List.length_cons, List.length_nil]; omega) ?_; conv => whnf)
    | (refine Has.load1 (by first | assumption | exact St.has (by assumption) (by repeat first | exact .head _ | apply List.Mem.tail) | exact St.arg (by assumption) (by assumption)) ?_; conv => whnf)
    | (refine Ck.mk (by simp; omega) ?_; conv => whnf))
  refine AW.loop1 (fun (k : Nat) => [(0, .slice b 0 N C), (1, .slice c 0 N D), (5, .int .i64 k)]) (fun k h' => k ≤ N ∧ h' = h0) (fun k => N - k) 0 (Less.cons rfl (Less.cons rfl (Less.cons rfl (Less.nil _)))) ⟨by omega, rfl⟩ ?_
  rintro k h' ⟨hk, rfl⟩
  by_cases hlt : k < N
  · have hx : Has h' (rb R k) (ints (f.getD k [])) := by rw [← hR, ← rl_rws]; exact hb.at (by omega)
    have hy : Has h' (rb S k) (ints (f.getD k [])) := by rw [← hS, ← rl_rws]; exact hc'.at (by omega)
    have hlen : (f.getD k []).length ≤ 1000000000 := by
      have e := List.getElem?_eq_getElem (l := f) (i := k) (by omega)
      rw [List.getD, e]
      exact hr _ (List.getElem_mem _)
    repeat' (first
      | (refine Grid.rowAt hb hR k rfl rfl (by omega) rfl ?_; conv => whnf)
      | (refine Grid.rowAt hc' hS k rfl rfl (by omega) rfl ?_; conv => whnf)
      | (refine (eqIntS_ok (f.getD k []) _ _ _ _ _ _ hx hy rfl hlen).mono ?_; rintro v h' ⟨rfl, e'⟩; subst h'; conv => whnf)
      | refine AW.seq ?_
      | (refine AW.region ?_; conv => whnf)
      | refine AW.block ?_
      | (refine AW.skip ?_; conv => whnf)
      | (refine AW.ret ?_; conv => whnf)
      | (refine AW.exit ?_; conv => whnf)
      | refine AW.cond (by rfl) ?_
      | (refine AW.draw (id := 6) (.p 0 (.p 1 (.p 2 (.p 4 (.p 5 (.p 6 (.r 3 [8, 9] (.r 7 [8, 9] (.all [8] fun _ => (.p 9 .done)))))))))) (by kernel_rfl) (by kernel_rfl) ?_; conv => whnf)
      | (refine (eqIntS_ok _ _ _ _ _ _ _ (by first | assumption | exact St.has (by assumption) (by repeat first | exact .head _ | apply List.Mem.tail) | exact St.arg (by assumption) (by assumption)) (by first | assumption | exact St.has (by assumption) (by repeat first | exact .head _ | apply List.Mem.tail) | exact St.arg (by assumption) (by assumption)) (by first | rfl | omega) (by first | (simp; done) | omega | (simp only [List.length_set, List.length_append, List.length_cons, List.length_nil, List.length_replicate, tab_length]; omega) | (simp; omega))).mono ?_; rintro v h' ⟨rfl, e'⟩; subst h'; conv => whnf)
      | (refine Br.tt ?_; conv => whnf)
      | (refine Br.ff ?_; conv => whnf)
      | refine Br.not ?_
      | (refine Br.t (beq_self_eq_true _) ?_; conv => whnf)
      | (refine Br.t (by assumption) ?_; conv => whnf)
      | (refine Br.f (by assumption) ?_; conv => whnf)
      | (refine Br.dt (by omega) ?_; conv => whnf)
      | (refine Br.df (by omega) ?_; conv => whnf)
      | (refine Br.it (by omega) ?_; conv => whnf)
      | (refine Br.if (by omega) ?_; conv => whnf)
      | (refine Br.nt (by omega) ?_; conv => whnf)
      | (refine Br.nf (by omega) ?_; conv => whnf)
      | (refine Br.dec (fun hc => ?_) (fun hc => ?_) <;> conv => whnf)
      | (refine Br.ieq (fun hc => ?_) (fun hc => ?_) <;> conv => whnf)
      | (refine Br.ine (fun hc => ?_) (fun hc => ?_) <;> conv => whnf)
      | (refine Br.mk (fun hc => ?_) (fun hc => ?_) <;> conv => whnf)
      | (refine Wr.i64 (by omega) ?_; conv => whnf)
      | (refine Ck.mk (by omega) ?_; conv => whnf)
      | (refine Wr.i64 (by simp only [List.length_drop, List.length_take, List.length_append, List.length_cons, List.length_nil]; omega) ?_; conv => whnf)
      | (refine Ck.mk (by simp only [List.length_drop, List.length_take, List.length_append, List.length_cons, List.length_nil]; omega) ?_; conv => whnf)
      | (refine Has.load1 (by first | assumption | exact St.has (by assumption) (by repeat first | exact .head _ | apply List.Mem.tail) | exact St.arg (by assumption) (by assumption)) ?_; conv => whnf)
      | (refine Ck.mk (by simp; omega) ?_; conv => whnf))
    exact ⟨k + 1, (Less.cons rfl (Less.cons rfl (Less.cons rfl (Less.nil _)))), ⟨by omega, rfl⟩, by omega⟩
  · repeat' (first
      | refine AW.seq ?_
      | (refine AW.region ?_; conv => whnf)
      | refine AW.block ?_
      | (refine AW.skip ?_; conv => whnf)
      | (refine AW.ret ?_; conv => whnf)
      | (refine AW.exit ?_; conv => whnf)
      | refine AW.cond (by rfl) ?_
      | (refine AW.draw (id := 6) (.p 0 (.p 1 (.p 2 (.p 4 (.p 5 (.p 6 (.r 3 [8, 9] (.r 7 [8, 9] (.all [8] fun _ => (.p 9 .done)))))))))) (by kernel_rfl) (by kernel_rfl) ?_; conv => whnf)
      | (refine (eqIntS_ok _ _ _ _ _ _ _ (by first | assumption | exact St.has (by assumption) (by repeat first | exact .head _ | apply List.Mem.tail) | exact St.arg (by assumption) (by assumption)) (by first | assumption | exact St.has (by assumption) (by repeat first | exact .head _ | apply List.Mem.tail) | exact St.arg (by assumption) (by assumption)) (by first | rfl | omega) (by first | (simp; done) | omega | (simp only [List.length_set, List.length_append, List.length_cons, List.length_nil, List.length_replicate, tab_length]; omega) | (simp; omega))).mono ?_; rintro v h' ⟨rfl, e'⟩; subst h'; conv => whnf)
      | (refine Br.tt ?_; conv => whnf)
      | (refine Br.ff ?_; conv => whnf)
      | refine Br.not ?_
      | (refine Br.t (beq_self_eq_true _) ?_; conv => whnf)
      | (refine Br.t (by assumption) ?_; conv => whnf)
      | (refine Br.f (by assumption) ?_; conv => whnf)
      | (refine Br.dt (by omega) ?_; conv => whnf)
      | (refine Br.df (by omega) ?_; conv => whnf)
      | (refine Br.it (by omega) ?_; conv => whnf)
      | (refine Br.if (by omega) ?_; conv => whnf)
      | (refine Br.nt (by omega) ?_; conv => whnf)
      | (refine Br.nf (by omega) ?_; conv => whnf)
      | (refine Br.dec (fun hc => ?_) (fun hc => ?_) <;> conv => whnf)
      | (refine Br.ieq (fun hc => ?_) (fun hc => ?_) <;> conv => whnf)
      | (refine Br.ine (fun hc => ?_) (fun hc => ?_) <;> conv => whnf)
      | (refine Br.mk (fun hc => ?_) (fun hc => ?_) <;> conv => whnf)
      | (refine Wr.i64 (by omega) ?_; conv => whnf)
      | (refine Ck.mk (by omega) ?_; conv => whnf)
      | (refine Wr.i64 (by simp only [List.length_drop, List.length_take, List.length_append, List.length_cons, List.length_nil]; omega) ?_; conv => whnf)
      | (refine Ck.mk (by simp only [List.length_drop, List.length_take, List.length_append, List.length_cons, List.length_nil]; omega) ?_; conv => whnf)
      | (refine Has.load1 (by first | assumption | exact St.has (by assumption) (by repeat first | exact .head _ | apply List.Mem.tail) | exact St.arg (by assumption) (by assumption)) ?_; conv => whnf)
      | (refine Ck.mk (by simp; omega) ?_; conv => whnf))
    exact ⟨rfl, rfl⟩

/-! friezes, as they must be -/
def cellOk (n r : Nat) (x : Int) : Prop := (r = 0 ∨ r = n → x = 0) ∧ (¬ (r = 0 ∨ r = n) → 1 ≤ x ∧ x ≤ 100000) ∧ (r = 1 ∨ r = n - 1 → x = 1)
instance (n r : Nat) (x : Int) : Decidable (cellOk n r x) := by unfold cellOk; infer_instance
def rowOk (f : List (List Int)) (n r : Nat) : Prop := (f.getD r []).length = n ∧ ∀ i, i < n → cellOk n r (ent f r i)
instance (f : List (List Int)) (n r : Nat) : Decidable (rowOk f n r) := by unfold rowOk; infer_instance
def ruleOk (f : List (List Int)) (n r i : Nat) : Prop := ent f (r + 1) i * ent f (r + 1) ((i + 1) % n) - ent f r ((i + 1) % n) * ent f (r + 2) i = 1
instance (f : List (List Int)) (n r i : Nat) : Decidable (ruleOk f n r i) := by unfold ruleOk; infer_instance
def isF (f : List (List Int)) : Bool := decide ((4 ≤ f.length ∧ f.length ≤ 11) ∧ (∀ r, r < f.length → rowOk f (f.length - 1) r) ∧ ∀ r, r < f.length - 2 → ∀ i, i < f.length - 1 → ruleOk f (f.length - 1) r i)
theorem isF_spec {f : List (List Int)} (h : isF f = true) : (4 ≤ f.length ∧ f.length ≤ 11) ∧ (∀ r, r < f.length → rowOk f (f.length - 1) r) ∧ ∀ r, r < f.length - 2 → ∀ i, i < f.length - 1 → ruleOk f (f.length - 1) r i := of_decide_eq_true h
theorem isF_size {f : List (List Int)} (h : ¬ (4 ≤ f.length ∧ f.length ≤ 11)) : isF f = false := decide_eq_false fun a => h a.1
theorem isF_row {f : List (List Int)} {n r : Nat} (hn : f.length = n + 1) (hr : r < n + 1) (h : (f.getD r []).length ≠ n) : isF f = false := decide_eq_false fun a => h (by have := (a.2.1 r (by omega)).1; omega)
theorem isF_cell {f : List (List Int)} {n r i : Nat} (hn : f.length = n + 1) (hr : r < n + 1) (hi : i < n) (h : ¬ cellOk n r (ent f r i)) : isF f = false := decide_eq_false fun a => h (by have := (a.2.1 r (by omega)).2 i (by omega); rwa [hn, Nat.add_sub_cancel] at this)
theorem isF_rule {f : List (List Int)} {n r i : Nat} (hn : f.length = n + 1) (hr : r < n - 1) (hi : i < n) (h : ¬ ruleOk f n r i) : isF f = false := decide_eq_false fun a => h (by have := a.2.2 r (by omega) i (by omega); rwa [hn, Nat.add_sub_cancel] at this)
theorem isF_yes {f : List (List Int)} {n : Nat} (hn : f.length = n + 1) (h1 : 3 ≤ n ∧ n ≤ 10) (h2 : ∀ r, r < n + 1 → rowOk f n r) (h3 : ∀ r, r < n - 1 → ∀ i, i < n → ruleOk f n r i) : isF f = true := by
  refine decide_eq_true ⟨by omega, fun r hr => ?_, fun r hr i hi => ?_⟩
  · rw [hn, Nat.add_sub_cancel]; exact h2 r (by omega)
  · rw [hn, Nat.add_sub_cancel]; exact h3 r (by omega) i (by omega)
theorem cell_bd {n r : Nat} {x : Int} (h : cellOk n r x) : 0 ≤ x ∧ x ≤ 100000 := by
  unfold cellOk at h
  omega
theorem prod_bd {x y : Int} (hx : 0 ≤ x ∧ x ≤ 100000) (hy : 0 ≤ y ∧ y ≤ 100000) : 0 ≤ x * y ∧ x * y ≤ 10000000000 :=
  ⟨Int.mul_nonneg hx.1 hy.1, Int.le_trans (Int.mul_le_mul hx.2 hy.2 hy.1 (by decide)) (by decide)⟩


set_option maxHeartbeats 4000000 in
theorem sIsFrieze_ok (R : RL) (f : List (List Int)) (b N C : Nat) (h0 : H) (hb : Grid h0 b R) (hR : rws R = f) (hN : N = f.length) (hl : N ≤ 1000000000) : AC env 59 [.slice b 0 N C] h0 fun v h' => v = .bool (isF f) ∧ h' = h0 := by
  have lR : R.length = N := by rw [hN, ← hR, rws_length]
  by_cases hsz : 4 ≤ N ∧ N ≤ 11
  · obtain ⟨n, rfl⟩ : ∃ n, N = n + 1 := ⟨N - 1, by omega⟩
    have eN : ((n + 1 : Nat) : Int) - 1 = n := by omega
    have hn := hN.symm
    refine AC.enter Try.func59 Try.call59 rfl Try.ntmps59 (of_decide_eq_true (by rfl)) ?_
    repeat' (first
      | refine AW.seq ?_
      | (refine AW.region ?_; conv => whnf)
      | refine AW.block ?_
      | (refine AW.skip ?_; conv => whnf)
      | (refine AW.ret ?_; conv => whnf)
      | (refine AW.exit ?_; conv => whnf)
      | refine AW.cond (by rfl) ?_
      | (refine AW.draw (id := 21) (.p 0 (.p 1 (.p 2 (.p 4 (.p 7 (.p 8 (.p 9 (.p 11 (.p 12 (.p 13 (.p 14 (.p 18 (.p 19 (.p 20 (.p 21 (.p 23 (.p 24 (.p 25 (.p 26 (.p 29 (.p 30 (.p 31 (.p 32 (.p 34 (.r 3 [5, 6, 17, 38, 39] (.p 5 (.r 6 [17, 38, 39] (.r 10 [15, 16, 17, 38, 39] (.p 15 (.r 16 [17, 38, 39] (.p 17 (.r 22 [27, 28, 37, 38, 39] (.p 27 (.r 28 [37, 38, 39] (.r 33 [35, 36, 37, 38, 39] (.p 35 (.r 36 [37, 38, 39] (.p 37 (.p 38 (.p 39 .done)))))))))))))))))))))))))))))))))))))))) (by kernel_rfl) (by kernel_rfl) ?_; conv => whnf)
      | (refine (l1In_ok _ _ _ _).mono ?_; rintro v h' ⟨rfl, e'⟩; subst h'; conv => whnf)
      | (refine Br.tt ?_; conv => whnf)
      | (refine Br.ff ?_; conv => whnf)
      | refine Br.not ?_
      | (refine Br.t (beq_self_eq_true _) ?_; conv => whnf)
      | (refine Br.t (by assumption) ?_; conv => whnf)
      | (refine Br.f (by assumption) ?_; conv => whnf)
      | (refine Br.dt (by omega) ?_; conv => whnf)
      | (refine Br.df (by omega) ?_; conv => whnf)
      | (refine Br.it (by omega) ?_; conv => whnf)
      | (refine Br.if (by omega) ?_; conv => whnf)
      | (refine Br.nt (by omega) ?_; conv => whnf)
      | (refine Br.nf (by omega) ?_; conv => whnf)
      | (refine Br.dec (fun hc => ?_) (fun hc => ?_) <;> conv => whnf)
      | (refine Br.ieq (fun hc => ?_) (fun hc => ?_) <;> conv => whnf)
      | (refine Br.ine (fun hc => ?_) (fun hc => ?_) <;> conv => whnf)
      | (refine Br.mk (fun hc => ?_) (fun hc => ?_) <;> conv => whnf)
      | (refine Wr.i64 (by omega) ?_; conv => whnf)
      | (refine Ck.mk (by omega) ?_; conv => whnf)
      | (refine Wr.i64 (by simp only [List.length_drop, List.length_take, List.length_append, List.length_cons, List.length_nil]; omega) ?_; conv => whnf)
      | (refine Ck.mk (by simp only [List.length_drop, List.length_take, List.length_append, List.length_cons, List.length_nil]; omega) ?_; conv => whnf)
      | (refine Has.load1 (by first | assumption | exact St.has (by assumption) (by repeat first | exact .head _ | apply List.Mem.tail) | exact St.arg (by assumption) (by assumption)) ?_; conv => whnf)
      | (refine Has.loadZ (by first | assumption | exact St.has (by assumption) (by repeat first | exact .head _ | apply List.Mem.tail) | exact St.arg (by assumption) (by assumption)) rfl (by first | (simp; done) | omega | (simp only [List.length_set, List.length_append, List.length_cons, List.length_nil, List.length_replicate, tab_length]; omega) | (simp; omega)) ?_; conv => whnf)
      | (refine Ck.mk (by simp; omega) ?_; conv => whnf))
    rw [eN]
    refine AW.loop1 (fun (r : Nat) => [(0, .slice b 0 (n + 1) C), (3, .int .i64 (n : Int)), (4, .int .i64 r)]) (fun r h' => r ≤ n + 1 ∧ (∀ q, q < r → rowOk f n q) ∧ h' = h0) (fun r => n + 1 - r) 0 (Less.cons rfl (Less.cons rfl (Less.cons rfl (Less.nil _)))) ⟨by omega, fun q hq => by omega, rfl⟩ ?_
    rintro r h' ⟨hr, hrows, rfl⟩
    by_cases hlt : r < n + 1
    · repeat' (first
        | (refine Grid.rowAt hb hR r rfl rfl (by omega) rfl ?_; conv => whnf)
        | refine AW.seq ?_
        | (refine AW.region ?_; conv => whnf)
        | refine AW.block ?_
        | (refine AW.skip ?_; conv => whnf)
        | (refine AW.ret ?_; conv => whnf)
        | (refine AW.exit ?_; conv => whnf)
        | refine AW.cond (by rfl) ?_
        | (refine AW.draw (id := 21) (.p 0 (.p 1 (.p 2 (.p 4 (.p 7 (.p 8 (.p 9 (.p 11 (.p 12 (.p 13 (.p 14 (.p 18 (.p 19 (.p 20 (.p 21 (.p 23 (.p 24 (.p 25 (.p 26 (.p 29 (.p 30 (.p 31 (.p 32 (.p 34 (.r 3 [5, 6, 17, 38, 39] (.p 5 (.r 6 [17, 38, 39] (.r 10 [15, 16, 17, 38, 39] (.p 15 (.r 16 [17, 38, 39] (.p 17 (.r 22 [27, 28, 37, 38, 39] (.p 27 (.r 28 [37, 38, 39] (.r 33 [35, 36, 37, 38, 39] (.p 35 (.r 36 [37, 38, 39] (.p 37 (.p 38 (.p 39 .done)))))))))))))))))))))))))))))))))))))))) (by kernel_rfl) (by kernel_rfl) ?_; conv => whnf)
        | (refine (l1In_ok _ _ _ _).mono ?_; rintro v h' ⟨rfl, e'⟩; subst h'; conv => whnf)
        | (refine Br.tt ?_; conv => whnf)
        | (refine Br.ff ?_; conv => whnf)
        | refine Br.not ?_
        | (refine Br.t (beq_self_eq_true _) ?_; conv => whnf)
        | (refine Br.t (by assumption) ?_; conv => whnf)
        | (refine Br.f (by assumption) ?_; conv => whnf)
        | (refine Br.dt (by omega) ?_; conv => whnf)
        | (refine Br.df (by omega) ?_; conv => whnf)
        | (refine Br.it (by omega) ?_; conv => whnf)
        | (refine Br.if (by omega) ?_; conv => whnf)
        | (refine Br.nt (by omega) ?_; conv => whnf)
        | (refine Br.nf (by omega) ?_; conv => whnf)
        | (refine Br.dec (fun hc => ?_) (fun hc => ?_) <;> conv => whnf)
        | (refine Br.ieq (fun hc => ?_) (fun hc => ?_) <;> conv => whnf)
        | (refine Br.ine (fun hc => ?_) (fun hc => ?_) <;> conv => whnf)
        | (refine Br.mk (fun hc => ?_) (fun hc => ?_) <;> conv => whnf)
        | (refine Wr.i64 (by omega) ?_; conv => whnf)
        | (refine Ck.mk (by omega) ?_; conv => whnf)
        | (refine Wr.i64 (by simp only [List.length_drop, List.length_take, List.length_append, List.length_cons, List.length_nil]; omega) ?_; conv => whnf)
        | (refine Ck.mk (by simp only [List.length_drop, List.length_take, List.length_append, List.length_cons, List.length_nil]; omega) ?_; conv => whnf)
        | (refine Has.load1 (by first | assumption | exact St.has (by assumption) (by repeat first | exact .head _ | apply List.Mem.tail) | exact St.arg (by assumption) (by assumption)) ?_; conv => whnf)
        | (refine Has.loadZ (by first | assumption | exact St.has (by assumption) (by repeat first | exact .head _ | apply List.Mem.tail) | exact St.arg (by assumption) (by assumption)) rfl (by first | (simp; done) | omega | (simp only [List.length_set, List.length_append, List.length_cons, List.length_nil, List.length_replicate, tab_length]; omega) | (simp; omega)) ?_; conv => whnf)
        | (refine Ck.mk (by simp; omega) ?_; conv => whnf))
      rotate_left
      · exact ⟨by rw [isF_row hn hlt (by omega)], rfl⟩
      · have hlen : (f.getD r []).length = n := by omega
        refine AW.loop1 (fun (i : Nat) => [(0, .slice b 0 (n + 1) C), (3, .int .i64 (n : Int)), (4, .int .i64 r), (5, .int .i64 i)]) (fun i h'' => i ≤ n ∧ (∀ j, j < i → cellOk n r (ent f r j)) ∧ h'' = h') (fun i => n - i) 0 (Less.cons rfl (Less.cons rfl (Less.cons rfl (Less.cons rfl (Less.nil _))))) ⟨by omega, fun q hq => by omega, rfl⟩ ?_
        rintro i h'' ⟨hi, hcells, rfl⟩
        by_cases hlt2 : i < n
        · repeat' (first
            | (refine Grid.rowAt hb hR r rfl rfl (by omega) hlen ?_; conv => whnf)
            | (refine Grid.numAt hb hR r i rfl rfl (by omega) (by omega) ?_; conv => whnf)
            | refine AW.seq ?_
            | (refine AW.region ?_; conv => whnf)
            | refine AW.block ?_
            | (refine AW.skip ?_; conv => whnf)
            | (refine AW.ret ?_; conv => whnf)
            | (refine AW.exit ?_; conv => whnf)
            | refine AW.cond (by rfl) ?_
            | (refine AW.draw (id := 21) (.p 0 (.p 1 (.p 2 (.p 4 (.p 7 (.p 8 (.p 9 (.p 11 (.p 12 (.p 13 (.p 14 (.p 18 (.p 19 (.p 20 (.p 21 (.p 23 (.p 24 (.p 25 (.p 26 (.p 29 (.p 30 (.p 31 (.p 32 (.p 34 (.r 3 [5, 6, 17, 38, 39] (.p 5 (.r 6 [17, 38, 39] (.r 10 [15, 16, 17, 38, 39] (.p 15 (.r 16 [17, 38, 39] (.p 17 (.r 22 [27, 28, 37, 38, 39] (.p 27 (.r 28 [37, 38, 39] (.r 33 [35, 36, 37, 38, 39] (.p 35 (.r 36 [37, 38, 39] (.p 37 (.p 38 (.p 39 .done)))))))))))))))))))))))))))))))))))))))) (by kernel_rfl) (by kernel_rfl) ?_; conv => whnf)
            | (refine (l1In_ok _ _ _ _).mono ?_; rintro v h' ⟨rfl, e'⟩; subst h'; conv => whnf)
            | (refine Br.tt ?_; conv => whnf)
            | (refine Br.ff ?_; conv => whnf)
            | refine Br.not ?_
            | (refine Br.t (beq_self_eq_true _) ?_; conv => whnf)
            | (refine Br.t (by assumption) ?_; conv => whnf)
            | (refine Br.f (by assumption) ?_; conv => whnf)
            | (refine Br.dt (by omega) ?_; conv => whnf)
            | (refine Br.df (by omega) ?_; conv => whnf)
            | (refine Br.it (by omega) ?_; conv => whnf)
            | (refine Br.if (by omega) ?_; conv => whnf)
            | (refine Br.nt (by omega) ?_; conv => whnf)
            | (refine Br.nf (by omega) ?_; conv => whnf)
            | (refine Br.dec (fun hc => ?_) (fun hc => ?_) <;> conv => whnf)
            | (refine Br.ieq (fun hc => ?_) (fun hc => ?_) <;> conv => whnf)
            | (refine Br.ine (fun hc => ?_) (fun hc => ?_) <;> conv => whnf)
            | (refine Br.mk (fun hc => ?_) (fun hc => ?_) <;> conv => whnf)
            | (refine Wr.i64 (by omega) ?_; conv => whnf)
            | (refine Ck.mk (by omega) ?_; conv => whnf)
            | (refine Wr.i64 (by simp only [List.length_drop, List.length_take, List.length_append, List.length_cons, List.length_nil]; omega) ?_; conv => whnf)
            | (refine Ck.mk (by simp only [List.length_drop, List.length_take, List.length_append, List.length_cons, List.length_nil]; omega) ?_; conv => whnf)
            | (refine Has.load1 (by first | assumption | exact St.has (by assumption) (by repeat first | exact .head _ | apply List.Mem.tail) | exact St.arg (by assumption) (by assumption)) ?_; conv => whnf)
            | (refine Has.loadZ (by first | assumption | exact St.has (by assumption) (by repeat first | exact .head _ | apply List.Mem.tail) | exact St.arg (by assumption) (by assumption)) rfl (by first | (simp; done) | omega | (simp only [List.length_set, List.length_append, List.length_cons, List.length_nil, List.length_replicate, tab_length]; omega) | (simp; omega)) ?_; conv => whnf)
            | (refine Ck.mk (by simp; omega) ?_; conv => whnf))
          all_goals first
            | exact ⟨by rw [isF_cell hn hlt hlt2 (by unfold cellOk; omega)], rfl⟩
            | exact ⟨i + 1, (Less.cons rfl (Less.cons rfl (Less.cons rfl (Less.cons rfl (Less.nil _))))), ⟨by omega, fun j hj => by
                by_cases e : j = i
                · subst e; unfold cellOk; omega
                · exact hcells j (by omega), rfl⟩, by omega⟩
        · repeat' (first
            | refine AW.seq ?_
            | (refine AW.region ?_; conv => whnf)
            | refine AW.block ?_
            | (refine AW.skip ?_; conv => whnf)
            | (refine AW.ret ?_; conv => whnf)
            | (refine AW.exit ?_; conv => whnf)
            | refine AW.cond (by rfl) ?_
            | (refine AW.draw (id := 21) (.p 0 (.p 1 (.p 2 (.p 4 (.p 7 (.p 8 (.p 9 (.p 11 (.p 12 (.p 13 (.p 14 (.p 18 (.p 19 (.p 20 (.p 21 (.p 23 (.p 24 (.p 25 (.p 26 (.p 29 (.p 30 (.p 31 (.p 32 (.p 34 (.r 3 [5, 6, 17, 38, 39] (.p 5 (.r 6 [17, 38, 39] (.r 10 [15, 16, 17, 38, 39] (.p 15 (.r 16 [17, 38, 39] (.p 17 (.r 22 [27, 28, 37, 38, 39] (.p 27 (.r 28 [37, 38, 39] (.r 33 [35, 36, 37, 38, 39] (.p 35 (.r 36 [37, 38, 39] (.p 37 (.p 38 (.p 39 .done)))))))))))))))))))))))))))))))))))))))) (by kernel_rfl) (by kernel_rfl) ?_; conv => whnf)
            | (refine (l1In_ok _ _ _ _).mono ?_; rintro v h' ⟨rfl, e'⟩; subst h'; conv => whnf)
            | (refine Br.tt ?_; conv => whnf)
            | (refine Br.ff ?_; conv => whnf)
            | refine Br.not ?_
            | (refine Br.t (beq_self_eq_true _) ?_; conv => whnf)
            | (refine Br.t (by assumption) ?_; conv => whnf)
            | (refine Br.f (by assumption) ?_; conv => whnf)
            | (refine Br.dt (by omega) ?_; conv => whnf)
            | (refine Br.df (by omega) ?_; conv => whnf)
            | (refine Br.it (by omega) ?_; conv => whnf)
            | (refine Br.if (by omega) ?_; conv => whnf)
            | (refine Br.nt (by omega) ?_; conv => whnf)
            | (refine Br.nf (by omega) ?_; conv => whnf)
            | (refine Br.dec (fun hc => ?_) (fun hc => ?_) <;> conv => whnf)
            | (refine Br.ieq (fun hc => ?_) (fun hc => ?_) <;> conv => whnf)
            | (refine Br.ine (fun hc => ?_) (fun hc => ?_) <;> conv => whnf)
            | (refine Br.mk (fun hc => ?_) (fun hc => ?_) <;> conv => whnf)
            | (refine Wr.i64 (by omega) ?_; conv => whnf)
            | (refine Ck.mk (by omega) ?_; conv => whnf)
            | (refine Wr.i64 (by simp only [List.length_drop, List.length_take, List.length_append, List.length_cons, List.length_nil]; omega) ?_; conv => whnf)
            | (refine Ck.mk (by simp only [List.length_drop, List.length_take, List.length_append, List.length_cons, List.length_nil]; omega) ?_; conv => whnf)
            | (refine Has.load1 (by first | assumption | exact St.has (by assumption) (by repeat first | exact .head _ | apply List.Mem.tail) | exact St.arg (by assumption) (by assumption)) ?_; conv => whnf)
            | (refine Has.loadZ (by first | assumption | exact St.has (by assumption) (by repeat first | exact .head _ | apply List.Mem.tail) | exact St.arg (by assumption) (by assumption)) rfl (by first | (simp; done) | omega | (simp only [List.length_set, List.length_append, List.length_cons, List.length_nil, List.length_replicate, tab_length]; omega) | (simp; omega)) ?_; conv => whnf)
            | (refine Ck.mk (by simp; omega) ?_; conv => whnf))
          refine ⟨r + 1, (Less.cons rfl (Less.cons rfl (Less.cons rfl (Less.nil _)))), ⟨by omega, fun q hq => ?_, rfl⟩, by omega⟩
          by_cases e : q = r
          · subst e
            exact ⟨by omega, fun j hj => hcells j (by omega)⟩
          · exact hrows q (by omega)
    · repeat' (first
        | refine AW.seq ?_
        | (refine AW.region ?_; conv => whnf)
        | refine AW.block ?_
        | (refine AW.skip ?_; conv => whnf)
        | (refine AW.ret ?_; conv => whnf)
        | (refine AW.exit ?_; conv => whnf)
        | refine AW.cond (by rfl) ?_
        | (refine AW.draw (id := 21) (.p 0 (.p 1 (.p 2 (.p 4 (.p 7 (.p 8 (.p 9 (.p 11 (.p 12 (.p 13 (.p 14 (.p 18 (.p 19 (.p 20 (.p 21 (.p 23 (.p 24 (.p 25 (.p 26 (.p 29 (.p 30 (.p 31 (.p 32 (.p 34 (.r 3 [5, 6, 17, 38, 39] (.p 5 (.r 6 [17, 38, 39] (.r 10 [15, 16, 17, 38, 39] (.p 15 (.r 16 [17, 38, 39] (.p 17 (.r 22 [27, 28, 37, 38, 39] (.p 27 (.r 28 [37, 38, 39] (.r 33 [35, 36, 37, 38, 39] (.p 35 (.r 36 [37, 38, 39] (.p 37 (.p 38 (.p 39 .done)))))))))))))))))))))))))))))))))))))))) (by kernel_rfl) (by kernel_rfl) ?_; conv => whnf)
        | (refine (l1In_ok _ _ _ _).mono ?_; rintro v h' ⟨rfl, e'⟩; subst h'; conv => whnf)
        | (refine Br.tt ?_; conv => whnf)
        | (refine Br.ff ?_; conv => whnf)
        | refine Br.not ?_
        | (refine Br.t (beq_self_eq_true _) ?_; conv => whnf)
        | (refine Br.t (by assumption) ?_; conv => whnf)
        | (refine Br.f (by assumption) ?_; conv => whnf)
        | (refine Br.dt (by omega) ?_; conv => whnf)
        | (refine Br.df (by omega) ?_; conv => whnf)
        | (refine Br.it (by omega) ?_; conv => whnf)
        | (refine Br.if (by omega) ?_; conv => whnf)
        | (refine Br.nt (by omega) ?_; conv => whnf)
        | (refine Br.nf (by omega) ?_; conv => whnf)
        | (refine Br.dec (fun hc => ?_) (fun hc => ?_) <;> conv => whnf)
        | (refine Br.ieq (fun hc => ?_) (fun hc => ?_) <;> conv => whnf)
        | (refine Br.ine (fun hc => ?_) (fun hc => ?_) <;> conv => whnf)
        | (refine Br.mk (fun hc => ?_) (fun hc => ?_) <;> conv => whnf)
        | (refine Wr.i64 (by omega) ?_; conv => whnf)
        | (refine Ck.mk (by omega) ?_; conv => whnf)
        | (refine Wr.i64 (by simp only [List.length_drop, List.length_take, List.length_append, List.length_cons, List.length_nil]; omega) ?_; conv => whnf)
        | (refine Ck.mk (by simp only [List.length_drop, List.length_take, List.length_append, List.length_cons, List.length_nil]; omega) ?_; conv => whnf)
        | (refine Has.load1 (by first | assumption | exact St.has (by assumption) (by repeat first | exact .head _ | apply List.Mem.tail) | exact St.arg (by assumption) (by assumption)) ?_; conv => whnf)
        | (refine Has.loadZ (by first | assumption | exact St.has (by assumption) (by repeat first | exact .head _ | apply List.Mem.tail) | exact St.arg (by assumption) (by assumption)) rfl (by first | (simp; done) | omega | (simp only [List.length_set, List.length_append, List.length_cons, List.length_nil, List.length_replicate, tab_length]; omega) | (simp; omega)) ?_; conv => whnf)
        | (refine Ck.mk (by simp; omega) ?_; conv => whnf))
      have hall : ∀ q, q < n + 1 → rowOk f n q := fun q hq => hrows q (by omega)
      refine AW.loop1 (fun (q : Nat) => [(0, .slice b 0 (n + 1) C), (3, .int .i64 (n : Int)), (7, .int .i64 ((q + 1 : Nat) : Int))]) (fun q h'' => q + 1 ≤ n ∧ (∀ p, p < q → ∀ i, i < n → ruleOk f n p i) ∧ h'' = h') (fun q => n - q) 0 (Less.cons rfl (Less.cons rfl (Less.cons rfl (Less.nil _)))) ⟨by omega, fun q hq => by omega, rfl⟩ ?_
      rintro q h'' ⟨hq, hrules, rfl⟩
      by_cases hlt3 : q + 1 < n
      · repeat' (first
          | refine AW.seq ?_
          | (refine AW.region ?_; conv => whnf)
          | refine AW.block ?_
          | (refine AW.skip ?_; conv => whnf)
          | (refine AW.ret ?_; conv => whnf)
          | (refine AW.exit ?_; conv => whnf)
          | refine AW.cond (by rfl) ?_
          | (refine AW.draw (id := 21) (.p 0 (.p 1 (.p 2 (.p 4 (.p 7 (.p 8 (.p 9 (.p 11 (.p 12 (.p 13 (.p 14 (.p 18 (.p 19 (.p 20 (.p 21 (.p 23 (.p 24 (.p 25 (.p 26 (.p 29 (.p 30 (.p 31 (.p 32 (.p 34 (.r 3 [5, 6, 17, 38, 39] (.p 5 (.r 6 [17, 38, 39] (.r 10 [15, 16, 17, 38, 39] (.p 15 (.r 16 [17, 38, 39] (.p 17 (.r 22 [27, 28, 37, 38, 39] (.p 27 (.r 28 [37, 38, 39] (.r 33 [35, 36, 37, 38, 39] (.p 35 (.r 36 [37, 38, 39] (.p 37 (.p 38 (.p 39 .done)))))))))))))))))))))))))))))))))))))))) (by kernel_rfl) (by kernel_rfl) ?_; conv => whnf)
          | (refine (l1In_ok _ _ _ _).mono ?_; rintro v h' ⟨rfl, e'⟩; subst h'; conv => whnf)
          | (refine Br.tt ?_; conv => whnf)
          | (refine Br.ff ?_; conv => whnf)
          | refine Br.not ?_
          | (refine Br.t (beq_self_eq_true _) ?_; conv => whnf)
          | (refine Br.t (by assumption) ?_; conv => whnf)
          | (refine Br.f (by assumption) ?_; conv => whnf)
          | (refine Br.dt (by omega) ?_; conv => whnf)
          | (refine Br.df (by omega) ?_; conv => whnf)
          | (refine Br.it (by omega) ?_; conv => whnf)
          | (refine Br.if (by omega) ?_; conv => whnf)
          | (refine Br.nt (by omega) ?_; conv => whnf)
          | (refine Br.nf (by omega) ?_; conv => whnf)
          | (refine Br.dec (fun hc => ?_) (fun hc => ?_) <;> conv => whnf)
          | (refine Br.ieq (fun hc => ?_) (fun hc => ?_) <;> conv => whnf)
          | (refine Br.ine (fun hc => ?_) (fun hc => ?_) <;> conv => whnf)
          | (refine Br.mk (fun hc => ?_) (fun hc => ?_) <;> conv => whnf)
          | (refine Wr.i64 (by omega) ?_; conv => whnf)
          | (refine Ck.mk (by omega) ?_; conv => whnf)
          | (refine Wr.i64 (by simp only [List.length_drop, List.length_take, List.length_append, List.length_cons, List.length_nil]; omega) ?_; conv => whnf)
          | (refine Ck.mk (by simp only [List.length_drop, List.length_take, List.length_append, List.length_cons, List.length_nil]; omega) ?_; conv => whnf)
          | (refine Has.load1 (by first | assumption | exact St.has (by assumption) (by repeat first | exact .head _ | apply List.Mem.tail) | exact St.arg (by assumption) (by assumption)) ?_; conv => whnf)
          | (refine Has.loadZ (by first | assumption | exact St.has (by assumption) (by repeat first | exact .head _ | apply List.Mem.tail) | exact St.arg (by assumption) (by assumption)) rfl (by first | (simp; done) | omega | (simp only [List.length_set, List.length_append, List.length_cons, List.length_nil, List.length_replicate, tab_length]; omega) | (simp; omega)) ?_; conv => whnf)
          | (refine Ck.mk (by simp; omega) ?_; conv => whnf))
        refine AW.loop1 (fun (i : Nat) => [(0, .slice b 0 (n + 1) C), (3, .int .i64 (n : Int)), (7, .int .i64 ((q + 1 : Nat) : Int)), (8, .int .i64 i)]) (fun i h' => i ≤ n ∧ (∀ j, j < i → ruleOk f n q j) ∧ h' = h'') (fun i => n - i) 0 (Less.cons rfl (Less.cons rfl (Less.cons rfl (Less.cons rfl (Less.nil _))))) ⟨by omega, fun q hq => by omega, rfl⟩ ?_
        rintro i h' ⟨hi, hrule, rfl⟩
        by_cases hlt2 : i < n
        · have htm : ((i : Int) + 1).tmod (n : Int) = (((i + 1) % n : Nat) : Int) := rfl
          have hk : (i + 1) % n < n := Nat.mod_lt _ (by omega)
          have q0 := hall q (by omega)
          have q1 := hall (q + 1) (by omega)
          have q2 := hall (q + 2) (by omega)
          have b1 := prod_bd (cell_bd (q1.2 i hlt2)) (cell_bd (q1.2 _ hk))
          have b2 := prod_bd (cell_bd (q0.2 _ hk)) (cell_bd (q2.2 i hlt2))
          have l0 := q0.1
          have l1 := q1.1
          have l2 := q2.1
          repeat' (first
            | (refine Grid.rowAt hb hR (q + 1) rfl (by omega) (by omega) l1 ?_; conv => whnf)
            | (refine Grid.rowAt hb hR q rfl (by omega) (by omega) l0 ?_; conv => whnf)
            | (refine Grid.rowAt hb hR (q + 2) rfl (by omega) (by omega) l2 ?_; conv => whnf)
            | (refine Grid.numAt hb hR (q + 1) i rfl (by omega) (by omega) (by omega) ?_; conv => whnf)
            | (refine Grid.numAt hb hR (q + 1) ((i + 1) % n) rfl (by omega) (by omega) (by omega) ?_; conv => whnf)
            | (refine Grid.numAt hb hR q ((i + 1) % n) rfl (by omega) (by omega) (by omega) ?_; conv => whnf)
            | (refine Grid.numAt hb hR (q + 2) i rfl (by omega) (by omega) (by omega) ?_; conv => whnf)
            | refine AW.seq ?_
            | (refine AW.region ?_; conv => whnf)
            | refine AW.block ?_
            | (refine AW.skip ?_; conv => whnf)
            | (refine AW.ret ?_; conv => whnf)
            | (refine AW.exit ?_; conv => whnf)
            | refine AW.cond (by rfl) ?_
            | (refine AW.draw (id := 21) (.p 0 (.p 1 (.p 2 (.p 4 (.p 7 (.p 8 (.p 9 (.p 11 (.p 12 (.p 13 (.p 14 (.p 18 (.p 19 (.p 20 (.p 21 (.p 23 (.p 24 (.p 25 (.p 26 (.p 29 (.p 30 (.p 31 (.p 32 (.p 34 (.r 3 [5, 6, 17, 38, 39] (.p 5 (.r 6 [17, 38, 39] (.r 10 [15, 16, 17, 38, 39] (.p 15 (.r 16 [17, 38, 39] (.p 17 (.r 22 [27, 28, 37, 38, 39] (.p 27 (.r 28 [37, 38, 39] (.r 33 [35, 36, 37, 38, 39] (.p 35 (.r 36 [37, 38, 39] (.p 37 (.p 38 (.p 39 .done)))))))))))))))))))))))))))))))))))))))) (by kernel_rfl) (by kernel_rfl) ?_; conv => whnf)
            | (refine (l1In_ok _ _ _ _).mono ?_; rintro v h' ⟨rfl, e'⟩; subst h'; conv => whnf)
            | (refine Br.tt ?_; conv => whnf)
            | (refine Br.ff ?_; conv => whnf)
            | refine Br.not ?_
            | (refine Br.t (beq_self_eq_true _) ?_; conv => whnf)
            | (refine Br.t (by assumption) ?_; conv => whnf)
            | (refine Br.f (by assumption) ?_; conv => whnf)
            | (refine Br.dt (by omega) ?_; conv => whnf)
            | (refine Br.df (by omega) ?_; conv => whnf)
            | (refine Br.it (by omega) ?_; conv => whnf)
            | (refine Br.if (by omega) ?_; conv => whnf)
            | (refine Br.nt (by omega) ?_; conv => whnf)
            | (refine Br.nf (by omega) ?_; conv => whnf)
            | (refine Br.dec (fun hc => ?_) (fun hc => ?_) <;> conv => whnf)
            | (refine Br.ieq (fun hc => ?_) (fun hc => ?_) <;> conv => whnf)
            | (refine Br.ine (fun hc => ?_) (fun hc => ?_) <;> conv => whnf)
            | (refine Br.mk (fun hc => ?_) (fun hc => ?_) <;> conv => whnf)
            | (refine Wr.i64 (by omega) ?_; conv => whnf)
            | (refine Ck.mk (by omega) ?_; conv => whnf)
            | (refine Wr.i64 (by simp only [List.length_drop, List.length_take, List.length_append, List.length_cons, List.length_nil]; omega) ?_; conv => whnf)
            | (refine Ck.mk (by simp only [List.length_drop, List.length_take, List.length_append, List.length_cons, List.length_nil]; omega) ?_; conv => whnf)
            | (refine Has.load1 (by first | assumption | exact St.has (by assumption) (by repeat first | exact .head _ | apply List.Mem.tail) | exact St.arg (by assumption) (by assumption)) ?_; conv => whnf)
            | (refine Has.loadZ (by first | assumption | exact St.has (by assumption) (by repeat first | exact .head _ | apply List.Mem.tail) | exact St.arg (by assumption) (by assumption)) rfl (by first | (simp; done) | omega | (simp only [List.length_set, List.length_append, List.length_cons, List.length_nil, List.length_replicate, tab_length]; omega) | (simp; omega)) ?_; conv => whnf)
            | (refine Ck.mk (by simp; omega) ?_; conv => whnf))
          all_goals first
            | exact ⟨by rw [isF_rule (r := q) hn (by omega) hlt2 (by unfold ruleOk; omega)], rfl⟩
            | exact ⟨i + 1, (Less.cons rfl (Less.cons rfl (Less.cons rfl (Less.cons rfl (Less.nil _))))), ⟨by omega, fun j hj => by
                by_cases e : j = i
                · subst e; unfold ruleOk; omega
                · exact hrule j (by omega), rfl⟩, by omega⟩
        · repeat' (first
            | refine AW.seq ?_
            | (refine AW.region ?_; conv => whnf)
            | refine AW.block ?_
            | (refine AW.skip ?_; conv => whnf)
            | (refine AW.ret ?_; conv => whnf)
            | (refine AW.exit ?_; conv => whnf)
            | refine AW.cond (by rfl) ?_
            | (refine AW.draw (id := 21) (.p 0 (.p 1 (.p 2 (.p 4 (.p 7 (.p 8 (.p 9 (.p 11 (.p 12 (.p 13 (.p 14 (.p 18 (.p 19 (.p 20 (.p 21 (.p 23 (.p 24 (.p 25 (.p 26 (.p 29 (.p 30 (.p 31 (.p 32 (.p 34 (.r 3 [5, 6, 17, 38, 39] (.p 5 (.r 6 [17, 38, 39] (.r 10 [15, 16, 17, 38, 39] (.p 15 (.r 16 [17, 38, 39] (.p 17 (.r 22 [27, 28, 37, 38, 39] (.p 27 (.r 28 [37, 38, 39] (.r 33 [35, 36, 37, 38, 39] (.p 35 (.r 36 [37, 38, 39] (.p 37 (.p 38 (.p 39 .done)))))))))))))))))))))))))))))))))))))))) (by kernel_rfl) (by kernel_rfl) ?_; conv => whnf)
            | (refine (l1In_ok _ _ _ _).mono ?_; rintro v h' ⟨rfl, e'⟩; subst h'; conv => whnf)
            | (refine Br.tt ?_; conv => whnf)
            | (refine Br.ff ?_; conv => whnf)
            | refine Br.not ?_
            | (refine Br.t (beq_self_eq_true _) ?_; conv => whnf)
            | (refine Br.t (by assumption) ?_; conv => whnf)
            | (refine Br.f (by assumption) ?_; conv => whnf)
            | (refine Br.dt (by omega) ?_; conv => whnf)
            | (refine Br.df (by omega) ?_; conv => whnf)
            | (refine Br.it (by omega) ?_; conv => whnf)
            | (refine Br.if (by omega) ?_; conv => whnf)
            | (refine Br.nt (by omega) ?_; conv => whnf)
            | (refine Br.nf (by omega) ?_; conv => whnf)
            | (refine Br.dec (fun hc => ?_) (fun hc => ?_) <;> conv => whnf)
            | (refine Br.ieq (fun hc => ?_) (fun hc => ?_) <;> conv => whnf)
            | (refine Br.ine (fun hc => ?_) (fun hc => ?_) <;> conv => whnf)
            | (refine Br.mk (fun hc => ?_) (fun hc => ?_) <;> conv => whnf)
            | (refine Wr.i64 (by omega) ?_; conv => whnf)
            | (refine Ck.mk (by omega) ?_; conv => whnf)
            | (refine Wr.i64 (by simp only [List.length_drop, List.length_take, List.length_append, List.length_cons, List.length_nil]; omega) ?_; conv => whnf)
            | (refine Ck.mk (by simp only [List.length_drop, List.length_take, List.length_append, List.length_cons, List.length_nil]; omega) ?_; conv => whnf)
            | (refine Has.load1 (by first | assumption | exact St.has (by assumption) (by repeat first | exact .head _ | apply List.Mem.tail) | exact St.arg (by assumption) (by assumption)) ?_; conv => whnf)
            | (refine Has.loadZ (by first | assumption | exact St.has (by assumption) (by repeat first | exact .head _ | apply List.Mem.tail) | exact St.arg (by assumption) (by assumption)) rfl (by first | (simp; done) | omega | (simp only [List.length_set, List.length_append, List.length_cons, List.length_nil, List.length_replicate, tab_length]; omega) | (simp; omega)) ?_; conv => whnf)
            | (refine Ck.mk (by simp; omega) ?_; conv => whnf))
          refine ⟨q + 1, (Less.cons rfl (Less.cons rfl (Less.cons rfl (Less.nil _)))), ⟨by omega, fun p hp => ?_, rfl⟩, by omega⟩
          by_cases e : p = q
          · subst e
            exact fun j hj => hrule j (by omega)
          · exact hrules p (by omega)
      · repeat' (first
          | refine AW.seq ?_
          | (refine AW.region ?_; conv => whnf)
          | refine AW.block ?_
          | (refine AW.skip ?_; conv => whnf)
          | (refine AW.ret ?_; conv => whnf)
          | (refine AW.exit ?_; conv => whnf)
          | refine AW.cond (by rfl) ?_
          | (refine AW.draw (id := 21) (.p 0 (.p 1 (.p 2 (.p 4 (.p 7 (.p 8 (.p 9 (.p 11 (.p 12 (.p 13 (.p 14 (.p 18 (.p 19 (.p 20 (.p 21 (.p 23 (.p 24 (.p 25 (.p 26 (.p 29 (.p 30 (.p 31 (.p 32 (.p 34 (.r 3 [5, 6, 17, 38, 39] (.p 5 (.r 6 [17, 38, 39] (.r 10 [15, 16, 17, 38, 39] (.p 15 (.r 16 [17, 38, 39] (.p 17 (.r 22 [27, 28, 37, 38, 39] (.p 27 (.r 28 [37, 38, 39] (.r 33 [35, 36, 37, 38, 39] (.p 35 (.r 36 [37, 38, 39] (.p 37 (.p 38 (.p 39 .done)))))))))))))))))))))))))))))))))))))))) (by kernel_rfl) (by kernel_rfl) ?_; conv => whnf)
          | (refine (l1In_ok _ _ _ _).mono ?_; rintro v h' ⟨rfl, e'⟩; subst h'; conv => whnf)
          | (refine Br.tt ?_; conv => whnf)
          | (refine Br.ff ?_; conv => whnf)
          | refine Br.not ?_
          | (refine Br.t (beq_self_eq_true _) ?_; conv => whnf)
          | (refine Br.t (by assumption) ?_; conv => whnf)
          | (refine Br.f (by assumption) ?_; conv => whnf)
          | (refine Br.dt (by omega) ?_; conv => whnf)
          | (refine Br.df (by omega) ?_; conv => whnf)
          | (refine Br.it (by omega) ?_; conv => whnf)
          | (refine Br.if (by omega) ?_; conv => whnf)
          | (refine Br.nt (by omega) ?_; conv => whnf)
          | (refine Br.nf (by omega) ?_; conv => whnf)
          | (refine Br.dec (fun hc => ?_) (fun hc => ?_) <;> conv => whnf)
          | (refine Br.ieq (fun hc => ?_) (fun hc => ?_) <;> conv => whnf)
          | (refine Br.ine (fun hc => ?_) (fun hc => ?_) <;> conv => whnf)
          | (refine Br.mk (fun hc => ?_) (fun hc => ?_) <;> conv => whnf)
          | (refine Wr.i64 (by omega) ?_; conv => whnf)
          | (refine Ck.mk (by omega) ?_; conv => whnf)
          | (refine Wr.i64 (by simp only [List.length_drop, List.length_take, List.length_append, List.length_cons, List.length_nil]; omega) ?_; conv => whnf)
          | (refine Ck.mk (by simp only [List.length_drop, List.length_take, List.length_append, List.length_cons, List.length_nil]; omega) ?_; conv => whnf)
          | (refine Has.load1 (by first | assumption | exact St.has (by assumption) (by repeat first | exact .head _ | apply List.Mem.tail) | exact St.arg (by assumption) (by assumption)) ?_; conv => whnf)
          | (refine Has.loadZ (by first | assumption | exact St.has (by assumption) (by repeat first | exact .head _ | apply List.Mem.tail) | exact St.arg (by assumption) (by assumption)) rfl (by first | (simp; done) | omega | (simp only [List.length_set, List.length_append, List.length_cons, List.length_nil, List.length_replicate, tab_length]; omega) | (simp; omega)) ?_; conv => whnf)
          | (refine Ck.mk (by simp; omega) ?_; conv => whnf))
        exact ⟨by rw [isF_yes hn (by omega) hall fun p hp => hrules p (by omega)], rfl⟩
  · refine AC.enter Try.func59 Try.call59 rfl Try.ntmps59 (of_decide_eq_true (by rfl)) ?_
    repeat' (first
      | refine AW.seq ?_
      | (refine AW.region ?_; conv => whnf)
      | refine AW.block ?_
      | (refine AW.skip ?_; conv => whnf)
      | (refine AW.ret ?_; conv => whnf)
      | (refine AW.exit ?_; conv => whnf)
      | refine AW.cond (by rfl) ?_
      | (refine AW.draw (id := 21) (.p 0 (.p 1 (.p 2 (.p 4 (.p 7 (.p 8 (.p 9 (.p 11 (.p 12 (.p 13 (.p 14 (.p 18 (.p 19 (.p 20 (.p 21 (.p 23 (.p 24 (.p 25 (.p 26 (.p 29 (.p 30 (.p 31 (.p 32 (.p 34 (.r 3 [5, 6, 17, 38, 39] (.p 5 (.r 6 [17, 38, 39] (.r 10 [15, 16, 17, 38, 39] (.p 15 (.r 16 [17, 38, 39] (.p 17 (.r 22 [27, 28, 37, 38, 39] (.p 27 (.r 28 [37, 38, 39] (.r 33 [35, 36, 37, 38, 39] (.p 35 (.r 36 [37, 38, 39] (.p 37 (.p 38 (.p 39 .done)))))))))))))))))))))))))))))))))))))))) (by kernel_rfl) (by kernel_rfl) ?_; conv => whnf)
      | (refine (l1In_ok _ _ _ _).mono ?_; rintro v h' ⟨rfl, e'⟩; subst h'; conv => whnf)
      | (refine Br.tt ?_; conv => whnf)
      | (refine Br.ff ?_; conv => whnf)
      | refine Br.not ?_
      | (refine Br.t (beq_self_eq_true _) ?_; conv => whnf)
      | (refine Br.t (by assumption) ?_; conv => whnf)
      | (refine Br.f (by assumption) ?_; conv => whnf)
      | (refine Br.dt (by omega) ?_; conv => whnf)
      | (refine Br.df (by omega) ?_; conv => whnf)
      | (refine Br.it (by omega) ?_; conv => whnf)
      | (refine Br.if (by omega) ?_; conv => whnf)
      | (refine Br.nt (by omega) ?_; conv => whnf)
      | (refine Br.nf (by omega) ?_; conv => whnf)
      | (refine Br.dec (fun hc => ?_) (fun hc => ?_) <;> conv => whnf)
      | (refine Br.ieq (fun hc => ?_) (fun hc => ?_) <;> conv => whnf)
      | (refine Br.ine (fun hc => ?_) (fun hc => ?_) <;> conv => whnf)
      | (refine Br.mk (fun hc => ?_) (fun hc => ?_) <;> conv => whnf)
      | (refine Wr.i64 (by omega) ?_; conv => whnf)
      | (refine Ck.mk (by omega) ?_; conv => whnf)
      | (refine Wr.i64 (by simp only [List.length_drop, List.length_take, List.length_append, List.length_cons, List.length_nil]; omega) ?_; conv => whnf)
      | (refine Ck.mk (by simp only [List.length_drop, List.length_take, List.length_append, List.length_cons, List.length_nil]; omega) ?_; conv => whnf)
      | (refine Has.load1 (by first | assumption | exact St.has (by assumption) (by repeat first | exact .head _ | apply List.Mem.tail) | exact St.arg (by assumption) (by assumption)) ?_; conv => whnf)
      | (refine Has.loadZ (by first | assumption | exact St.has (by assumption) (by repeat first | exact .head _ | apply List.Mem.tail) | exact St.arg (by assumption) (by assumption)) rfl (by first | (simp; done) | omega | (simp only [List.length_set, List.length_append, List.length_cons, List.length_nil, List.length_replicate, tab_length]; omega) | (simp; omega)) ?_; conv => whnf)
      | (refine Ck.mk (by simp; omega) ?_; conv => whnf))
    all_goals exact ⟨by rw [isF_size (by omega)], rfl⟩

/-! sums -/
def sumTo (g : Nat → Int) : Nat → Int
  | 0 => 0
  | k + 1 => sumTo g k + g k
theorem sumTo_bd {g : Nat → Int} {m : Nat} {M : Int} (h : ∀ i, i < m → 0 ≤ g i ∧ g i ≤ M) : ∀ k, k ≤ m → 0 ≤ sumTo g k ∧ sumTo g k ≤ M * k := by
  intro k
  induction k with
  | zero => intro _; simp [sumTo]
  | succ k ih =>
    intro hk
    have := ih (by omega)
    have := h k (by omega)
    have e : M * ((k + 1 : Nat) : Int) = M * k + M := by rw [Int.natCast_add, Int.mul_add]; simp
    rw [sumTo, e]
    omega
def sumF (f : List (List Int)) : Int := if isF f then sumTo (fun q => sumTo (ent f q) (f.length - 1)) f.length else -1
theorem isF_len {f : List (List Int)} {n r : Nat} (h : isF f = true) (hn : f.length = n + 1) (hr : r < n + 1) : (f.getD r []).length = n := by
  have := ((isF_spec h).2.1 r (by omega)).1
  omega
theorem isF_bd {f : List (List Int)} {n r i : Nat} (h : isF f = true) (hn : f.length = n + 1) (hr : r < n + 1) (hi : i < n) : 0 ≤ ent f r i ∧ ent f r i ≤ 100000 :=
  cell_bd (((isF_spec h).2.1 r (by omega)).2 i (by omega))
theorem isF_in {f : List (List Int)} {n r : Nat} (h : isF f = true) (hn : f.length = n + 1) (hr : r < n + 1) : ∀ k, k ≤ n → 0 ≤ sumTo (ent f r) k ∧ sumTo (ent f r) k ≤ 1000000 := fun k hk => by
  have := sumTo_bd (g := ent f r) (m := n) (M := 100000) (fun i hi => isF_bd h hn hr hi) k hk
  have := (isF_spec h).1
  omega
theorem isF_out {f : List (List Int)} {n : Nat} (h : isF f = true) (hn : f.length = n + 1) : ∀ k, k ≤ n + 1 → 0 ≤ sumTo (fun q => sumTo (ent f q) n) k ∧ sumTo (fun q => sumTo (ent f q) n) k ≤ 11000000 := fun k hk => by
  have := sumTo_bd (g := fun q => sumTo (ent f q) n) (m := n + 1) (M := 1000000) (fun i hi => isF_in h hn hi n (Nat.le_refl _)) k hk
  have := (isF_spec h).1
  omega





end Go.Proofs.Ytcepogfmajlcjaa

/-
  Contracts of the order of rows are proved.
  They hold for all rows.
-/
set_option linter.unusedVariables false
set_option linter.unusedSimpArgs false
namespace Go.Proofs.Ytcepogfmajlcjaa
open Go.Proofs.Ytcepogfmajlcjaa.Ab Go.Proofs.Ytcepogfmajlcjaa.Pl

def cmpI (x y : Int) : Int := if x < y then -1 else if y < x then 1 else 0
/-- the order of rows -/
def cmpL : List Int → List Int → Int
  | [], [] => 0
  | [], _ :: _ => -1
  | _ :: _, [] => 1
  | x :: l, y :: m => if x < y then -1 else if y < x then 1 else cmpL l m

theorem isNaN_ok (x : Int) (h0 : H) : AC env 113 [.int .i64 x] h0 fun v h' => v = .bool false ∧ h' = h0 := by
  refine AC.enter Try.func113 Try.call113 rfl Try.ntmps113 (of_decide_eq_true (by rfl)) ?_
  repeat' (first
    | refine AW.seq ?_
    | (refine AW.region ?_; conv => whnf)
    | refine AW.block ?_
    | (refine AW.skip ?_; conv => whnf)
    | (refine AW.ret ?_; conv => whnf)
    | (refine AW.exit ?_; conv => whnf)
    | refine AW.cond (by rfl) ?_
    | (refine Br.tt ?_; conv => whnf)
    | (refine Br.ff ?_; conv => whnf)
    | refine Br.not ?_
    | (refine Br.t (beq_self_eq_true _) ?_; conv => whnf)
    | (refine Br.t (by assumption) ?_; conv => whnf)
    | (refine Br.f (by assumption) ?_; conv => whnf)
    | (refine Br.dt (by omega) ?_; conv => whnf)
    | (refine Br.df (by omega) ?_; conv => whnf)
    | (refine Br.it (by omega) ?_; conv => whnf)
    | (refine Br.if (by omega) ?_; conv => whnf)
    | (refine Br.nt (by omega) ?_; conv => whnf)
    | (refine Br.nf (by omega) ?_; conv => whnf)
    | (refine Br.dec (fun hc => ?_) (fun hc => ?_) <;> conv => whnf)
    | (refine Br.ieq (fun hc => ?_) (fun hc => ?_) <;> conv => whnf)
    | (refine Br.ine (fun hc => ?_) (fun hc => ?_) <;> conv => whnf)
    | (refine Br.mk (fun hc => ?_) (fun hc => ?_) <;> conv => whnf)
    | (refine Wr.i64 (by omega) ?_; conv => whnf)
    | (refine Ck.mk (by omega) ?_; conv => whnf)
    | (refine Wr.i64 (by simp only [List.length_drop, List.length_take, List.length_append, List.length_cons, List.length_nil]; omega) ?_; conv => whnf)
    | (refine Ck.mk (by simp only [List.length_drop, List.length_take, List.length_append, List.length_cons, List.length_nil]; omega) ?_; conv => whnf)
    | (refine Ck.mk (by simp; omega) ?_; conv => whnf))
  all_goals first
    | exact ⟨rfl, rfl⟩
    | exact ⟨by simp, rfl⟩
theorem cmpI_ok (x y : Int) (h0 : H) : AC env 89 [.int .i64 x, .int .i64 y] h0 fun v h' => v = .int .i64 (cmpI x y) ∧ h' = h0 := by
  refine AC.enter Try.func89 Try.call89 rfl Try.ntmps89 (of_decide_eq_true (by rfl)) ?_
  repeat' (first
    | refine AW.seq ?_
    | (refine AW.region ?_; conv => whnf)
    | refine AW.block ?_
    | (refine AW.skip ?_; conv => whnf)
    | (refine AW.ret ?_; conv => whnf)
    | (refine AW.exit ?_; conv => whnf)
    | refine AW.cond (by rfl) ?_
    | (refine (isNaN_ok _ _).mono ?_; rintro v h' ⟨rfl, e'⟩; subst h'; conv => whnf)
    | (refine Br.tt ?_; conv => whnf)
    | (refine Br.ff ?_; conv => whnf)
    | refine Br.not ?_
    | (refine Br.t (beq_self_eq_true _) ?_; conv => whnf)
    | (refine Br.t (by assumption) ?_; conv => whnf)
    | (refine Br.f (by assumption) ?_; conv => whnf)
    | (refine Br.dt (by omega) ?_; conv => whnf)
    | (refine Br.df (by omega) ?_; conv => whnf)
    | (refine Br.it (by omega) ?_; conv => whnf)
    | (refine Br.if (by omega) ?_; conv => whnf)
    | (refine Br.nt (by omega) ?_; conv => whnf)
    | (refine Br.nf (by omega) ?_; conv => whnf)
    | (refine Br.dec (fun hc => ?_) (fun hc => ?_) <;> conv => whnf)
    | (refine Br.ieq (fun hc => ?_) (fun hc => ?_) <;> conv => whnf)
    | (refine Br.ine (fun hc => ?_) (fun hc => ?_) <;> conv => whnf)
    | (refine Br.mk (fun hc => ?_) (fun hc => ?_) <;> conv => whnf)
    | (refine Wr.i64 (by omega) ?_; conv => whnf)
    | (refine Ck.mk (by omega) ?_; conv => whnf)
    | (refine Wr.i64 (by simp only [List.length_drop, List.length_take, List.length_append, List.length_cons, List.length_nil]; omega) ?_; conv => whnf)
    | (refine Ck.mk (by simp only [List.length_drop, List.length_take, List.length_append, List.length_cons, List.length_nil]; omega) ?_; conv => whnf)
    | (refine Ck.mk (by simp; omega) ?_; conv => whnf))
  all_goals first
    | exact ⟨by rw [cmpI, if_pos (by omega)], rfl⟩
    | exact ⟨by rw [cmpI, if_neg (by omega), if_pos (by omega)], rfl⟩
    | exact ⟨by rw [cmpI, if_neg (by omega), if_neg (by omega)], rfl⟩

theorem cmpL_at {l m : List Int} {k : Nat} (h1 : k < l.length) (h2 : k < m.length) : cmpL (l.drop k) (m.drop k) = if l.getD k 0 < m.getD k 0 then -1 else if m.getD k 0 < l.getD k 0 then 1 else cmpL (l.drop (k + 1)) (m.drop (k + 1)) := by
  rw [List.drop_eq_getElem_cons h1, List.drop_eq_getElem_cons h2, cmpL]
  simp [List.getD, h1, h2]

theorem cmpL_ok (l m : List Int) (b c C D : Nat) (h0 : H) (hb : Has h0 b (ints l)) (hc' : Has h0 c (ints m)) (hL : l.length ≤ 1000000) (hM : m.length ≤ 1000000) : AC env 64 [.slice b 0 l.length C, .slice c 0 m.length D] h0 fun v h' => v = .int .i64 (cmpL l m) ∧ h' = h0 := by
  refine AC.enter Try.func64 Try.call64 rfl Try.ntmps64 (of_decide_eq_true (by rfl)) ?_
  repeat' (first
    | refine AW.seq ?_
    | (refine AW.region ?_; conv => whnf)
    | refine AW.block ?_
    | (refine AW.skip ?_; conv => whnf)
    | (refine AW.ret ?_; conv => whnf)
    | (refine AW.exit ?_; conv => whnf)
    | refine AW.cond (by rfl) ?_
    | (refine (cmpI_ok _ _ _).mono ?_; rintro v h' ⟨rfl, e'⟩; subst h'; conv => whnf)
    | (refine Br.tt ?_; conv => whnf)
    | (refine Br.ff ?_; conv => whnf)
    | refine Br.not ?_
    | (refine Br.t (beq_self_eq_true _) ?_; conv => whnf)
    | (refine Br.t (by assumption) ?_; conv => whnf)
    | (refine Br.f (by assumption) ?_; conv => whnf)
    | (refine Br.dt (by omega) ?_; conv => whnf)
    | (refine Br.df (by omega) ?_; conv => whnf)
    | (refine Br.it (by omega) ?_; conv => whnf)
    | (refine Br.if (by omega) ?_; conv => whnf)
    | (refine Br.nt (by omega) ?_; conv => whnf)
    | (refine Br.nf (by omega) ?_; conv => whnf)
    | (refine Br.dec (fun hc => ?_) (fun hc => ?_) <;> conv => whnf)
    | (refine Br.ieq (fun hc => ?_) (fun hc => ?_) <;> conv => whnf)
    | (refine Br.ine (fun hc => ?_) (fun hc => ?_) <;> conv => whnf)
    | (refine Br.mk (fun hc => ?_) (fun hc => ?_) <;> conv => whnf)
    | (refine Wr.i64 (by omega) ?_; conv => whnf)
    | (refine Ck.mk (by omega) ?_; conv => whnf)
    | (refine Wr.i64 (by simp only [List.length_drop, List.length_take, List.length_append, List.length_cons, List.length_nil]; omega) ?_; conv => whnf)
    | (refine Ck.mk (by simp only [List.length_drop, List.length_take, List.length_append, List.length_cons, List.length_nil]; omega) ?_; conv => whnf)
    | (refine Has.load1 (by first | assumption | exact St.has (by assumption) (by repeat first | exact .head _ | apply List.Mem.tail) | exact St.arg (by assumption) (by assumption)) ?_; conv => whnf)
    | (refine Has.loadZ (by first | assumption | exact St.has (by assumption) (by repeat first | exact .head _ | apply List.Mem.tail) | exact St.arg (by assumption) (by assumption)) rfl (by first | (simp; done) | omega | (simp only [List.length_set, List.length_append, List.length_cons, List.length_nil, List.length_replicate, tab_length]; omega) | (simp; omega)) ?_; conv => whnf)
    | (refine Ck.mk (by simp; omega) ?_; conv => whnf))
  refine AW.loop1 (fun (k : Nat) => [(0, .slice b 0 l.length C), (1, .slice c 0 m.length D), (9, .slice b 0 l.length C), (10, .int .i64 l.length), (11, .int .i64 k)]) (fun k h' => k ≤ l.length ∧ k ≤ m.length ∧ cmpL l m = cmpL (l.drop k) (m.drop k) ∧ h' = h0) (fun k => l.length - k) 0
    (Less.cons rfl (Less.cons rfl (Less.cons rfl (Less.cons rfl (Less.cons rfl (Less.nil _)))))) ⟨by omega, by omega, rfl, rfl⟩ ?_
  rintro k h1 ⟨hk, hk2, e, rfl⟩
  by_cases h1 : k < l.length
  · by_cases h2 : k < m.length
    · have ea := cmpL_at h1 h2
      by_cases c1 : l.getD k 0 < m.getD k 0
      · have c2 : cmpI (l.getD (k : Int).toNat 0) (m.getD (k : Int).toNat 0) = -1 := if_pos c1
        repeat' (first
          | refine AW.seq ?_
          | (refine AW.region ?_; conv => whnf)
          | refine AW.block ?_
          | (refine AW.skip ?_; conv => whnf)
          | (refine AW.ret ?_; conv => whnf)
          | (refine AW.exit ?_; conv => whnf)
          | refine AW.cond (by rfl) ?_
          | (refine (cmpI_ok _ _ _).mono ?_; rintro v h' ⟨rfl, e'⟩; subst h'; conv => whnf)
          | (refine Br.tt ?_; conv => whnf)
          | (refine Br.ff ?_; conv => whnf)
          | refine Br.not ?_
          | (refine Br.t (beq_self_eq_true _) ?_; conv => whnf)
          | (refine Br.t (by assumption) ?_; conv => whnf)
          | (refine Br.f (by assumption) ?_; conv => whnf)
          | (refine Br.dt (by omega) ?_; conv => whnf)
          | (refine Br.df (by omega) ?_; conv => whnf)
          | (refine Br.it (by omega) ?_; conv => whnf)
          | (refine Br.if (by omega) ?_; conv => whnf)
          | (refine Br.nt (by omega) ?_; conv => whnf)
          | (refine Br.nf (by omega) ?_; conv => whnf)
          | (refine Br.dec (fun hc => ?_) (fun hc => ?_) <;> conv => whnf)
          | (refine Br.ieq (fun hc => ?_) (fun hc => ?_) <;> conv => whnf)
          | (refine Br.ine (fun hc => ?_) (fun hc => ?_) <;> conv => whnf)
          | (refine Br.mk (fun hc => ?_) (fun hc => ?_) <;> conv => whnf)
          | (refine Wr.i64 (by omega) ?_; conv => whnf)
          | (refine Ck.mk (by omega) ?_; conv => whnf)
          | (refine Wr.i64 (by simp only [List.length_drop, List.length_take, List.length_append, List.length_cons, List.length_nil]; omega) ?_; conv => whnf)
          | (refine Ck.mk (by simp only [List.length_drop, List.length_take, List.length_append, List.length_cons, List.length_nil]; omega) ?_; conv => whnf)
          | (refine Has.load1 (by first | assumption | exact St.has (by assumption) (by repeat first | exact .head _ | apply List.Mem.tail) | exact St.arg (by assumption) (by assumption)) ?_; conv => whnf)
          | (refine Has.loadZ (by first | assumption | exact St.has (by assumption) (by repeat first | exact .head _ | apply List.Mem.tail) | exact St.arg (by assumption) (by assumption)) rfl (by first | (simp; done) | omega | (simp only [List.length_set, List.length_append, List.length_cons, List.length_nil, List.length_replicate, tab_length]; omega) | (simp; omega)) ?_; conv => whnf)
          | (refine Ck.mk (by simp; omega) ?_; conv => whnf))
        exact ⟨by rw [e, ea, if_pos c1, c2], rfl⟩
      · by_cases c3 : m.getD k 0 < l.getD k 0
        · have c2 : cmpI (l.getD (k : Int).toNat 0) (m.getD (k : Int).toNat 0) = 1 := (if_neg c1).trans (if_pos c3)
          repeat' (first
            | refine AW.seq ?_
            | (refine AW.region ?_; conv => whnf)
            | refine AW.block ?_
            | (refine AW.skip ?_; conv => whnf)
            | (refine AW.ret ?_; conv => whnf)
            | (refine AW.exit ?_; conv => whnf)
            | refine AW.cond (by rfl) ?_
            | (refine (cmpI_ok _ _ _).mono ?_; rintro v h' ⟨rfl, e'⟩; subst h'; conv => whnf)
            | (refine Br.tt ?_; conv => whnf)
            | (refine Br.ff ?_; conv => whnf)
            | refine Br.not ?_
            | (refine Br.t (beq_self_eq_true _) ?_; conv => whnf)
            | (refine Br.t (by assumption) ?_; conv => whnf)
            | (refine Br.f (by assumption) ?_; conv => whnf)
            | (refine Br.dt (by omega) ?_; conv => whnf)
            | (refine Br.df (by omega) ?_; conv => whnf)
            | (refine Br.it (by omega) ?_; conv => whnf)
            | (refine Br.if (by omega) ?_; conv => whnf)
            | (refine Br.nt (by omega) ?_; conv => whnf)
            | (refine Br.nf (by omega) ?_; conv => whnf)
            | (refine Br.dec (fun hc => ?_) (fun hc => ?_) <;> conv => whnf)
            | (refine Br.ieq (fun hc => ?_) (fun hc => ?_) <;> conv => whnf)
            | (refine Br.ine (fun hc => ?_) (fun hc => ?_) <;> conv => whnf)
            | (refine Br.mk (fun hc => ?_) (fun hc => ?_) <;> conv => whnf)
            | (refine Wr.i64 (by omega) ?_; conv => whnf)
            | (refine Ck.mk (by omega) ?_; conv => whnf)
            | (refine Wr.i64 (by simp only [List.length_drop, List.length_take, List.length_append, List.length_cons, List.length_nil]; omega) ?_; conv => whnf)
            | (refine Ck.mk (by simp only [List.length_drop, List.length_take, List.length_append, List.length_cons, List.length_nil]; omega) ?_; conv => whnf)
            | (refine Has.load1 (by first | assumption | exact St.has (by assumption) (by repeat first | exact .head _ | apply List.Mem.tail) | exact St.arg (by assumption) (by assumption)) ?_; conv => whnf)
            | (refine Has.loadZ (by first | assumption | exact St.has (by assumption) (by repeat first | exact .head _ | apply List.Mem.tail) | exact St.arg (by assumption) (by assumption)) rfl (by first | (simp; done) | omega | (simp only [List.length_set, List.length_append, List.length_cons, List.length_nil, List.length_replicate, tab_length]; omega) | (simp; omega)) ?_; conv => whnf)
            | (refine Ck.mk (by simp; omega) ?_; conv => whnf))
          exact ⟨by rw [e, ea, if_neg c1, if_pos c3, c2], rfl⟩
        · have c2 : cmpI (l.getD (k : Int).toNat 0) (m.getD (k : Int).toNat 0) = 0 := (if_neg c1).trans (if_neg c3)
          repeat' (first
            | refine AW.seq ?_
            | (refine AW.region ?_; conv => whnf)
            | refine AW.block ?_
            | (refine AW.skip ?_; conv => whnf)
            | (refine AW.ret ?_; conv => whnf)
            | (refine AW.exit ?_; conv => whnf)
            | refine AW.cond (by rfl) ?_
            | (refine (cmpI_ok _ _ _).mono ?_; rintro v h' ⟨rfl, e'⟩; subst h'; conv => whnf)
            | (refine Br.tt ?_; conv => whnf)
            | (refine Br.ff ?_; conv => whnf)
            | refine Br.not ?_
            | (refine Br.t (beq_self_eq_true _) ?_; conv => whnf)
            | (refine Br.t (by assumption) ?_; conv => whnf)
            | (refine Br.f (by assumption) ?_; conv => whnf)
            | (refine Br.dt (by omega) ?_; conv => whnf)
            | (refine Br.df (by omega) ?_; conv => whnf)
            | (refine Br.it (by omega) ?_; conv => whnf)
            | (refine Br.if (by omega) ?_; conv => whnf)
            | (refine Br.nt (by omega) ?_; conv => whnf)
            | (refine Br.nf (by omega) ?_; conv => whnf)
            | (refine Br.dec (fun hc => ?_) (fun hc => ?_) <;> conv => whnf)
            | (refine Br.ieq (fun hc => ?_) (fun hc => ?_) <;> conv => whnf)
            | (refine Br.ine (fun hc => ?_) (fun hc => ?_) <;> conv => whnf)
            | (refine Br.mk (fun hc => ?_) (fun hc => ?_) <;> conv => whnf)
            | (refine Wr.i64 (by omega) ?_; conv => whnf)
            | (refine Ck.mk (by omega) ?_; conv => whnf)
            | (refine Wr.i64 (by simp only [List.length_drop, List.length_take, List.length_append, List.length_cons, List.length_nil]; omega) ?_; conv => whnf)
            | (refine Ck.mk (by simp only [List.length_drop, List.length_take, List.length_append, List.length_cons, List.length_nil]; omega) ?_; conv => whnf)
            | (refine Has.load1 (by first | assumption | exact St.has (by assumption) (by repeat first | exact .head _ | apply List.Mem.tail) | exact St.arg (by assumption) (by assumption)) ?_; conv => whnf)
            | (refine Has.loadZ (by first | assumption | exact St.has (by assumption) (by repeat first | exact .head _ | apply List.Mem.tail) | exact St.arg (by assumption) (by assumption)) rfl (by first | (simp; done) | omega | (simp only [List.length_set, List.length_append, List.length_cons, List.length_nil, List.length_replicate, tab_length]; omega) | (simp; omega)) ?_; conv => whnf)
            | (refine Ck.mk (by simp; omega) ?_; conv => whnf))
          exact ⟨k + 1, (Less.cons rfl (Less.cons rfl (Less.cons rfl (Less.cons rfl (Less.cons rfl (Less.nil _)))))), ⟨by omega, by omega, by rw [e, ea, if_neg c1, if_neg c3], rfl⟩, by omega⟩
    · repeat' (first
        | refine AW.seq ?_
        | (refine AW.region ?_; conv => whnf)
        | refine AW.block ?_
        | (refine AW.skip ?_; conv => whnf)
        | (refine AW.ret ?_; conv => whnf)
        | (refine AW.exit ?_; conv => whnf)
        | refine AW.cond (by rfl) ?_
        | (refine (cmpI_ok _ _ _).mono ?_; rintro v h' ⟨rfl, e'⟩; subst h'; conv => whnf)
        | (refine Br.tt ?_; conv => whnf)
        | (refine Br.ff ?_; conv => whnf)
        | refine Br.not ?_
        | (refine Br.t (beq_self_eq_true _) ?_; conv => whnf)
        | (refine Br.t (by assumption) ?_; conv => whnf)
        | (refine Br.f (by assumption) ?_; conv => whnf)
        | (refine Br.dt (by omega) ?_; conv => whnf)
        | (refine Br.df (by omega) ?_; conv => whnf)
        | (refine Br.it (by omega) ?_; conv => whnf)
        | (refine Br.if (by omega) ?_; conv => whnf)
        | (refine Br.nt (by omega) ?_; conv => whnf)
        | (refine Br.nf (by omega) ?_; conv => whnf)
        | (refine Br.dec (fun hc => ?_) (fun hc => ?_) <;> conv => whnf)
        | (refine Br.ieq (fun hc => ?_) (fun hc => ?_) <;> conv => whnf)
        | (refine Br.ine (fun hc => ?_) (fun hc => ?_) <;> conv => whnf)
        | (refine Br.mk (fun hc => ?_) (fun hc => ?_) <;> conv => whnf)
        | (refine Wr.i64 (by omega) ?_; conv => whnf)
        | (refine Ck.mk (by omega) ?_; conv => whnf)
        | (refine Wr.i64 (by simp only [List.length_drop, List.length_take, List.length_append, List.length_cons, List.length_nil]; omega) ?_; conv => whnf)
        | (refine Ck.mk (by simp only [List.length_drop, List.length_take, List.length_append, List.length_cons, List.length_nil]; omega) ?_; conv => whnf)
        | (refine Has.load1 (by first | assumption | exact St.has (by assumption) (by repeat first | exact .head _ | apply List.Mem.tail) | exact St.arg (by assumption) (by assumption)) ?_; conv => whnf)
        | (refine Has.loadZ (by first | assumption | exact St.has (by assumption) (by repeat first | exact .head _ | apply List.Mem.tail) | exact St.arg (by assumption) (by assumption)) rfl (by first | (simp; done) | omega | (simp only [List.length_set, List.length_append, List.length_cons, List.length_nil, List.length_replicate, tab_length]; omega) | (simp; omega)) ?_; conv => whnf)
        | (refine Ck.mk (by simp; omega) ?_; conv => whnf))
      refine ⟨?_, rfl⟩
      have em : m.drop k = [] := List.drop_eq_nil_of_le (by omega)
      rw [e, em, List.drop_eq_getElem_cons h1]
      rfl
  · by_cases h2 : k < m.length
    · repeat' (first
        | refine AW.seq ?_
        | (refine AW.region ?_; conv => whnf)
        | refine AW.block ?_
        | (refine AW.skip ?_; conv => whnf)
        | (refine AW.ret ?_; conv => whnf)
        | (refine AW.exit ?_; conv => whnf)
        | refine AW.cond (by rfl) ?_
        | (refine (cmpI_ok _ _ _).mono ?_; rintro v h' ⟨rfl, e'⟩; subst h'; conv => whnf)
        | (refine Br.tt ?_; conv => whnf)
        | (refine Br.ff ?_; conv => whnf)
        | refine Br.not ?_
        | (refine Br.t (beq_self_eq_true _) ?_; conv => whnf)
        | (refine Br.t (by assumption) ?_; conv => whnf)
        | (refine Br.f (by assumption) ?_; conv => whnf)
        | (refine Br.dt (by omega) ?_; conv => whnf)
        | (refine Br.df (by omega) ?_; conv => whnf)
        | (refine Br.it (by omega) ?_; conv => whnf)
        | (refine Br.if (by omega) ?_; conv => whnf)
        | (refine Br.nt (by omega) ?_; conv => whnf)
        | (refine Br.nf (by omega) ?_; conv => whnf)
        | (refine Br.dec (fun hc => ?_) (fun hc => ?_) <;> conv => whnf)
        | (refine Br.ieq (fun hc => ?_) (fun hc => ?_) <;> conv => whnf)
        | (refine Br.ine (fun hc => ?_) (fun hc => ?_) <;> conv => whnf)
        | (refine Br.mk (fun hc => ?_) (fun hc => ?_) <;> conv => whnf)
        | (refine Wr.i64 (by omega) ?_; conv => whnf)
        | (refine Ck.mk (by omega) ?_; conv => whnf)
        | (refine Wr.i64 (by simp only [List.length_drop, List.length_take, List.length_append, List.length_cons, List.length_nil]; omega) ?_; conv => whnf)
        | (refine Ck.mk (by simp only [List.length_drop, List.length_take, List.length_append, List.length_cons, List.length_nil]; omega) ?_; conv => whnf)
        | (refine Has.load1 (by first | assumption | exact St.has (by assumption) (by repeat first | exact .head _ | apply List.Mem.tail) | exact St.arg (by assumption) (by assumption)) ?_; conv => whnf)
        | (refine Has.loadZ (by first | assumption | exact St.has (by assumption) (by repeat first | exact .head _ | apply List.Mem.tail) | exact St.arg (by assumption) (by assumption)) rfl (by first | (simp; done) | omega | (simp only [List.length_set, List.length_append, List.length_cons, List.length_nil, List.length_replicate, tab_length]; omega) | (simp; omega)) ?_; conv => whnf)
        | (refine Ck.mk (by simp; omega) ?_; conv => whnf))
      refine ⟨?_, rfl⟩
      have el : l.drop k = [] := List.drop_eq_nil_of_le (by omega)
      rw [e, el, List.drop_eq_getElem_cons h2]
      rfl
    · repeat' (first
        | refine AW.seq ?_
        | (refine AW.region ?_; conv => whnf)
        | refine AW.block ?_
        | (refine AW.skip ?_; conv => whnf)
        | (refine AW.ret ?_; conv => whnf)
        | (refine AW.exit ?_; conv => whnf)
        | refine AW.cond (by rfl) ?_
        | (refine (cmpI_ok _ _ _).mono ?_; rintro v h' ⟨rfl, e'⟩; subst h'; conv => whnf)
        | (refine Br.tt ?_; conv => whnf)
        | (refine Br.ff ?_; conv => whnf)
        | refine Br.not ?_
        | (refine Br.t (beq_self_eq_true _) ?_; conv => whnf)
        | (refine Br.t (by assumption) ?_; conv => whnf)
        | (refine Br.f (by assumption) ?_; conv => whnf)
        | (refine Br.dt (by omega) ?_; conv => whnf)
        | (refine Br.df (by omega) ?_; conv => whnf)
        | (refine Br.it (by omega) ?_; conv => whnf)
        | (refine Br.if (by omega) ?_; conv => whnf)
        | (refine Br.nt (by omega) ?_; conv => whnf)
        | (refine Br.nf (by omega) ?_; conv => whnf)
        | (refine Br.dec (fun hc => ?_) (fun hc => ?_) <;> conv => whnf)
        | (refine Br.ieq (fun hc => ?_) (fun hc => ?_) <;> conv => whnf)
        | (refine Br.ine (fun hc => ?_) (fun hc => ?_) <;> conv => whnf)
        | (refine Br.mk (fun hc => ?_) (fun hc => ?_) <;> conv => whnf)
        | (refine Wr.i64 (by omega) ?_; conv => whnf)
        | (refine Ck.mk (by omega) ?_; conv => whnf)
        | (refine Wr.i64 (by simp only [List.length_drop, List.length_take, List.length_append, List.length_cons, List.length_nil]; omega) ?_; conv => whnf)
        | (refine Ck.mk (by simp only [List.length_drop, List.length_take, List.length_append, List.length_cons, List.length_nil]; omega) ?_; conv => whnf)
        | (refine Has.load1 (by first | assumption | exact St.has (by assumption) (by repeat first | exact .head _ | apply List.Mem.tail) | exact St.arg (by assumption) (by assumption)) ?_; conv => whnf)
        | (refine Has.loadZ (by first | assumption | exact St.has (by assumption) (by repeat first | exact .head _ | apply List.Mem.tail) | exact St.arg (by assumption) (by assumption)) rfl (by first | (simp; done) | omega | (simp only [List.length_set, List.length_append, List.length_cons, List.length_nil, List.length_replicate, tab_length]; omega) | (simp; omega)) ?_; conv => whnf)
        | (refine Ck.mk (by simp; omega) ?_; conv => whnf))
      refine ⟨?_, rfl⟩
      have el : l.drop k = [] := List.drop_eq_nil_of_le (by omega)
      have em : m.drop k = [] := List.drop_eq_nil_of_le (by omega)
      rw [e, el, em]
      rfl

end Go.Proofs.Ytcepogfmajlcjaa

/-
  Contracts of short sorts of rows are proved.
  They hold for up to twelve rows.
-/
set_option linter.unusedVariables false
set_option linter.unusedSimpArgs false
namespace Go.Proofs.Ytcepogfmajlcjaa
open Go.Proofs.Ytcepogfmajlcjaa.Ab Go.Proofs.Ytcepogfmajlcjaa.Pl

/-- two rows change places -/
def swp (R : RL) (j : Nat) : RL := (R.set (j + 1) (R.getD j (0, []))).set j (R.getD (j + 1) (0, []))
def insJ : Nat → RL → RL
  | 0, R => R
  | j + 1, R => if cmpL (rl R (j + 1)) (rl R j) < 0 then insJ j (swp R j) else R
def insO (R : RL) : Nat → RL
  | 0 => R
  | i + 1 => insJ (i + 1) (insO R i)
theorem swp_len (R : RL) (j : Nat) : (swp R j).length = R.length := by simp [swp]
theorem insJ_len : ∀ j R, (insJ j R).length = R.length
  | 0, R => rfl
  | j + 1, R => by
    rw [insJ]
    split
    · rw [insJ_len j, swp_len]
    · rfl
theorem insO_len (R : RL) : ∀ i, (insO R i).length = R.length
  | 0 => rfl
  | i + 1 => by rw [insO, insJ_len, insO_len R i]
theorem swp_perm {R : RL} {j : Nat} (h : j + 1 < R.length) : (swp R j).Perm R := by
  unfold swp
  have e1 : R.getD j (0, []) = R[j] := by simp [List.getD, show j < R.length by omega]
  have e2 : R.getD (j + 1) (0, []) = R[j + 1] := by simp [List.getD, h]
  rw [e1, e2]
  exact List.set_set_perm h (by omega)
theorem slcs_swp {R : RL} {j : Nat} (h : j + 1 < R.length) : ((slcs R).set (j + 1) (.slice (rb R j) 0 (rl R j).length (rl R j).length)).set j (.slice (rb R (j + 1)) 0 (rl R (j + 1)).length (rl R (j + 1)).length) = slcs (swp R j) := by
  unfold swp slcs
  rw [List.map_set, List.map_set]
  rfl
theorem swpSt {h0 h : H} {L : List (Nat × Blk)} {b j : Nat} {R : RL} (s : St h0 h ((b, row (slcs (swp R j))) :: (blks R ++ L))) (hj : j + 1 < R.length) : St h0 h ((b, row (slcs (swp R j))) :: (blks (swp R j) ++ L)) :=
  s.perm (.cons _ (List.Perm.append_right _ ((swp_perm hj).map _).symm))

theorem insJ_perm : ∀ j R, j < R.length → (insJ j R).Perm R
  | 0, R, _ => List.Perm.refl _
  | j + 1, R, h => by
    rw [insJ]
    split
    · exact (insJ_perm j (swp R j) (by rw [swp_len]; omega)).trans (swp_perm h)
    · exact List.Perm.refl _
theorem insO_perm (R : RL) : ∀ i, i < R.length → (insO R i).Perm R
  | 0, _ => List.Perm.refl _
  | i + 1, h => by
    rw [insO]
    exact (insJ_perm (i + 1) (insO R i) (by rw [insO_len]; omega)).trans (insO_perm R i (by omega))

set_option maxHeartbeats 1000000 in
theorem insSort_ok (R : RL) (L : List (Nat × Blk)) (b N C : Nat) (H0 hp : H) (hs : St H0 hp ((b, row (slcs R)) :: (blks R ++ L))) (hN : N = R.length) (hl : N ≤ 12) (hr : ∀ r ∈ R, r.2.length ≤ 1000) :
    AC env 103 [.slice b 0 N C, .int .i64 0, .int .i64 N, .func 64 []] hp fun v h' => v = .tup [] ∧ St H0 h' ((b, row (slcs (insO R (N - 1)))) :: (blks (insO R (N - 1)) ++ L)) := by
  refine AC.enter Try.func103 Try.call103 rfl Try.ntmps103 (of_decide_eq_true (by rfl)) ?_
  repeat' (first
    | refine AW.seq ?_
    | (refine AW.region ?_; conv => whnf)
    | refine AW.block ?_
    | (refine AW.skip ?_; conv => whnf)
    | (refine AW.ret ?_; conv => whnf)
    | (refine AW.exit ?_; conv => whnf)
    | refine AW.cond (by rfl) ?_
    | (refine AW.draw (id := 4) (.p 0 (.p 1 (.p 2 (.p 3 (.p 4 (.p 5 (.p 6 (.p 7 (.p 9 (.p 10 (.p 11 (.p 12 (.r 8 [14, 15, 16] (.r 13 [14, 15, 16] (.all [14] fun _ => (.p 15 (.p 16 .done))))))))))))))))) (by kernel_rfl) (by kernel_rfl) ?_; conv => whnf)
    | (refine AW.draw (id := 6) (.p 0 (.p 1 (.p 2 (.p 3 (.p 4 (.p 5 (.p 6 (.p 7 (.p 8 (.p 10 (.p 11 (.p 12 (.r 9 [14, 15, 16, 17] (.r 13 [14, 15, 16, 17] (.p 14 (.all [15] fun _ => (.p 16 (.all [17] fun _ => .done)))))))))))))))))) (by kernel_rfl) (by kernel_rfl) ?_; conv => whnf)
    | (refine Br.tt ?_; conv => whnf)
    | (refine Br.ff ?_; conv => whnf)
    | refine Br.not ?_
    | (refine Br.t (beq_self_eq_true _) ?_; conv => whnf)
    | (refine Br.t (by assumption) ?_; conv => whnf)
    | (refine Br.f (by assumption) ?_; conv => whnf)
    | (refine Br.dt (by omega) ?_; conv => whnf)
    | (refine Br.df (by omega) ?_; conv => whnf)
    | (refine Br.it (by omega) ?_; conv => whnf)
    | (refine Br.if (by omega) ?_; conv => whnf)
    | (refine Br.nt (by omega) ?_; conv => whnf)
    | (refine Br.nf (by omega) ?_; conv => whnf)
    | (refine Br.dec (fun hc => ?_) (fun hc => ?_) <;> conv => whnf)
    | (refine Br.ieq (fun hc => ?_) (fun hc => ?_) <;> conv => whnf)
    | (refine Br.ine (fun hc => ?_) (fun hc => ?_) <;> conv => whnf)
    | (refine Br.mk (fun hc => ?_) (fun hc => ?_) <;> conv => whnf)
    | (refine Wr.i64 (by omega) ?_; conv => whnf)
    | (refine Ck.mk (by omega) ?_; conv => whnf)
    | (refine Wr.i64 (by simp only [List.length_drop, List.length_take, List.length_append, List.length_cons, List.length_nil]; omega) ?_; conv => whnf)
    | (refine Ck.mk (by simp only [List.length_drop, List.length_take, List.length_append, List.length_cons, List.length_nil]; omega) ?_; conv => whnf)
    | (refine Has.load1 (by first | assumption | exact St.has (by assumption) (by repeat first | exact .head _ | apply List.Mem.tail) | exact St.arg (by assumption) (by assumption)) ?_; conv => whnf)
    | (refine StoreG.st1 (by assumption) (by repeat first | exact .here | apply Spot.there) rfl (fun h' hs' => ?_); conv => whnf)
    | (refine Ck.mk (by simp; omega) ?_; conv => whnf))
  refine AW.loop2 (fun (R1 : RL) (i : Nat) => [(0, .slice b 0 N C), (1, .int .i64 0), (2, .int .i64 N), (3, .func 64 []), (8, .int .i64 ((i + 1 : Nat) : Int))])
    (fun R1 i h' => i ≤ N - 1 ∧ R1 = insO R i ∧ St H0 h' ((b, row (slcs R1)) :: (blks R1 ++ L))) (fun _ i => N - i) R 0 (Less.cons rfl (Less.cons rfl (Less.cons rfl (Less.cons rfl (Less.cons rfl (Less.nil _)))))) ⟨by omega, rfl, hs⟩ ?_
  rintro R1 i h1 ⟨hi, rfl, hs1⟩
  clear hs
  by_cases hlt : i + 1 < N
  · have l1 : (insO R i).length = N := by rw [insO_len, hN]
    have r1 : ∀ r ∈ insO R i, r.2.length ≤ 1000 := fun r h => hr r ((insO_perm R i (by omega)).mem_iff.1 h)
    repeat' (first
      | refine AW.seq ?_
      | (refine AW.region ?_; conv => whnf)
      | refine AW.block ?_
      | (refine AW.skip ?_; conv => whnf)
      | (refine AW.ret ?_; conv => whnf)
      | (refine AW.exit ?_; conv => whnf)
      | refine AW.cond (by rfl) ?_
      | (refine AW.draw (id := 4) (.p 0 (.p 1 (.p 2 (.p 3 (.p 4 (.p 5 (.p 6 (.p 7 (.p 9 (.p 10 (.p 11 (.p 12 (.r 8 [14, 15, 16] (.r 13 [14, 15, 16] (.all [14] fun _ => (.p 15 (.p 16 .done))))))))))))))))) (by kernel_rfl) (by kernel_rfl) ?_; conv => whnf)
      | (refine AW.draw (id := 6) (.p 0 (.p 1 (.p 2 (.p 3 (.p 4 (.p 5 (.p 6 (.p 7 (.p 8 (.p 10 (.p 11 (.p 12 (.r 9 [14, 15, 16, 17] (.r 13 [14, 15, 16, 17] (.p 14 (.all [15] fun _ => (.p 16 (.all [17] fun _ => .done)))))))))))))))))) (by kernel_rfl) (by kernel_rfl) ?_; conv => whnf)
      | (refine Br.tt ?_; conv => whnf)
      | (refine Br.ff ?_; conv => whnf)
      | refine Br.not ?_
      | (refine Br.t (beq_self_eq_true _) ?_; conv => whnf)
      | (refine Br.t (by assumption) ?_; conv => whnf)
      | (refine Br.f (by assumption) ?_; conv => whnf)
      | (refine Br.dt (by omega) ?_; conv => whnf)
      | (refine Br.df (by omega) ?_; conv => whnf)
      | (refine Br.it (by omega) ?_; conv => whnf)
      | (refine Br.if (by omega) ?_; conv => whnf)
      | (refine Br.nt (by omega) ?_; conv => whnf)
      | (refine Br.nf (by omega) ?_; conv => whnf)
      | (refine Br.dec (fun hc => ?_) (fun hc => ?_) <;> conv => whnf)
      | (refine Br.ieq (fun hc => ?_) (fun hc => ?_) <;> conv => whnf)
      | (refine Br.ine (fun hc => ?_) (fun hc => ?_) <;> conv => whnf)
      | (refine Br.mk (fun hc => ?_) (fun hc => ?_) <;> conv => whnf)
      | (refine Wr.i64 (by omega) ?_; conv => whnf)
      | (refine Ck.mk (by omega) ?_; conv => whnf)
      | (refine Wr.i64 (by simp only [List.length_drop, List.length_take, List.length_append, List.length_cons, List.length_nil]; omega) ?_; conv => whnf)
      | (refine Ck.mk (by simp only [List.length_drop, List.length_take, List.length_append, List.length_cons, List.length_nil]; omega) ?_; conv => whnf)
      | (refine Has.load1 (by first | assumption | exact St.has (by assumption) (by repeat first | exact .head _ | apply List.Mem.tail) | exact St.arg (by assumption) (by assumption)) ?_; conv => whnf)
      | (refine StoreG.st1 (by assumption) (by repeat first | exact .here | apply Spot.there) rfl (fun h' hs' => ?_); conv => whnf)
      | (refine Ck.mk (by simp; omega) ?_; conv => whnf))
    refine AW.loop2 (fun (R2 : RL) (j : Nat) => [(0, .slice b 0 N C), (1, .int .i64 0), (2, .int .i64 N), (3, .func 64 []), (8, .int .i64 ((i + 1 : Nat) : Int)), (9, .int .i64 j)])
      (fun R2 j h' => j ≤ i + 1 ∧ R2.length = N ∧ (∀ r ∈ R2, r.2.length ≤ 1000) ∧ insJ j R2 = insJ (i + 1) (insO R i) ∧ St H0 h' ((b, row (slcs R2)) :: (blks R2 ++ L))) (fun _ j => j) (insO R i) (i + 1) (Less.cons rfl (Less.cons rfl (Less.cons rfl (Less.cons rfl (Less.cons rfl (Less.cons rfl (Less.nil _))))))) ⟨by omega, l1, r1, rfl, hs1⟩ ?_
    rintro R2 j h2 ⟨hj, l2, r2, e, hs2⟩
    clear hs1
    cases j with
    | zero =>
      repeat' (first
        | refine AW.seq ?_
        | (refine AW.region ?_; conv => whnf)
        | refine AW.block ?_
        | (refine AW.skip ?_; conv => whnf)
        | (refine AW.ret ?_; conv => whnf)
        | (refine AW.exit ?_; conv => whnf)
        | refine AW.cond (by rfl) ?_
        | (refine AW.draw (id := 4) (.p 0 (.p 1 (.p 2 (.p 3 (.p 4 (.p 5 (.p 6 (.p 7 (.p 9 (.p 10 (.p 11 (.p 12 (.r 8 [14, 15, 16] (.r 13 [14, 15, 16] (.all [14] fun _ => (.p 15 (.p 16 .done))))))))))))))))) (by kernel_rfl) (by kernel_rfl) ?_; conv => whnf)
        | (refine AW.draw (id := 6) (.p 0 (.p 1 (.p 2 (.p 3 (.p 4 (.p 5 (.p 6 (.p 7 (.p 8 (.p 10 (.p 11 (.p 12 (.r 9 [14, 15, 16, 17] (.r 13 [14, 15, 16, 17] (.p 14 (.all [15] fun _ => (.p 16 (.all [17] fun _ => .done)))))))))))))))))) (by kernel_rfl) (by kernel_rfl) ?_; conv => whnf)
        | (refine Br.tt ?_; conv => whnf)
        | (refine Br.ff ?_; conv => whnf)
        | refine Br.not ?_
        | (refine Br.t (beq_self_eq_true _) ?_; conv => whnf)
        | (refine Br.t (by assumption) ?_; conv => whnf)
        | (refine Br.f (by assumption) ?_; conv => whnf)
        | (refine Br.dt (by omega) ?_; conv => whnf)
        | (refine Br.df (by omega) ?_; conv => whnf)
        | (refine Br.it (by omega) ?_; conv => whnf)
        | (refine Br.if (by omega) ?_; conv => whnf)
        | (refine Br.nt (by omega) ?_; conv => whnf)
        | (refine Br.nf (by omega) ?_; conv => whnf)
        | (refine Br.dec (fun hc => ?_) (fun hc => ?_) <;> conv => whnf)
        | (refine Br.ieq (fun hc => ?_) (fun hc => ?_) <;> conv => whnf)
        | (refine Br.ine (fun hc => ?_) (fun hc => ?_) <;> conv => whnf)
        | (refine Br.mk (fun hc => ?_) (fun hc => ?_) <;> conv => whnf)
        | (refine Wr.i64 (by omega) ?_; conv => whnf)
        | (refine Ck.mk (by omega) ?_; conv => whnf)
        | (refine Wr.i64 (by simp only [List.length_drop, List.length_take, List.length_append, List.length_cons, List.length_nil]; omega) ?_; conv => whnf)
        | (refine Ck.mk (by simp only [List.length_drop, List.length_take, List.length_append, List.length_cons, List.length_nil]; omega) ?_; conv => whnf)
        | (refine Has.load1 (by first | assumption | exact St.has (by assumption) (by repeat first | exact .head _ | apply List.Mem.tail) | exact St.arg (by assumption) (by assumption)) ?_; conv => whnf)
        | (refine StoreG.st1 (by assumption) (by repeat first | exact .here | apply Spot.there) rfl (fun h' hs' => ?_); conv => whnf)
        | (refine Ck.mk (by simp; omega) ?_; conv => whnf))
      exact ⟨R2, i + 1, (Less.cons rfl (Less.cons rfl (Less.cons rfl (Less.cons rfl (Less.cons rfl (Less.nil _)))))), ⟨by omega, e, hs2⟩, by omega⟩
    | succ j =>
      have hg := hs2.rows
      have q1 : (rl R2 (j + 1)).length ≤ 1000 := r2 _ (rl_mem R2 (j + 1) (by omega))
      have q0 : (rl R2 j).length ≤ 1000 := r2 _ (rl_mem R2 j (by omega))
      have ei : ((((j + 1 : Nat) : Int)) - 1).toNat = j := by omega
      by_cases c : cmpL (rl R2 (j + 1)) (rl R2 j) < 0
      · repeat' (first
          | (refine Grid.rowAt hg rfl (j + 1) rfl (by omega) (by omega) (congrArg List.length (rws_at rfl _)) ?_; conv => whnf)
          | (refine Grid.rowAt hg rfl j rfl (by omega) (by omega) (congrArg List.length (rws_at rfl _)) ?_; conv => whnf)
          | (refine (cmpL_ok (rl R2 (j + 1)) (rl R2 j) _ _ _ _ _ (hg.at (by omega)) (hg.at (by omega)) (by omega) (by omega)).mono ?_; rintro v h' ⟨rfl, e'⟩; subst h'; conv => whnf)
          | (refine StoreG.stV hs2 .here rfl (by simp; omega) rfl (fun h' hs3 => ?_); conv => whnf)
          | (refine StoreG.stV hs3 .here rfl (by simp; omega) rfl (fun h' hs4 => ?_); conv => whnf)
          | refine AW.seq ?_
          | (refine AW.region ?_; conv => whnf)
          | refine AW.block ?_
          | (refine AW.skip ?_; conv => whnf)
          | (refine AW.ret ?_; conv => whnf)
          | (refine AW.exit ?_; conv => whnf)
          | refine AW.cond (by rfl) ?_
          | (refine AW.draw (id := 4) (.p 0 (.p 1 (.p 2 (.p 3 (.p 4 (.p 5 (.p 6 (.p 7 (.p 9 (.p 10 (.p 11 (.p 12 (.r 8 [14, 15, 16] (.r 13 [14, 15, 16] (.all [14] fun _ => (.p 15 (.p 16 .done))))))))))))))))) (by kernel_rfl) (by kernel_rfl) ?_; conv => whnf)
          | (refine AW.draw (id := 6) (.p 0 (.p 1 (.p 2 (.p 3 (.p 4 (.p 5 (.p 6 (.p 7 (.p 8 (.p 10 (.p 11 (.p 12 (.r 9 [14, 15, 16, 17] (.r 13 [14, 15, 16, 17] (.p 14 (.all [15] fun _ => (.p 16 (.all [17] fun _ => .done)))))))))))))))))) (by kernel_rfl) (by kernel_rfl) ?_; conv => whnf)
          | (refine Br.tt ?_; conv => whnf)
          | (refine Br.ff ?_; conv => whnf)
          | refine Br.not ?_
          | (refine Br.t (beq_self_eq_true _) ?_; conv => whnf)
          | (refine Br.t (by assumption) ?_; conv => whnf)
          | (refine Br.f (by assumption) ?_; conv => whnf)
          | (refine Br.dt (by omega) ?_; conv => whnf)
          | (refine Br.df (by omega) ?_; conv => whnf)
          | (refine Br.it (by omega) ?_; conv => whnf)
          | (refine Br.if (by omega) ?_; conv => whnf)
          | (refine Br.nt (by omega) ?_; conv => whnf)
          | (refine Br.nf (by omega) ?_; conv => whnf)
          | (refine Br.dec (fun hc => ?_) (fun hc => ?_) <;> conv => whnf)
          | (refine Br.ieq (fun hc => ?_) (fun hc => ?_) <;> conv => whnf)
          | (refine Br.ine (fun hc => ?_) (fun hc => ?_) <;> conv => whnf)
          | (refine Br.mk (fun hc => ?_) (fun hc => ?_) <;> conv => whnf)
          | (refine Wr.i64 (by omega) ?_; conv => whnf)
          | (refine Ck.mk (by omega) ?_; conv => whnf)
          | (refine Wr.i64 (by simp only [List.length_drop, List.length_take, List.length_append, List.length_cons, List.length_nil]; omega) ?_; conv => whnf)
          | (refine Ck.mk (by simp only [List.length_drop, List.length_take, List.length_append, List.length_cons, List.length_nil]; omega) ?_; conv => whnf)
          | (refine Has.load1 (by first | assumption | exact St.has (by assumption) (by repeat first | exact .head _ | apply List.Mem.tail) | exact St.arg (by assumption) (by assumption)) ?_; conv => whnf)
          | (refine StoreG.st1 (by assumption) (by repeat first | exact .here | apply Spot.there) rfl (fun h' hs' => ?_); conv => whnf)
          | (refine Ck.mk (by simp; omega) ?_; conv => whnf))
        rw [ei, show (((j + 1 : Nat) : Int)).toNat = j + 1 from rfl, slcs_swp (by omega)] at hs4
        refine ⟨swp R2 j, j, ?_, ⟨by omega, by rw [swp_len, l2], fun r h => r2 r ((swp_perm (by omega)).mem_iff.1 h), by rw [← e, insJ, if_pos c], swpSt hs4 (by omega)⟩, by omega⟩
        rw [show (j : Int) = ((j + 1 : Nat) : Int) - 1 by omega]
        exact (Less.cons rfl (Less.cons rfl (Less.cons rfl (Less.cons rfl (Less.cons rfl (Less.cons rfl (Less.nil _)))))))
      · repeat' (first
          | (refine Grid.rowAt hg rfl (j + 1) rfl (by omega) (by omega) (congrArg List.length (rws_at rfl _)) ?_; conv => whnf)
          | (refine Grid.rowAt hg rfl j rfl (by omega) (by omega) (congrArg List.length (rws_at rfl _)) ?_; conv => whnf)
          | (refine (cmpL_ok (rl R2 (j + 1)) (rl R2 j) _ _ _ _ _ (hg.at (by omega)) (hg.at (by omega)) (by omega) (by omega)).mono ?_; rintro v h' ⟨rfl, e'⟩; subst h'; conv => whnf)
          | refine AW.seq ?_
          | (refine AW.region ?_; conv => whnf)
          | refine AW.block ?_
          | (refine AW.skip ?_; conv => whnf)
          | (refine AW.ret ?_; conv => whnf)
          | (refine AW.exit ?_; conv => whnf)
          | refine AW.cond (by rfl) ?_
          | (refine AW.draw (id := 4) (.p 0 (.p 1 (.p 2 (.p 3 (.p 4 (.p 5 (.p 6 (.p 7 (.p 9 (.p 10 (.p 11 (.p 12 (.r 8 [14, 15, 16] (.r 13 [14, 15, 16] (.all [14] fun _ => (.p 15 (.p 16 .done))))))))))))))))) (by kernel_rfl) (by kernel_rfl) ?_; conv => whnf)
          | (refine AW.draw (id := 6) (.p 0 (.p 1 (.p 2 (.p 3 (.p 4 (.p 5 (.p 6 (.p 7 (.p 8 (.p 10 (.p 11 (.p 12 (.r 9 [14, 15, 16, 17] (.r 13 [14, 15, 16, 17] (.p 14 (.all [15] fun _ => (.p 16 (.all [17] fun _ => .done)))))))))))))))))) (by kernel_rfl) (by kernel_rfl) ?_; conv => whnf)
          | (refine Br.tt ?_; conv => whnf)
          | (refine Br.ff ?_; conv => whnf)
          | refine Br.not ?_
          | (refine Br.t (beq_self_eq_true _) ?_; conv => whnf)
          | (refine Br.t (by assumption) ?_; conv => whnf)
          | (refine Br.f (by assumption) ?_; conv => whnf)
          | (refine Br.dt (by omega) ?_; conv => whnf)
          | (refine Br.df (by omega) ?_; conv => whnf)
          | (refine Br.it (by omega) ?_; conv => whnf)
          | (refine Br.if (by omega) ?_; conv => whnf)
          | (refine Br.nt (by omega) ?_; conv => whnf)
          | (refine Br.nf (by omega) ?_; conv => whnf)
          | (refine Br.dec (fun hc => ?_) (fun hc => ?_) <;> conv => whnf)
          | (refine Br.ieq (fun hc => ?_) (fun hc => ?_) <;> conv => whnf)
          | (refine Br.ine (fun hc => ?_) (fun hc => ?_) <;> conv => whnf)
          | (refine Br.mk (fun hc => ?_) (fun hc => ?_) <;> conv => whnf)
          | (refine Wr.i64 (by omega) ?_; conv => whnf)
          | (refine Ck.mk (by omega) ?_; conv => whnf)
          | (refine Wr.i64 (by simp only [List.length_drop, List.length_take, List.length_append, List.length_cons, List.length_nil]; omega) ?_; conv => whnf)
          | (refine Ck.mk (by simp only [List.length_drop, List.length_take, List.length_append, List.length_cons, List.length_nil]; omega) ?_; conv => whnf)
          | (refine Has.load1 (by first | assumption | exact St.has (by assumption) (by repeat first | exact .head _ | apply List.Mem.tail) | exact St.arg (by assumption) (by assumption)) ?_; conv => whnf)
          | (refine StoreG.st1 (by assumption) (by repeat first | exact .here | apply Spot.there) rfl (fun h' hs' => ?_); conv => whnf)
          | (refine Ck.mk (by simp; omega) ?_; conv => whnf))
        exact ⟨R2, i + 1, (Less.cons rfl (Less.cons rfl (Less.cons rfl (Less.cons rfl (Less.cons rfl (Less.nil _)))))), ⟨by omega, by rw [insO, ← e, insJ, if_neg c], hs2⟩, by omega⟩
  · repeat' (first
      | refine AW.seq ?_
      | (refine AW.region ?_; conv => whnf)
      | refine AW.block ?_
      | (refine AW.skip ?_; conv => whnf)
      | (refine AW.ret ?_; conv => whnf)
      | (refine AW.exit ?_; conv => whnf)
      | refine AW.cond (by rfl) ?_
      | (refine AW.draw (id := 4) (.p 0 (.p 1 (.p 2 (.p 3 (.p 4 (.p 5 (.p 6 (.p 7 (.p 9 (.p 10 (.p 11 (.p 12 (.r 8 [14, 15, 16] (.r 13 [14, 15, 16] (.all [14] fun _ => (.p 15 (.p 16 .done))))))))))))))))) (by kernel_rfl) (by kernel_rfl) ?_; conv => whnf)
      | (refine AW.draw (id := 6) (.p 0 (.p 1 (.p 2 (.p 3 (.p 4 (.p 5 (.p 6 (.p 7 (.p 8 (.p 10 (.p 11 (.p 12 (.r 9 [14, 15, 16, 17] (.r 13 [14, 15, 16, 17] (.p 14 (.all [15] fun _ => (.p 16 (.all [17] fun _ => .done)))))))))))))))))) (by kernel_rfl) (by kernel_rfl) ?_; conv => whnf)
      | (refine Br.tt ?_; conv => whnf)
      | (refine Br.ff ?_; conv => whnf)
      | refine Br.not ?_
      | (refine Br.t (beq_self_eq_true _) ?_; conv => whnf)
      | (refine Br.t (by assumption) ?_; conv => whnf)
      | (refine Br.f (by assumption) ?_; conv => whnf)
      | (refine Br.dt (by omega) ?_; conv => whnf)
      | (refine Br.df (by omega) ?_; conv => whnf)
      | (refine Br.it (by omega) ?_; conv => whnf)
      | (refine Br.if (by omega) ?_; conv => whnf)
      | (refine Br.nt (by omega) ?_; conv => whnf)
      | (refine Br.nf (by omega) ?_; conv => whnf)
      | (refine Br.dec (fun hc => ?_) (fun hc => ?_) <;> conv => whnf)
      | (refine Br.ieq (fun hc => ?_) (fun hc => ?_) <;> conv => whnf)
      | (refine Br.ine (fun hc => ?_) (fun hc => ?_) <;> conv => whnf)
      | (refine Br.mk (fun hc => ?_) (fun hc => ?_) <;> conv => whnf)
      | (refine Wr.i64 (by omega) ?_; conv => whnf)
      | (refine Ck.mk (by omega) ?_; conv => whnf)
      | (refine Wr.i64 (by simp only [List.length_drop, List.length_take, List.length_append, List.length_cons, List.length_nil]; omega) ?_; conv => whnf)
      | (refine Ck.mk (by simp only [List.length_drop, List.length_take, List.length_append, List.length_cons, List.length_nil]; omega) ?_; conv => whnf)
      | (refine Has.load1 (by first | assumption | exact St.has (by assumption) (by repeat first | exact .head _ | apply List.Mem.tail) | exact St.arg (by assumption) (by assumption)) ?_; conv => whnf)
      | (refine StoreG.st1 (by assumption) (by repeat first | exact .here | apply Spot.there) rfl (fun h' hs' => ?_); conv => whnf)
      | (refine Ck.mk (by simp; omega) ?_; conv => whnf))
    rw [show N - 1 = i by omega]
    exact ⟨rfl, hs1⟩

theorem Wr.letter {c : UInt8} {K : Int → Prop} (hk : ∀ k : Int, 0 ≤ k → k ≤ 255 → K k) : Wr .i64 ((c.toNat : Nat) : Int) K := by
  have h := c.toNat_lt
  exact Wr.i64 (by omega) (hk _ (by omega) (by omega))

set_option maxRecDepth 8000 in
theorem bitsLen64_ok (x : Int) (h0 : H) (hx : 0 ≤ x ∧ x ≤ 12) : AC env 112 [.int .u64 x] h0 fun v h' => (∃ k, v = .int .i64 k ∧ 0 ≤ k ∧ k ≤ 255) ∧ h' = h0 := by
  refine AC.enter Try.func112 Try.call112 rfl Try.ntmps112 (of_decide_eq_true (by rfl)) ?_
  repeat' (first
    | (refine Wr.letter (fun k hk0 hk1 => ?_); conv => whnf)
    | refine AW.seq ?_
    | (refine AW.region ?_; conv => whnf)
    | refine AW.block ?_
    | (refine AW.skip ?_; conv => whnf)
    | (refine AW.ret ?_; conv => whnf)
    | (refine AW.exit ?_; conv => whnf)
    | refine AW.cond (by rfl) ?_
    | (refine Br.tt ?_; conv => whnf)
    | (refine Br.ff ?_; conv => whnf)
    | refine Br.not ?_
    | (refine Br.t (beq_self_eq_true _) ?_; conv => whnf)
    | (refine Br.t (by assumption) ?_; conv => whnf)
    | (refine Br.f (by assumption) ?_; conv => whnf)
    | (refine Br.dt (by omega) ?_; conv => whnf)
    | (refine Br.df (by omega) ?_; conv => whnf)
    | (refine Br.it (by omega) ?_; conv => whnf)
    | (refine Br.if (by omega) ?_; conv => whnf)
    | (refine Br.nt (by omega) ?_; conv => whnf)
    | (refine Br.nf (by omega) ?_; conv => whnf)
    | (refine Br.dec (fun hc => ?_) (fun hc => ?_) <;> conv => whnf)
    | (refine Br.ieq (fun hc => ?_) (fun hc => ?_) <;> conv => whnf)
    | (refine Br.ine (fun hc => ?_) (fun hc => ?_) <;> conv => whnf)
    | (refine Br.mk (fun hc => ?_) (fun hc => ?_) <;> conv => whnf)
    | (refine Wr.i64 (by omega) ?_; conv => whnf)
    | (refine Ck.mk (by omega) ?_; conv => whnf)
    | (refine Wr.i64 (by simp only [List.length_drop, List.length_take, List.length_append, List.length_cons, List.length_nil]; omega) ?_; conv => whnf)
    | (refine Ck.mk (by simp only [List.length_drop, List.length_take, List.length_append, List.length_cons, List.length_nil]; omega) ?_; conv => whnf)
    | (refine Wr.u64 (by omega) ?_; conv => whnf)
    | (refine Wr.u8 (by omega) ?_; conv => whnf)
    | (refine Ck.mk (by simp; omega) ?_; conv => whnf))
  exact ⟨⟨_, rfl, by omega, by omega⟩, rfl⟩
theorem bitsLen_ok (x : Int) (h0 : H) (hx : 0 ≤ x ∧ x ≤ 12) : AC env 88 [.int .u64 x] h0 fun v h' => (∃ k, v = .int .i64 k ∧ 0 ≤ k ∧ k ≤ 255) ∧ h' = h0 := by
  refine AC.enter Try.func88 Try.call88 rfl Try.ntmps88 (of_decide_eq_true (by rfl)) ?_
  repeat' (first
    | (refine (bitsLen64_ok _ _ hx).mono ?_; rintro v h' ⟨⟨k, rfl, hk0, hk1⟩, e'⟩; subst h'; conv => whnf)
    | refine AW.seq ?_
    | (refine AW.region ?_; conv => whnf)
    | refine AW.block ?_
    | (refine AW.skip ?_; conv => whnf)
    | (refine AW.ret ?_; conv => whnf)
    | (refine AW.exit ?_; conv => whnf)
    | refine AW.cond (by rfl) ?_
    | (refine Br.tt ?_; conv => whnf)
    | (refine Br.ff ?_; conv => whnf)
    | refine Br.not ?_
    | (refine Br.t (beq_self_eq_true _) ?_; conv => whnf)
    | (refine Br.t (by assumption) ?_; conv => whnf)
    | (refine Br.f (by assumption) ?_; conv => whnf)
    | (refine Br.dt (by omega) ?_; conv => whnf)
    | (refine Br.df (by omega) ?_; conv => whnf)
    | (refine Br.it (by omega) ?_; conv => whnf)
    | (refine Br.if (by omega) ?_; conv => whnf)
    | (refine Br.nt (by omega) ?_; conv => whnf)
    | (refine Br.nf (by omega) ?_; conv => whnf)
    | (refine Br.dec (fun hc => ?_) (fun hc => ?_) <;> conv => whnf)
    | (refine Br.ieq (fun hc => ?_) (fun hc => ?_) <;> conv => whnf)
    | (refine Br.ine (fun hc => ?_) (fun hc => ?_) <;> conv => whnf)
    | (refine Br.mk (fun hc => ?_) (fun hc => ?_) <;> conv => whnf)
    | (refine Wr.i64 (by omega) ?_; conv => whnf)
    | (refine Ck.mk (by omega) ?_; conv => whnf)
    | (refine Wr.i64 (by simp only [List.length_drop, List.length_take, List.length_append, List.length_cons, List.length_nil]; omega) ?_; conv => whnf)
    | (refine Ck.mk (by simp only [List.length_drop, List.length_take, List.length_append, List.length_cons, List.length_nil]; omega) ?_; conv => whnf)
    | (refine Wr.u32 (by omega) ?_; conv => whnf)
    | (refine Ck.mk (by simp; omega) ?_; conv => whnf))
  exact ⟨⟨_, rfl, by omega, by omega⟩, rfl⟩

theorem pdqsort_ok (R : RL) (L : List (Nat × Blk)) (b N C : Nat) (lim : Int) (H0 hp : H) (hs : St H0 hp ((b, row (slcs R)) :: (blks R ++ L))) (hN : N = R.length) (hl : N ≤ 12) (hr : ∀ r ∈ R, r.2.length ≤ 1000) :
    AC env 87 [.slice b 0 N C, .int .i64 0, .int .i64 N, .int .i64 lim, .func 64 []] hp fun v h' => v = .tup [] ∧ St H0 h' ((b, row (slcs (insO R (N - 1)))) :: (blks (insO R (N - 1)) ++ L)) := by
  refine AC.enter Try.func87 Try.call87 rfl Try.ntmps87 (of_decide_eq_true (by rfl)) ?_
  repeat' (first
    | refine AW.seq ?_
    | (refine AW.region ?_; conv => whnf)
    | refine AW.block ?_
    | (refine AW.skip ?_; conv => whnf)
    | (refine AW.ret ?_; conv => whnf)
    | (refine AW.exit ?_; conv => whnf)
    | refine AW.cond (by rfl) ?_
    | (refine AW.draw (id := 17) (.p 0 (.p 1 (.p 2 (.p 3 (.p 4 (.p 5 (.p 6 (.p 7 (.p 9 (.p 10 (.p 11 (.r 8 [13, 14, 15, 16] (.r 12 [13, 14, 15, 16] (.all [13] fun _ => (.p 14 (.p 15 (.p 16 .done))))))))))))))))) (by kernel_rfl) (by kernel_rfl) ?_; conv => whnf)
    | (refine Br.tt ?_; conv => whnf)
    | (refine Br.ff ?_; conv => whnf)
    | refine Br.not ?_
    | (refine Br.t (beq_self_eq_true _) ?_; conv => whnf)
    | (refine Br.t (by assumption) ?_; conv => whnf)
    | (refine Br.f (by assumption) ?_; conv => whnf)
    | (refine Br.dt (by omega) ?_; conv => whnf)
    | (refine Br.df (by omega) ?_; conv => whnf)
    | (refine Br.it (by omega) ?_; conv => whnf)
    | (refine Br.if (by omega) ?_; conv => whnf)
    | (refine Br.nt (by omega) ?_; conv => whnf)
    | (refine Br.nf (by omega) ?_; conv => whnf)
    | (refine Br.dec (fun hc => ?_) (fun hc => ?_) <;> conv => whnf)
    | (refine Br.ieq (fun hc => ?_) (fun hc => ?_) <;> conv => whnf)
    | (refine Br.ine (fun hc => ?_) (fun hc => ?_) <;> conv => whnf)
    | (refine Br.mk (fun hc => ?_) (fun hc => ?_) <;> conv => whnf)
    | (refine Wr.i64 (by omega) ?_; conv => whnf)
    | (refine Ck.mk (by omega) ?_; conv => whnf)
    | (refine Wr.i64 (by simp only [List.length_drop, List.length_take, List.length_append, List.length_cons, List.length_nil]; omega) ?_; conv => whnf)
    | (refine Ck.mk (by simp only [List.length_drop, List.length_take, List.length_append, List.length_cons, List.length_nil]; omega) ?_; conv => whnf)
    | (refine Has.load1 (by first | assumption | exact St.has (by assumption) (by repeat first | exact .head _ | apply List.Mem.tail) | exact St.arg (by assumption) (by assumption)) ?_; conv => whnf)
    | (refine Ck.mk (by simp; omega) ?_; conv => whnf))
  refine AW.once ?_
  repeat' (first
    | (refine (insSort_ok R L b N C H0 _ hs hN hl hr).mono ?_; rintro v h' ⟨rfl, hs2⟩; conv => whnf)
    | refine AW.seq ?_
    | (refine AW.region ?_; conv => whnf)
    | refine AW.block ?_
    | (refine AW.skip ?_; conv => whnf)
    | (refine AW.ret ?_; conv => whnf)
    | (refine AW.exit ?_; conv => whnf)
    | refine AW.cond (by rfl) ?_
    | (refine AW.draw (id := 17) (.p 0 (.p 1 (.p 2 (.p 3 (.p 4 (.p 5 (.p 6 (.p 7 (.p 9 (.p 10 (.p 11 (.r 8 [13, 14, 15, 16] (.r 12 [13, 14, 15, 16] (.all [13] fun _ => (.p 14 (.p 15 (.p 16 .done))))))))))))))))) (by kernel_rfl) (by kernel_rfl) ?_; conv => whnf)
    | (refine Br.tt ?_; conv => whnf)
    | (refine Br.ff ?_; conv => whnf)
    | refine Br.not ?_
    | (refine Br.t (beq_self_eq_true _) ?_; conv => whnf)
    | (refine Br.t (by assumption) ?_; conv => whnf)
    | (refine Br.f (by assumption) ?_; conv => whnf)
    | (refine Br.dt (by omega) ?_; conv => whnf)
    | (refine Br.df (by omega) ?_; conv => whnf)
    | (refine Br.it (by omega) ?_; conv => whnf)
    | (refine Br.if (by omega) ?_; conv => whnf)
    | (refine Br.nt (by omega) ?_; conv => whnf)
    | (refine Br.nf (by omega) ?_; conv => whnf)
    | (refine Br.dec (fun hc => ?_) (fun hc => ?_) <;> conv => whnf)
    | (refine Br.ieq (fun hc => ?_) (fun hc => ?_) <;> conv => whnf)
    | (refine Br.ine (fun hc => ?_) (fun hc => ?_) <;> conv => whnf)
    | (refine Br.mk (fun hc => ?_) (fun hc => ?_) <;> conv => whnf)
    | (refine Wr.i64 (by omega) ?_; conv => whnf)
    | (refine Ck.mk (by omega) ?_; conv => whnf)
    | (refine Wr.i64 (by simp only [List.length_drop, List.length_take, List.length_append, List.length_cons, List.length_nil]; omega) ?_; conv => whnf)
    | (refine Ck.mk (by simp only [List.length_drop, List.length_take, List.length_append, List.length_cons, List.length_nil]; omega) ?_; conv => whnf)
    | (refine Has.load1 (by first | assumption | exact St.has (by assumption) (by repeat first | exact .head _ | apply List.Mem.tail) | exact St.arg (by assumption) (by assumption)) ?_; conv => whnf)
    | (refine Ck.mk (by simp; omega) ?_; conv => whnf))
  exact ⟨rfl, hs2⟩

theorem sortFunc_ok (R : RL) (L : List (Nat × Blk)) (b N C : Nat) (H0 hp : H) (hs : St H0 hp ((b, row (slcs R)) :: (blks R ++ L))) (hN : N = R.length) (hl : N ≤ 12) (hr : ∀ r ∈ R, r.2.length ≤ 1000) :
    AC env 63 [.slice b 0 N C, .func 64 []] hp fun v h' => v = .tup [] ∧ St H0 h' ((b, row (slcs (insO R (N - 1)))) :: (blks (insO R (N - 1)) ++ L)) := by
  refine AC.enter Try.func63 Try.call63 rfl Try.ntmps63 (of_decide_eq_true (by rfl)) ?_
  repeat' (first
    | (refine (bitsLen_ok _ _ (by omega)).mono ?_; rintro v h' ⟨⟨k, rfl, hk0, hk1⟩, e'⟩; subst h'; conv => whnf)
    | (refine (pdqsort_ok R L b N C _ H0 _ hs hN hl hr).mono ?_; rintro v h' ⟨rfl, hs2⟩; conv => whnf)
    | refine AW.seq ?_
    | (refine AW.region ?_; conv => whnf)
    | refine AW.block ?_
    | (refine AW.skip ?_; conv => whnf)
    | (refine AW.ret ?_; conv => whnf)
    | (refine AW.exit ?_; conv => whnf)
    | refine AW.cond (by rfl) ?_
    | (refine Br.tt ?_; conv => whnf)
    | (refine Br.ff ?_; conv => whnf)
    | refine Br.not ?_
    | (refine Br.t (beq_self_eq_true _) ?_; conv => whnf)
    | (refine Br.t (by assumption) ?_; conv => whnf)
    | (refine Br.f (by assumption) ?_; conv => whnf)
    | (refine Br.dt (by omega) ?_; conv => whnf)
    | (refine Br.df (by omega) ?_; conv => whnf)
    | (refine Br.it (by omega) ?_; conv => whnf)
    | (refine Br.if (by omega) ?_; conv => whnf)
    | (refine Br.nt (by omega) ?_; conv => whnf)
    | (refine Br.nf (by omega) ?_; conv => whnf)
    | (refine Br.dec (fun hc => ?_) (fun hc => ?_) <;> conv => whnf)
    | (refine Br.ieq (fun hc => ?_) (fun hc => ?_) <;> conv => whnf)
    | (refine Br.ine (fun hc => ?_) (fun hc => ?_) <;> conv => whnf)
    | (refine Br.mk (fun hc => ?_) (fun hc => ?_) <;> conv => whnf)
    | (refine Wr.i64 (by omega) ?_; conv => whnf)
    | (refine Ck.mk (by omega) ?_; conv => whnf)
    | (refine Wr.i64 (by simp only [List.length_drop, List.length_take, List.length_append, List.length_cons, List.length_nil]; omega) ?_; conv => whnf)
    | (refine Ck.mk (by simp only [List.length_drop, List.length_take, List.length_append, List.length_cons, List.length_nil]; omega) ?_; conv => whnf)
    | (refine Wr.u64 (by omega) ?_; conv => whnf)
    | (refine Ck.mk (by simp; omega) ?_; conv => whnf))
  exact ⟨rfl, hs2⟩

end Go.Proofs.Ytcepogfmajlcjaa

/-
  Plain laws of the insertion of rows are proved: both sides' sorts are one function.
  They hold for all rows.
-/
set_option linter.unusedVariables false
set_option linter.unusedSimpArgs false
namespace Go.Proofs.Ytcepogfmajlcjaa
open Go.Proofs.Ytcepogfmajlcjaa.Ab Go.Proofs.Ytcepogfmajlcjaa.Pl

/-- a row is put into a row of rows, from its end -/
def putQ (x : Nat × List Int) : RL → RL
  | [] => [x]
  | y :: l => if cmpL x.2 y.2 < 0 then y :: putQ x l else x :: y :: l
def putP (R : RL) (x : Nat × List Int) : RL := (putQ x R.reverse).reverse
def putLQ (x : List Int) : List (List Int) → List (List Int)
  | [] => [x]
  | y :: l => if cmpL x y < 0 then y :: putLQ x l else x :: y :: l
def putL (l : List (List Int)) (x : List Int) : List (List Int) := (putLQ x l.reverse).reverse
def sortL (l : List (List Int)) : List (List Int) := l.foldl putL []

theorem putP_snoc (R : RL) (y x : Nat × List Int) : putP (R ++ [y]) x = if cmpL x.2 y.2 < 0 then putP R x ++ [y] else R ++ [y] ++ [x] := by
  unfold putP
  rw [List.reverse_append, List.reverse_singleton, List.singleton_append, putQ]
  split
  · rw [List.reverse_cons]
  · simp
theorem putQ_rws (x : Nat × List Int) : ∀ R : RL, rws (putQ x R) = putLQ x.2 (rws R)
  | [] => rfl
  | y :: R => by
    rw [putQ]
    simp only [rws, List.map_cons, putLQ]
    split
    · rw [List.map_cons]
      have := putQ_rws x R
      simp only [rws] at this
      rw [this]
    · rfl
theorem putP_rws (R : RL) (x : Nat × List Int) : rws (putP R x) = putL (rws R) x.2 := by
  unfold putP putL
  have := putQ_rws x R.reverse
  simp only [rws] at this ⊢
  rw [List.map_reverse, this, List.map_reverse]
theorem putQ_perm (x : Nat × List Int) : ∀ R : RL, (putQ x R).Perm (x :: R)
  | [] => List.Perm.refl _
  | y :: R => by
    rw [putQ]
    split
    · exact ((putQ_perm x R).cons y).trans (List.Perm.swap x y R)
    · exact List.Perm.refl _
theorem putP_perm (R : RL) (x : Nat × List Int) : (putP R x).Perm (x :: R) :=
  (List.reverse_perm _).trans ((putQ_perm x R.reverse).trans ((List.reverse_perm R).cons x))
theorem putP_len (R : RL) (x : Nat × List Int) : (putP R x).length = R.length + 1 := (putP_perm R x).length_eq
theorem putLQ_perm (x : List Int) : ∀ R : List (List Int), (putLQ x R).Perm (x :: R)
  | [] => List.Perm.refl _
  | y :: R => by
    rw [putLQ]
    split
    · exact ((putLQ_perm x R).cons y).trans (List.Perm.swap x y R)
    · exact List.Perm.refl _
theorem putL_perm (R : List (List Int)) (x : List Int) : (putL R x).Perm (x :: R) :=
  (List.reverse_perm _).trans ((putLQ_perm x R.reverse).trans ((List.reverse_perm R).cons x))
theorem putL_len (R : List (List Int)) (x : List Int) : (putL R x).length = R.length + 1 := (putL_perm R x).length_eq
theorem foldPut_perm : ∀ (l acc : List (List Int)), (l.foldl putL acc).Perm (acc ++ l)
  | [], acc => by simp
  | x :: l, acc => by
    rw [List.foldl_cons]
    refine (foldPut_perm l (putL acc x)).trans ?_
    refine ((putL_perm acc x).append_right l).trans ?_
    rw [List.cons_append]
    exact List.perm_middle.symm
theorem sortL_perm (l : List (List Int)) : (sortL l).Perm l := by
  have := foldPut_perm l []
  rwa [List.nil_append] at this
theorem sortL_len (l : List (List Int)) : (sortL l).length = l.length := (sortL_perm l).length_eq

/-- where a row is put: behind the last one that is not greater -/
theorem snoc_cases {α : Type} (l : List α) : l = [] ∨ ∃ m y, l = m ++ [y] :=
  (List.eq_nil_or_concat l).imp id fun ⟨m, y, e⟩ => ⟨m, y, by rw [e, List.concat_eq_append]⟩
theorem putP_at (x : Nat × List Int) : ∀ (n : Nat) (R : RL) (k : Nat), R.length = n → k ≤ n → (∀ j, k ≤ j → j < n → cmpL x.2 (rl R j) < 0) → (k = 0 ∨ ¬ cmpL x.2 (rl R (k - 1)) < 0) → putP R x = R.take k ++ [x] ++ R.drop k
  | 0, R, k, hn, hk, _, _ => by
    have : R = [] := List.eq_nil_of_length_eq_zero hn
    subst this
    simp [putP, putQ]
  | n + 1, R, k, hn, hk, h1, h2 => by
    rcases snoc_cases R with rfl | ⟨M, y, rfl⟩
    · simp at hn
    have hm : M.length = n := by simpa using hn
    rw [putP_snoc]
    have ey : rl (M ++ [y]) n = y.2 := by unfold rl; simp [← hm]
    by_cases e : k = n + 1
    · subst e
      rw [if_neg (by rcases h2 with h2 | h2; exact absurd h2 (by omega); rwa [Nat.add_sub_cancel, ey] at h2)]
      rw [List.take_of_length_le (by simp; omega), List.drop_eq_nil_of_le (by simp; omega)]
      simp
    · have hc := h1 n (by omega) (by omega)
      rw [ey] at hc
      rw [if_pos hc, putP_at x n M k hm (by omega) (fun j a b => by
        have := h1 j a (by omega)
        rwa [rl_before _ _ (by omega)] at this) (by
          by_cases k0 : k = 0
          · exact .inl k0
          · refine .inr ?_
            rcases h2 with h2 | h2
            · exact absurd h2 k0
            · rwa [rl_before _ _ (by omega)] at h2)]
      rw [List.take_append_of_le_length (by omega), List.drop_append_of_le_length (by omega)]
      simp

theorem set2_mid (A : RL) (y x : Nat × List Int) (B : RL) : swp (A ++ y :: x :: B) A.length = A ++ x :: y :: B := by
  unfold swp
  have e0 : (A ++ y :: x :: B).getD A.length (0, []) = y := by simp [List.getD]
  have e1 : (A ++ y :: x :: B).getD (A.length + 1) (0, []) = x := by simp [List.getD, List.getElem?_append_right]
  rw [e0, e1, List.set_append_right _ _ (by omega), List.set_append_right _ _ (by omega)]
  simp
theorem insJ_put (x : Nat × List Int) : ∀ (n : Nat) (A B : RL), A.length = n → insJ n (A ++ x :: B) = putP A x ++ B
  | 0, A, B, h => by
    have : A = [] := List.eq_nil_of_length_eq_zero h
    subst this
    simp [insJ, putP, putQ]
  | n + 1, A, B, h => by
    rcases snoc_cases A with rfl | ⟨M, y, rfl⟩
    · simp at h
    have hm : M.length = n := by simpa using h
    subst hm
    rw [insJ, putP_snoc]
    have e0 : rl (M ++ [y] ++ x :: B) M.length = y.2 := by unfold rl; simp [List.getD]
    have e1 : rl (M ++ [y] ++ x :: B) (M.length + 1) = x.2 := by unfold rl; simp [List.getD, List.getElem?_append_right]
    rw [e0, e1]
    split
    · have : M ++ [y] ++ x :: B = M ++ y :: x :: B := by simp
      rw [this, set2_mid, insJ_put x _ M (y :: B) rfl]
      simp
    · simp
theorem insO_put (R : RL) : ∀ i, i < R.length → insO R i = (R.take (i + 1)).foldl putP [] ++ R.drop (i + 1)
  | 0, h => by
    cases R with
    | nil => simp at h
    | cons x R => simp [insO, putP, putQ]
  | i + 1, h => by
    rw [insO, insO_put R i (by omega), List.drop_eq_getElem_cons h]
    have hl : ((R.take (i + 1)).foldl putP []).length = i + 1 := by
      have : ∀ (l acc : RL), (l.foldl putP acc).length = acc.length + l.length := by
        intro l
        induction l with
        | nil => intro acc; simp
        | cons x l ih => intro acc; rw [List.foldl_cons, ih, putP_len]; simp; omega
      rw [this]
      simp
      omega
    rw [insJ_put _ _ _ _ hl, List.take_succ_eq_append_getElem h, List.foldl_append]
    rfl
theorem foldPut_rws : ∀ (l acc : RL), rws (l.foldl putP acc) = (rws l).foldl putL (rws acc)
  | [], acc => rfl
  | x :: l, acc => by
    rw [List.foldl_cons, foldPut_rws l, putP_rws]
    rfl
theorem insO_rws (R : RL) : rws (insO R (R.length - 1)) = sortL (rws R) := by
  cases R with
  | nil => rfl
  | cons x R =>
    rw [insO_put _ _ (by simp), show (x :: R).length - 1 + 1 = (x :: R).length by simp, List.take_of_length_le (Nat.le_refl _), List.drop_eq_nil_of_le (Nat.le_refl _), List.append_nil, foldPut_rws]
    rfl
theorem sortL_snoc (l : List (List Int)) (x : List Int) : sortL (l ++ [x]) = putL (sortL l) x := by
  unfold sortL
  rw [List.foldl_append]
  rfl

/-! the order is total -/
theorem cmpL_flip : ∀ a b : List Int, cmpL a b = - cmpL b a
  | [], [] => rfl
  | [], _ :: _ => rfl
  | _ :: _, [] => rfl
  | x :: l, y :: m => by
    rw [cmpL, cmpL]
    have := cmpL_flip l m
    split
    · rw [if_neg (by omega)]
    · split
      · rfl
      · exact this
theorem cmpL_refl (a : List Int) : cmpL a a = 0 := by have := cmpL_flip a a; omega
theorem cmpL_eq : ∀ a b : List Int, cmpL a b = 0 → a = b
  | [], [], _ => rfl
  | [], _ :: _, h => by rw [cmpL] at h; omega
  | _ :: _, [], h => by rw [cmpL] at h; omega
  | x :: l, y :: m, h => by
    rw [cmpL] at h
    split at h
    · omega
    · split at h
      · omega
      · rw [cmpL_eq l m h, show x = y by omega]
theorem cmpL_trans : ∀ a b c : List Int, cmpL a b ≤ 0 → cmpL b c ≤ 0 → cmpL a c ≤ 0
  | [], _, [], _, _ => by rw [cmpL]; omega
  | [], _, _ :: _, _, _ => by rw [cmpL]; omega
  | _ :: _, [], _, h, _ => by rw [cmpL] at h; omega
  | _ :: _, _ :: _, [], _, h => by rw [cmpL] at h; omega
  | x :: l, y :: m, z :: n, h, k => by
    rw [cmpL] at h k ⊢
    have := cmpL_trans l m n
    split at h
    · split at k
      · rw [if_pos (by omega)]; omega
      · split at k
        · omega
        · rw [if_pos (by omega)]; omega
    · split at h
      · omega
      · split at k
        · rw [if_pos (by omega)]; omega
        · split at k
          · omega
          · rw [if_neg (by omega), if_neg (by omega)]
            exact this h k
def leL (a b : List Int) : Prop := cmpL a b ≤ 0
theorem putLQ_sorted (x : List Int) : ∀ l : List (List Int), l.Pairwise (fun a b => leL b a) → (putLQ x l).Pairwise fun a b => leL b a
  | [], _ => by simp [putLQ]
  | y :: l, h => by
    have h' := List.pairwise_cons.1 h
    rw [putLQ]
    split
    · rename_i c
      refine List.pairwise_cons.2 ⟨fun z hz => ?_, putLQ_sorted x l h'.2⟩
      cases (putLQ_perm x l).mem_iff.1 hz with
      | head => unfold leL; omega
      | tail _ hz => exact h'.1 z hz
    · rename_i c
      refine List.pairwise_cons.2 ⟨fun z hz => ?_, h⟩
      have e : leL y x := by unfold leL; have := cmpL_flip x y; omega
      cases hz with
      | head => exact e
      | tail _ hz => exact cmpL_trans _ _ _ (h'.1 z hz) e
theorem putL_sorted (l : List (List Int)) (x : List Int) (h : l.Pairwise leL) : (putL l x).Pairwise leL := by
  unfold putL
  rw [List.pairwise_reverse]
  exact putLQ_sorted x _ (by rw [List.pairwise_reverse]; exact h)
theorem sortL_sorted (l : List (List Int)) : (sortL l).Pairwise leL := by
  unfold sortL
  have : ∀ (l acc : List (List Int)), acc.Pairwise leL → (l.foldl putL acc).Pairwise leL := by
    intro l
    induction l with
    | nil => intro acc h; exact h
    | cons x l ih => intro acc h; exact ih _ (putL_sorted acc x h)
  exact this l [] List.Pairwise.nil
theorem sorted_eq : ∀ l m : List (List Int), l.Pairwise leL → m.Pairwise leL → l.Perm m → l = m
  | [], m, _, _, p => (List.nil_perm.1 p).symm
  | x :: l, [], _, _, p => absurd p.length_eq (by simp)
  | x :: l, y :: m, h, k, p => by
    have h' := List.pairwise_cons.1 h
    have k' := List.pairwise_cons.1 k
    have e : x = y := by
      have hy : y ∈ x :: l := p.mem_iff.2 (.head _)
      have hx : x ∈ y :: m := p.mem_iff.1 (.head _)
      cases hy with
      | head => rfl
      | tail _ hy =>
        cases hx with
        | head => rfl
        | tail _ hx =>
          have a := h'.1 y hy
          have b := k'.1 x hx
          unfold leL at a b
          have := cmpL_flip x y
          exact cmpL_eq _ _ (by omega)
    subst e
    rw [sorted_eq l m h'.2 k'.2 (List.Perm.cons_inv p)]
theorem sortL_eq {l m : List (List Int)} (h : m.Pairwise leL) (p : l.Perm m) : sortL l = m := sorted_eq _ _ (sortL_sorted l) h ((sortL_perm l).trans p)

end Go.Proofs.Ytcepogfmajlcjaa

/-
  Plain laws of triangulations, as numbers, are proved by a search that finds all of them.
  They hold for up to ten corners.
-/
set_option linter.unusedVariables false
set_option linter.unusedSimpArgs false
namespace Go.Proofs.Ytcepogfmajlcjaa.Pl

/-! tests over lists, in a form that is quick to check -/
noncomputable def allR (p : Nat → Bool) (l : List Nat) : Bool := @List.rec Nat (fun _ => Bool) true (fun x _ ih => bif p x then ih else false) l
noncomputable def filR (p : Nat → Bool) (l : List Nat) : List Nat := @List.rec Nat (fun _ => List Nat) [] (fun x _ ih => bif p x then x :: ih else ih) l
theorem allR_all {p : Nat → Bool} : ∀ {l : List Nat}, allR p l = true → ∀ x ∈ l, p x = true
  | [], _, x, hx => by cases hx
  | y :: l, h, x, hx => by
    have h : (bif p y then allR p l else false) = true := h
    cases e : p y with
    | false => rw [e] at h; cases h
    | true =>
      rw [e] at h
      cases hx with
      | head => exact e
      | tail _ hx => exact allR_all h x hx
theorem filR_eq (p : Nat → Bool) : ∀ l : List Nat, filR p l = l.filter p
  | [] => rfl
  | x :: l => by
    have e : filR p (x :: l) = bif p x then x :: filR p l else filR p l := rfl
    rw [e, filR_eq p l, List.filter_cons]
    cases p x <;> rfl

/-! a diagonal from a to b is the number 16 a + b -/
def crH (a b c d : Nat) : Bool := bif Nat.ble (Nat.succ a) c then (bif Nat.ble (Nat.succ c) b then Nat.ble (Nat.succ b) d else false) else (bif Nat.ble (Nat.succ c) a then (bif Nat.ble (Nat.succ a) d then Nat.ble (Nat.succ d) b else false) else false)
def crC (x y : Nat) : Bool := crH (Nat.div x 16) (Nat.mod x 16) (Nat.div y 16) (Nat.mod y 16)
def dgC (n c : Nat) : Bool := bif Nat.ble (Nat.add (Nat.div c 16) 2) (Nat.mod c 16) then (bif Nat.ble (Nat.succ (Nat.mod c 16)) n then (bif Nat.beq (Nat.div c 16) 0 then !(Nat.beq (Nat.succ (Nat.mod c 16)) n) else true) else false) else false
theorem ble_of {a b : Nat} : Nat.ble a b = decide (a ≤ b) := by
  cases h : Nat.ble a b with
  | true => rw [decide_eq_true (Nat.le_of_ble_eq_true h)]
  | false => rw [decide_eq_false fun g => by rw [Nat.ble_eq_true_of_le g] at h; cases h]
theorem beq_of {a b : Nat} : Nat.beq a b = decide (a = b) := by
  cases h : Nat.beq a b with
  | true => rw [decide_eq_true (Nat.eq_of_beq_eq_true h)]
  | false => rw [decide_eq_false fun g => by subst g; rw [Nat.beq_refl] at h; cases h]
theorem cond_decide {α : Type} {p : Prop} [Decidable p] (x y : α) : (bif decide p then x else y) = if p then x else y := by
  by_cases h : p <;> simp [h]
theorem crH_iff (a b c d : Nat) : crH a b c d = true ↔ (a < c ∧ c < b ∧ b < d) ∨ (c < a ∧ a < d ∧ d < b) := by
  unfold crH
  simp only [ble_of, cond_decide]
  split
  · split
    · simp; omega
    · simp; omega
  · split
    · split
      · simp; omega
      · simp; omega
    · simp; omega
theorem crC_iff (x y : Nat) : crC x y = true ↔ (x / 16 < y / 16 ∧ y / 16 < x % 16 ∧ x % 16 < y % 16) ∨ (y / 16 < x / 16 ∧ x / 16 < y % 16 ∧ y % 16 < x % 16) := crH_iff _ _ _ _
theorem crC_symm (x y : Nat) : crC x y = crC y x := by
  rw [Bool.eq_iff_iff, crC_iff, crC_iff]
  omega
theorem dgC_iff (n c : Nat) : dgC n c = true ↔ c / 16 + 2 ≤ c % 16 ∧ c % 16 < n ∧ ¬ (c / 16 = 0 ∧ c % 16 + 1 = n) := by
  have e1 : Nat.div c 16 = c / 16 := rfl
  have e2 : Nat.mod c 16 = c % 16 := rfl
  have e3 : Nat.add (c / 16) 2 = c / 16 + 2 := rfl
  unfold dgC
  rw [e1, e2, e3]
  simp only [ble_of, beq_of, cond_decide]
  split
  · split
    · split
      · simp; omega
      · simp; omega
    · simp; omega
  · simp; omega
def candC (n : Nat) : List Nat := (List.range 160).filter (dgC n)

noncomputable def stepC (f : List Nat → List Nat → Bool) (acc : List Nat) (l : List Nat) : Bool :=
  @List.rec Nat (fun _ => Bool) true (fun c t ih => bif f (c :: acc) (filR (fun x => !crC c x) t) then ih else false) l
/-- all choices of so many diagonals that do not cross pass a test (they come in reverse) -/
noncomputable def allC (P : List Nat → Bool) (k : Nat) : List Nat → List Nat → Bool :=
  @Nat.rec (fun _ => List Nat → List Nat → Bool) (fun acc _ => P acc) (fun k ih acc cs => bif Nat.ble (Nat.succ k) cs.length then stepC ih acc cs else true) k

theorem stepC_cons (f : List Nat → List Nat → Bool) (acc : List Nat) (c : Nat) (t : List Nat) : stepC f acc (c :: t) = bif f (c :: acc) (t.filter fun x => !crC c x) then stepC f acc t else false := by
  rw [← filR_eq]
  rfl
theorem stepC_spec {f : List Nat → List Nat → Bool} {acc : List Nat} : ∀ {cs : List Nat}, stepC f acc cs = true → ∀ c t, (c :: t).Sublist cs → (∀ x ∈ t, crC c x = false) → ∃ cs', f (c :: acc) cs' = true ∧ t.Sublist cs'
  | [], _, c, t, h, _ => by cases h
  | d :: cs, h, c, t, hs, hx => by
    rw [stepC_cons] at h
    cases e : f (d :: acc) (cs.filter fun x => !crC d x) with
    | false => rw [e] at h; cases h
    | true =>
      rw [e, cond_true] at h
      cases hs with
      | cons _ hs => exact stepC_spec h c t hs hx
      | cons_cons _ hs =>
        refine ⟨_, e, ?_⟩
        have := hs.filter fun x => !crC d x
        rwa [List.filter_eq_self.2 (fun x hx' => by rw [hx x hx']; rfl)] at this

theorem allC_spec {P : List Nat → Bool} : ∀ {k : Nat} {acc cs : List Nat}, allC P k acc cs = true → ∀ l : List Nat, l.length = k → l.Sublist cs → l.Pairwise (fun x y => crC x y = false) → P (l.reverse ++ acc) = true
  | 0, acc, cs, h, l, hl, _, _ => by
    rw [List.eq_nil_of_length_eq_zero hl]
    exact h
  | k + 1, acc, cs, h, [], hl, _, _ => by simp at hl
  | k + 1, acc, cs, h, c :: t, hl, hs, hp => by
    have h : (bif Nat.ble (k + 1) cs.length then stepC (allC P k) acc cs else true) = true := h
    have e : Nat.ble (k + 1) cs.length = true := Nat.ble_eq_true_of_le (by rw [← hl]; exact hs.length_le)
    rw [e, cond_true] at h
    obtain ⟨cs', h1, h2⟩ := stepC_spec h c t hs fun x hx => (List.pairwise_cons.1 hp).1 x hx
    have := allC_spec h1 t (by simpa using hl) h2 (List.pairwise_cons.1 hp).2
    simpa using this

theorem sub_of_sorted : ∀ {m l : List Nat}, m.Pairwise (· < ·) → l.Pairwise (· < ·) → (∀ x ∈ l, x ∈ m) → l.Sublist m
  | [], l, _, _, h => by
    cases l with
    | nil => exact List.Sublist.slnil
    | cons x l => exact absurd (h x (.head _)) (by simp)
  | a :: m, [], _, _, _ => List.nil_sublist _
  | a :: m, x :: l, hm, hl, h => by
    have hm' := List.pairwise_cons.1 hm
    have hl' := List.pairwise_cons.1 hl
    by_cases e : x = a
    · subst e
      refine List.Sublist.cons_cons _ (sub_of_sorted hm'.2 hl'.2 fun y hy => ?_)
      have h1 := h y (.tail _ hy)
      have h2 := hl'.1 y hy
      cases h1 with
      | head => omega
      | tail _ h1 => exact h1
    · refine List.Sublist.cons _ (sub_of_sorted hm'.2 hl fun y hy => ?_)
      have h1 := h y hy
      have hx : x ∈ m := by
        have := h x (.head _)
        cases this with
        | head => exact absurd rfl e
        | tail _ h1 => exact h1
      have h3 := hm'.1 x hx
      cases h1 with
      | head =>
        cases hy with
        | head => exact absurd rfl e
        | tail _ hy => have := hl'.1 _ hy; omega
      | tail _ h1 => exact h1

theorem candC_sorted (n : Nat) : (candC n).Pairwise (· < ·) := List.Pairwise.filter _ List.pairwise_lt_range

/-- a triangulation, as numbers -/
structure TriC (n : Nat) (l : List Nat) : Prop where
  len : l.length = n - 3
  dg : ∀ c ∈ l, dgC n c = true ∧ c < 160
  up : l.Pairwise (· < ·)
  nc : l.Pairwise fun x y => crC x y = false
theorem TriC.all {n : Nat} {l : List Nat} (h : TriC n l) {P : List Nat → Bool} (hP : allC P (n - 3) [] (candC n) = true) : P l.reverse = true := by
  have := allC_spec hP l h.len (sub_of_sorted (candC_sorted n) h.up fun x hx => List.mem_filter.2 ⟨List.mem_range.2 (h.dg x hx).2, (h.dg x hx).1⟩) h.nc
  rwa [List.append_nil] at this

/-! joined corners, corners joined with both ends, flips -/
noncomputable def mskC (l : List Nat) : Nat := @List.rec Nat (fun _ => Nat) 0 (fun x _ ih => Nat.lor ih (Nat.shiftLeft 1 x)) l
def tb (m c : Nat) : Bool := Nat.beq (Nat.land (Nat.shiftRight m c) 1) 1
theorem tb_eq (m c : Nat) : tb m c = m.testBit c := by
  have e : Nat.land (Nat.shiftRight m c) 1 = (m >>> c) &&& 1 := rfl
  unfold tb
  rw [e, beq_of, Nat.and_one_is_mod, Nat.testBit_eq_decide_div_mod_eq, Nat.shiftRight_eq_div_pow]
theorem tb_mask : ∀ (l : List Nat) (c : Nat), tb (mskC l) c = true ↔ c ∈ l
  | [], c => by rw [tb_eq]; simp [mskC]
  | x :: l, c => by
    have ih := tb_mask l c
    rw [tb_eq] at ih ⊢
    have e : mskC (x :: l) = mskC l ||| (1 <<< x) := rfl
    rw [e, Nat.testBit_or, Nat.one_shiftLeft, Nat.testBit_two_pow, Bool.or_eq_true, ih, decide_eq_true_eq, List.mem_cons, or_comm]
    exact ⟨fun h => h.imp Eq.symm id, fun h => h.imp Eq.symm id⟩
def jnC (n m a b : Nat) : Bool := bif Nat.beq b (Nat.succ a) then true else bif tb m (Nat.add (Nat.mul 16 a) b) then true else bif Nat.beq a 0 then Nat.beq (Nat.succ b) n else false
def jmC (n m a b : Nat) : Bool := bif Nat.ble a b then jnC n m a b else jnC n m b a
noncomputable def thC (n m a b : Nat) : List Nat := filR (fun c => bif Nat.beq c a then false else bif Nat.beq c b then false else bif jmC n m c a then jmC n m c b else false) (List.range n)
/-- the flip of each diagonal is one again, and its corners are two -/
noncomputable def flip1 (n : Nat) (r : List Nat) (x : Nat) (t : List Nat) : Bool :=
  @List.rec Nat (fun _ => Bool) false (fun p t _ => @List.rec Nat (fun _ => Bool) false (fun q t _ => @List.rec Nat (fun _ => Bool)
    (bif dgC n (Nat.add (Nat.mul 16 p) q) then allR (fun y => bif Nat.beq y x then true else bif Nat.beq y (Nat.add (Nat.mul 16 p) q) then false else !crC y (Nat.add (Nat.mul 16 p) q)) r else false) (fun _ _ _ => false) t) t) t
noncomputable def flipOk (n : Nat) (r : List Nat) : Bool := allR (fun x => flip1 n r x (thC n (mskC r) (Nat.div x 16) (Nat.mod x 16))) r

end Go.Proofs.Ytcepogfmajlcjaa.Pl

/-
  All flips of triangulations are triangulations: one check over all of them.
  It holds for up to ten corners.
-/
set_option linter.unusedVariables false
set_option linter.unusedSimpArgs false
namespace Go.Proofs.Ytcepogfmajlcjaa.Pl
set_option maxRecDepth 100000 in
theorem flips_low : allR (fun m => allC (flipOk m) (m - 3) [] (candC m)) [2, 3, 4, 5, 6, 7, 8] = true := by decide +kernel
set_option maxRecDepth 100000 in
theorem flips_nine : allC (flipOk 9) 6 [] (candC 9) = true := by decide +kernel
set_option maxRecDepth 100000 in
theorem flips_ten : allC (flipOk 10) 7 [] (candC 10) = true := by decide +kernel
theorem flips_fine {n : Nat} (h : 2 ≤ n ∧ n ≤ 10) : allC (flipOk n) (n - 3) [] (candC n) = true := by
  by_cases c : n ≤ 8
  · exact allR_all flips_low n (by simp; omega)
  · by_cases d : n = 9
    · subst d; exact flips_nine
    · rw [show n = 10 by omega]; exact flips_ten
end Go.Proofs.Ytcepogfmajlcjaa.Pl

/-
  Plain laws of triangulations as rows of diagonals are proved, by their numbers.
  They hold for up to ten corners.
-/
set_option linter.unusedVariables false
set_option linter.unusedSimpArgs false
namespace Go.Proofs.Ytcepogfmajlcjaa
open Go.Proofs.Ytcepogfmajlcjaa.Ab Go.Proofs.Ytcepogfmajlcjaa.Pl

def diagOk (n : Int) (x : List Int) : Prop := x.length = 2 ∧ 0 ≤ x.getD 0 0 ∧ x.getD 0 0 + 2 ≤ x.getD 1 0 ∧ x.getD 1 0 ≤ n - 1 ∧ ¬ (x.getD 0 0 = 0 ∧ x.getD 1 0 = n - 1)
instance (n : Int) (x : List Int) : Decidable (diagOk n x) := inferInstanceAs (Decidable (_ ∧ _))
def crossR (x y : List Int) : Prop := (x.getD 0 0 < y.getD 0 0 ∧ y.getD 0 0 < x.getD 1 0 ∧ x.getD 1 0 < y.getD 1 0) ∨ (y.getD 0 0 < x.getD 0 0 ∧ x.getD 0 0 < y.getD 1 0 ∧ y.getD 1 0 < x.getD 1 0)
instance (x y : List Int) : Decidable (crossR x y) := inferInstanceAs (Decidable (_ ∨ _))
def triRow (n : Int) (f : List (List Int)) (i : Nat) : Prop := diagOk n (f.getD i []) ∧ (0 < i → cmpL (f.getD (i - 1) []) (f.getD i []) < 0) ∧ ∀ k, k < i → ¬ crossR (f.getD k []) (f.getD i [])
instance (n : Int) (f : List (List Int)) (i : Nat) : Decidable (triRow n f i) := inferInstanceAs (Decidable (_ ∧ (0 < i → _) ∧ ∀ k, k < i → _))
def triSz (n : Int) (f : List (List Int)) : Prop := (2 ≤ n ∧ n ≤ 10) ∧ (f.length : Int) = max 0 (n - 3)
instance (n : Int) (f : List (List Int)) : Decidable (triSz n f) := inferInstanceAs (Decidable (_ ∧ _))
def isTri (n : Int) (f : List (List Int)) : Bool := decide (triSz n f ∧ ∀ i, i < f.length → triRow n f i)
theorem isTri_spec {n : Int} {f : List (List Int)} (h : isTri n f = true) : triSz n f ∧ ∀ i, i < f.length → triRow n f i := of_decide_eq_true h
theorem isTri_no {n : Int} {f : List (List Int)} (h : ¬ triSz n f) : isTri n f = false := decide_eq_false fun a => h a.1
theorem isTri_row {n : Int} {f : List (List Int)} {i : Nat} (hi : i < f.length) (h : ¬ triRow n f i) : isTri n f = false := decide_eq_false fun a => h (a.2 i hi)
theorem isTri_yes {n : Int} {f : List (List Int)} (h : triSz n f) (k : ∀ i, i < f.length → triRow n f i) : isTri n f = true := decide_eq_true ⟨h, k⟩

/-! rows and numbers -/
def encR (x : List Int) : Nat := (16 * x.getD 0 0 + x.getD 1 0).toNat
def decR (c : Nat) : List Int := [((c / 16 : Nat) : Int), ((c % 16 : Nat) : Int)]
theorem two_of {x : List Int} (h : x.length = 2) : x = [x.getD 0 0, x.getD 1 0] := by
  match x, h with
  | [a, b], _ => rfl
theorem decR_enc {n : Int} {x : List Int} (h : diagOk n x) (hn : n ≤ 10) : decR (encR x) = x := by
  obtain ⟨h1, h2, h3, h4, h5⟩ := h
  rw [two_of h1]
  generalize x.getD 0 0 = a at *
  generalize x.getD 1 0 = b at *
  unfold decR encR
  simp only [List.getD_cons_zero, List.getD_cons_succ]
  have e1 : (((16 * a + b).toNat / 16 : Nat) : Int) = a := by omega
  have e2 : (((16 * a + b).toNat % 16 : Nat) : Int) = b := by omega
  rw [e1, e2]
theorem encR_parts {n : Int} {x : List Int} (h : diagOk n x) (hn : n ≤ 10) : ((encR x / 16 : Nat) : Int) = x.getD 0 0 ∧ ((encR x % 16 : Nat) : Int) = x.getD 1 0 := by
  obtain ⟨h1, h2, h3, h4, h5⟩ := h
  unfold encR
  omega
theorem dgC_enc {N : Nat} {x : List Int} (h : diagOk N x) (hn : N ≤ 10) : dgC N (encR x) = true ∧ encR x < 160 := by
  have e := encR_parts h (by omega)
  obtain ⟨h1, h2, h3, h4, h5⟩ := h
  rw [dgC_iff]
  refine ⟨⟨by omega, by omega, ?_⟩, by omega⟩
  omega
theorem crC_enc {N : Int} {x y : List Int} (h : diagOk N x) (k : diagOk N y) (hn : N ≤ 10) (c : ¬ crossR x y) : crC (encR x) (encR y) = false := by
  have e := encR_parts h hn
  have g := encR_parts k hn
  unfold crossR at c
  rw [Bool.eq_false_iff]
  simp only [ne_eq, crC_iff]
  omega
theorem cmp_enc {N : Int} {x y : List Int} (h : diagOk N x) (k : diagOk N y) (hn : N ≤ 10) : cmpL x y < 0 ↔ encR x < encR y := by
  have e := encR_parts h hn
  have g := encR_parts k hn
  rw [two_of h.1, two_of k.1]
  rw [two_of h.1] at e
  rw [two_of k.1] at g
  simp only [List.getD_cons_zero, List.getD_cons_succ] at e g
  obtain ⟨h1, h2, h3, h4, h5⟩ := h
  obtain ⟨k1, k2, k3, k4, k5⟩ := k
  simp only [cmpL]
  split
  · omega
  · split
    · omega
    · split
      · omega
      · split
        · omega
        · omega

theorem getD_map_enc (f : List (List Int)) {i : Nat} (h : i < f.length) : (f.map encR).getD i 0 = encR (f.getD i []) := by
  simp [List.getD, h]
theorem isTri_up {n : Int} {f : List (List Int)} (h : isTri n f = true) : ∀ j, j < f.length → ∀ i, i < j → encR (f.getD i []) < encR (f.getD j []) := by
  have s := isTri_spec h
  intro j
  induction j with
  | zero => intro _ i hi; omega
  | succ j ih =>
    intro hj i hi
    have a := s.2 (j + 1) hj
    have b := s.2 j (by omega)
    have c := (cmp_enc b.1 a.1 s.1.1.2).1 (a.2.1 (by omega))
    by_cases e : i = j
    · subst e; exact c
    · have := ih (by omega) i (by omega)
      omega
theorem isTri_codes {N : Nat} {f : List (List Int)} (h : isTri N f = true) : TriC N (f.map encR) := by
  have s := isTri_spec h
  have n10 : N ≤ 10 := by have := s.1.1.2; omega
  refine ⟨?_, fun c hc => ?_, ?_, ?_⟩
  · rw [List.length_map]
    have := s.1.2
    omega
  · obtain ⟨x, hx, rfl⟩ := List.mem_map.1 hc
    obtain ⟨i, hi, rfl⟩ := List.getElem_of_mem hx
    have := (s.2 i hi).1
    have e : f.getD i [] = f[i] := by simp [List.getD, hi]
    rw [e] at this
    exact dgC_enc this n10
  · rw [List.pairwise_iff_getElem]
    intro i j hi hj hij
    have := isTri_up h j (by simpa using hj) i hij
    simp only [List.length_map] at hi hj
    simpa [List.getD, hi, hj] using this
  · rw [List.pairwise_iff_getElem]
    intro i j hi hj hij
    simp only [List.length_map] at hi hj
    have a := s.2 j hj
    have := crC_enc (s.2 i hi).1 a.1 s.1.1.2 (a.2.2 i hij)
    simpa [List.getD, hi, hj] using this
theorem map_dec {n : Int} {f : List (List Int)} (h : isTri n f = true) : (f.map encR).map decR = f := by
  have s := isTri_spec h
  apply List.ext_getElem (by simp)
  intro i h1 h2
  have := decR_enc (s.2 i h2).1 s.1.1.2
  simpa [List.getD, h2] using this

/-! joined corners -/
def jnR (n : Int) (f : List (List Int)) (a b : Int) : Bool := decide (b = a + 1 ∨ (a = 0 ∧ b = n - 1) ∨ ∃ i, i < f.length ∧ ent f i 0 = a ∧ ent f i 1 = b)
/-- the numbers of a triangulation, in reverse -/
def revC (f : List (List Int)) : List Nat := (f.map encR).reverse
theorem tb_rev (f : List (List Int)) (c : Nat) : tb (mskC (revC f)) c = true ↔ ∃ x ∈ f, encR x = c := by
  rw [tb_mask, revC, List.mem_reverse, List.mem_map]
theorem jnC_iff (n m a b : Nat) : jnC n m a b = true ↔ b = a + 1 ∨ tb m (16 * a + b) = true ∨ (a = 0 ∧ b + 1 = n) := by
  have e : Nat.add (Nat.mul 16 a) b = 16 * a + b := rfl
  unfold jnC
  rw [e, beq_of, beq_of, beq_of]
  simp only [cond_decide]
  by_cases c1 : b = a + 1
  · simp [c1]
  · rw [if_neg c1]
    cases tb m (16 * a + b) with
    | true => simp
    | false =>
      simp only [cond_false]
      split
      · simp [c1]; omega
      · simp [c1]; omega
theorem jnR_code {N : Nat} {f : List (List Int)} (h : isTri N f = true) {a b : Nat} (hb : b < 16) : jnR N f a b = jnC N (mskC (revC f)) a b := by
  have s := isTri_spec h
  have n2 := s.1.1.1
  unfold jnR
  rw [Bool.eq_iff_iff, decide_eq_true_iff, jnC_iff, tb_rev]
  constructor
  · rintro (e | ⟨e1, e2⟩ | ⟨i, hi, e1, e2⟩)
    · left; omega
    · right; right; omega
    · right; left
      refine ⟨f.getD i [], ?_, ?_⟩
      · simp [List.getD, hi]
      · unfold ent at e1 e2
        unfold encR
        rw [e1, e2]
        omega
  · rintro (e | e | ⟨e1, e2⟩)
    · left; omega
    · right; right
      obtain ⟨x, hx, e⟩ := e
      obtain ⟨i, hi, rfl⟩ := List.getElem_of_mem hx
      have p := encR_parts (s.2 i hi).1 s.1.1.2
      have eg : f.getD i [] = f[i] := by simp [List.getD, hi]
      refine ⟨i, hi, ?_, ?_⟩
      · unfold ent
        rw [← p.1, eg, e]
        omega
      · unfold ent
        rw [← p.2, eg, e]
        omega
    · right; left; omega
def thR (N : Nat) (f : List (List Int)) (k : Nat) : List Nat := (List.range N).filter fun (c : Nat) => decide ((c : Int) ≠ ent f k 0) && decide ((c : Int) ≠ ent f k 1) && jnR N f (min (c : Int) (ent f k 0)) (max (c : Int) (ent f k 0)) && jnR N f (min (c : Int) (ent f k 1)) (max (c : Int) (ent f k 1))
theorem jmC_eq {N : Nat} {f : List (List Int)} (h : isTri N f = true) {a b : Nat} (ha : a < 16) (hb : b < 16) : jnR N f (min (a : Int) b) (max (a : Int) b) = jmC N (mskC (revC f)) a b := by
  unfold jmC
  rw [ble_of, cond_decide]
  by_cases c : a ≤ b
  · rw [if_pos c, Int.min_eq_left (by omega), Int.max_eq_right (by omega), jnR_code h hb]
  · rw [if_neg c, Int.min_eq_right (by omega), Int.max_eq_left (by omega), jnR_code h ha]
theorem thR_code {N : Nat} {f : List (List Int)} (h : isTri N f = true) {k : Nat} (hk : k < f.length) : thR N f k = thC N (mskC (revC f)) (Nat.div (encR (f.getD k [])) 16) (Nat.mod (encR (f.getD k [])) 16) := by
  have s := isTri_spec h
  have p := encR_parts (s.2 k hk).1 s.1.1.2
  have d := (s.2 k hk).1
  unfold thR thC
  rw [filR_eq]
  apply List.filter_congr
  intro c hc
  have hc := List.mem_range.1 hc
  have n10 := s.1.1.2
  have e1 : Nat.div (encR (f.getD k [])) 16 = encR (f.getD k []) / 16 := rfl
  have e2 : Nat.mod (encR (f.getD k [])) 16 = encR (f.getD k []) % 16 := rfl
  have q := (dgC_enc d (by omega)).2
  have b1 : encR (f.getD k []) / 16 < 16 := by omega
  have b2 : encR (f.getD k []) % 16 < 16 := by omega
  rw [e1, e2]
  unfold ent
  rw [← p.1, ← p.2, jmC_eq h (by omega) b1, jmC_eq h (by omega) b2, beq_of, beq_of, cond_decide, cond_decide]
  generalize encR (f.getD k []) / 16 = a
  generalize encR (f.getD k []) % 16 = b
  by_cases c1 : c = a
  · rw [if_pos c1, decide_eq_false (by omega)]
    rfl
  · rw [if_neg c1, decide_eq_true (by omega)]
    by_cases c2 : c = b
    · rw [if_pos c2, decide_eq_false (by omega)]
      rfl
    · rw [if_neg c2, decide_eq_true (by omega)]
      cases jmC N (mskC (revC f)) c a <;> cases jmC N (mskC (revC f)) c b <;> rfl

/-! flips -/
def flipR (N : Nat) (f : List (List Int)) (k : Nat) : List (List Int) := putL (f.eraseIdx k) [((thR N f k).getD 0 0 : Int), ((thR N f k).getD 1 0 : Int)]
theorem dec_diag {N c : Nat} (h : dgC N c = true) : diagOk N (decR c) := by
  rw [dgC_iff] at h
  obtain ⟨h1, h2, h3⟩ := h
  unfold diagOk decR
  simp only [List.getD_cons_zero, List.getD_cons_succ, List.length_cons, List.length_nil]
  refine ⟨trivial, by omega, by omega, by omega, ?_⟩
  omega
theorem enc_decR (c : Nat) : encR (decR c) = c := by
  unfold encR decR
  simp only [List.getD_cons_zero, List.getD_cons_succ]
  omega
theorem cross_enc {N : Int} {x y : List Int} (h : diagOk N x) (k : diagOk N y) (hn : N ≤ 10) (c : crC (encR x) (encR y) = false) : ¬ crossR x y := by
  have e := encR_parts h hn
  have g := encR_parts k hn
  rw [Bool.eq_false_iff] at c
  simp only [ne_eq, crC_iff] at c
  unfold crossR
  omega
theorem crossR_symm {x y : List Int} (h : ¬ crossR x y) : ¬ crossR y x := by
  unfold crossR at *
  omega
/-- rows in order that do not cross are a triangulation -/
theorem isTri_of {n : Int} {f : List (List Int)} (hz : triSz n f) (hs : f.Pairwise leL) (hd : f.Nodup) (ho : ∀ x ∈ f, diagOk n x) (hc : f.Pairwise fun x y => ¬ crossR x y) : isTri n f = true := by
  refine isTri_yes hz fun i hi => ?_
  have eg : ∀ j, (h : j < f.length) → f.getD j [] = f[j] := fun j h => by simp [List.getD, h]
  refine ⟨by rw [eg i hi]; exact ho _ (List.getElem_mem hi), fun h0 => ?_, fun k hk => ?_⟩
  · have a := List.pairwise_iff_getElem.1 hs (i - 1) i (by omega) hi (by omega)
    have b := List.pairwise_iff_getElem.1 hd (i - 1) i (by omega) hi (by omega)
    rw [eg i hi, eg (i - 1) (by omega)]
    unfold leL at a
    have : cmpL f[i - 1] f[i] ≠ 0 := fun e => b (cmpL_eq _ _ e)
    omega
  · rw [eg i hi, eg k (by omega)]
    exact List.pairwise_iff_getElem.1 hc k i (by omega) hi hk
theorem tri_sorted {n : Int} {f : List (List Int)} (h : isTri n f = true) : f.Pairwise leL := by
  have s := isTri_spec h
  rw [List.pairwise_iff_getElem]
  intro i j hi hj hij
  have := isTri_up h j hj i hij
  have c := (cmp_enc (s.2 i hi).1 (s.2 j hj).1 s.1.1.2).2 this
  have e1 : f.getD i [] = f[i] := by simp [List.getD, hi]
  have e2 : f.getD j [] = f[j] := by simp [List.getD, hj]
  rw [e1, e2] at c
  unfold leL
  omega
theorem tri_nodup {n : Int} {f : List (List Int)} (h : isTri n f = true) : f.Nodup := by
  refine List.pairwise_iff_getElem.2 fun i j hi hj hij e => ?_
  have := isTri_up h j hj i hij
  have e1 : f.getD i [] = f[i] := by simp [List.getD, hi]
  have e2 : f.getD j [] = f[j] := by simp [List.getD, hj]
  rw [e1, e2, e] at this
  omega
theorem tri_diag {n : Int} {f : List (List Int)} (h : isTri n f = true) : ∀ x ∈ f, diagOk n x := fun x hx => by
  obtain ⟨i, hi, rfl⟩ := List.getElem_of_mem hx
  have := ((isTri_spec h).2 i hi).1
  have e1 : f.getD i [] = f[i] := by simp [List.getD, hi]
  rwa [e1] at this
theorem tri_cross {n : Int} {f : List (List Int)} (h : isTri n f = true) : f.Pairwise fun x y => ¬ crossR x y := by
  refine List.pairwise_iff_getElem.2 fun i j hi hj hij => ?_
  have := ((isTri_spec h).2 j hj).2.2 i hij
  have e1 : f.getD i [] = f[i] := by simp [List.getD, hi]
  have e2 : f.getD j [] = f[j] := by simp [List.getD, hj]
  rwa [e1, e2] at this
theorem flip1_two {n : Nat} {r : List Nat} {x : Nat} {t : List Nat} (h : flip1 n r x t = true) : ∃ p q, t = [p, q] ∧ dgC n (16 * p + q) = true ∧ ∀ y ∈ r, y = x ∨ (y ≠ 16 * p + q ∧ crC y (16 * p + q) = false) := by
  match t, h with
  | [], h => cases h
  | [p], h => cases h
  | p :: q :: z :: t, h => cases h
  | [p, q], h =>
    have h : (bif dgC n (16 * p + q) then allR (fun y => bif Nat.beq y x then true else bif Nat.beq y (16 * p + q) then false else !crC y (16 * p + q)) r else false) = true := h
    cases e : dgC n (16 * p + q) with
    | false => rw [e] at h; cases h
    | true =>
      rw [e, cond_true] at h
      refine ⟨p, q, rfl, e, fun y hy => ?_⟩
      have := allR_all h y hy
      rw [beq_of, beq_of, cond_decide, cond_decide] at this
      split at this
      · left; assumption
      · split at this
        · cases this
        · right
          exact ⟨by assumption, by simpa using this⟩
theorem flip_fine {N : Nat} {f : List (List Int)} (h : isTri N f = true) {k : Nat} (hk : k < f.length) : (thR N f k).length = 2 ∧ isTri N (flipR N f k) = true := by
  have s := isTri_spec h
  have n2 : 2 ≤ N ∧ N ≤ 10 := by have := s.1.1; omega
  have o := (isTri_codes h).all (flips_fine n2)
  have ek : f.getD k [] = f[k] := by simp [List.getD, hk]
  have o := allR_all o (encR (f.getD k [])) (List.mem_reverse.2 (List.mem_map.2 ⟨_, by rw [ek]; exact List.getElem_mem hk, rfl⟩))
  have o : flip1 N (revC f) (encR (f.getD k [])) (thC N (mskC (revC f)) (Nat.div (encR (f.getD k [])) 16) (Nat.mod (encR (f.getD k [])) 16)) = true := o
  rw [← thR_code h hk] at o
  obtain ⟨p, q, e, d, hy⟩ := flip1_two o
  refine ⟨by rw [e]; rfl, ?_⟩
  have hq : q < 16 := by
    have : q ∈ thR N f k := by rw [e]; simp
    unfold thR at this
    have := List.mem_range.1 (List.mem_filter.1 this).1
    omega
  have pq : decR (16 * p + q) = [(p : Int), (q : Int)] := by
    unfold decR
    have e1 : (16 * p + q) / 16 = p := by omega
    have e2 : (16 * p + q) % 16 = q := by omega
    rw [e1, e2]
  have ed := dec_diag d
  have es : flipR N f k = putL (f.eraseIdx k) (decR (16 * p + q)) := by
    unfold flipR
    rw [e, pq]
    rfl
  have sub : (f.eraseIdx k).Sublist f := List.eraseIdx_sublist _ _
  have pm := putL_perm (f.eraseIdx k) (decR (16 * p + q))
  have oth : ∀ y ∈ f.eraseIdx k, encR y ≠ 16 * p + q ∧ crC (encR y) (16 * p + q) = false := fun y hy' => by
    have hm := sub.subset hy'
    rcases hy (encR y) (List.mem_reverse.2 (List.mem_map.2 ⟨y, hm, rfl⟩)) with hx | hx
    · exfalso
      obtain ⟨i, hi, e1⟩ := List.mem_eraseIdx_iff_getElem.1 hy'
      obtain ⟨hne, e1⟩ := e1
      subst e1
      have a : encR (f.getD i []) = encR (f.getD k []) := by rw [← hx]; simp [List.getD, hi]
      rcases Nat.lt_or_gt_of_ne hne with c | c
      · have := isTri_up h k hk i c; omega
      · have := isTri_up h i hi k c; omega
    · exact hx
  rw [es]
  refine isTri_of ⟨s.1.1, ?_⟩ (putL_sorted _ _ ((tri_sorted h).sublist sub)) ?_ ?_ ?_
  · rw [putL_len, List.length_eraseIdx, if_pos hk]
    have := s.1.2
    omega
  · rw [pm.nodup_iff, List.nodup_cons]
    refine ⟨fun hm => (oth _ hm).1 (enc_decR _), (tri_nodup h).sublist sub⟩
  · intro x hx
    rcases List.mem_cons.1 (pm.mem_iff.1 hx) with rfl | hx
    · exact ed
    · exact tri_diag h x (sub.subset hx)
  · rw [pm.pairwise_iff fun h => crossR_symm h, List.pairwise_cons]
    refine ⟨fun y hy' => crossR_symm (cross_enc (tri_diag h y (sub.subset hy')) ed (by omega) (by rw [enc_decR]; exact (oth y hy').2)), (tri_cross h).sublist sub⟩
/-- a sort puts the new one in its place -/
theorem flip_sort {N : Nat} {f : List (List Int)} (h : isTri N f = true) {k : Nat} (hk : k < f.length) : sortL (f.set k [((thR N f k).getD 0 0 : Int), ((thR N f k).getD 1 0 : Int)]) = flipR N f k := by
  unfold flipR
  refine sortL_eq (putL_sorted _ _ ((tri_sorted h).sublist (List.eraseIdx_sublist _ _))) ?_
  refine List.Perm.trans ?_ (putL_perm _ _).symm
  generalize [((thR N f k).getD 0 0 : Int), ((thR N f k).getD 1 0 : Int)] = x
  rw [List.set_eq_take_append_cons_drop, if_pos hk, List.eraseIdx_eq_take_drop_succ]
  exact List.perm_middle

end Go.Proofs.Ytcepogfmajlcjaa
