/-
  Contracts of the sizes of rows of rows are proved.
  They hold for all rows of rows.
-/
import Derived.Test.YthadkebcjlpkhaaH8
import Derived.Test.YthadkebcjlpkhaaH33
set_option linter.unusedVariables false
set_option linter.unusedSimpArgs false
namespace Go.Proofs.Ythadkebcjlpkhaa
open Go.Proofs.Ythadkebcjlpkhaa.Ab Go.Proofs.Ythadkebcjlpkhaa.Pl

/-- what is left after rows are taken off -/
def szL (ls : List (List Int)) (x : Int) : Int := if (totL ls + ls.length : Nat) ≤ x then x - (totL ls + ls.length : Nat) else -1
theorem totL_take {ls : List (List Int)} {i : Nat} (h : i < ls.length) : totL (ls.take (i + 1)) = totL (ls.take i) + (ls.getD i []).length := by
  rw [List.take_succ_eq_append_getElem h, totL_append]
  have e : ls.getD i [] = ls[i] := by simp [List.getD, h]
  rw [e]
  simp [totL]
theorem totL_part (ls : List (List Int)) (i : Nat) : totL (ls.take i) ≤ totL ls := by
  have := totL_append (ls.take i) (ls.drop i)
  rw [List.take_append_drop] at this
  omega
theorem totL_small {ls : List (List Int)} (h : totL ls + ls.length ≤ 1048576) : ∀ l ∈ ls, l.length ≤ 100000000 := fun l hl => by
  have := totL_mem hl
  omega

theorem szTot_ok (ls : List (List Int)) (v : AV) (x : Int) (h0 : H) (hv : RowsAt h0 v ls) (hb : ∀ l ∈ ls, bdI l ∧ l.length ≤ 9223372036854775807) (hl : ls.length ≤ 9223372036854775807) (hx : 0 ≤ x ∧ x ≤ 1048576) :
    AC env 4 [v, .int .i64 x] h0 fun v h' => v = .int .i64 (szL ls x) ∧ h' = h0 := by
  obtain ⟨vs, hc, hn, hp⟩ := hv
  rcases hc with ⟨rfl, rfl⟩ | ⟨b, c, rfl, hb2⟩
  · have e : ls = [] := List.eq_nil_of_length_eq_zero hn.symm
    subst e
    have e : szL [] x = x := by unfold szL; rw [if_pos (by simp [totL]; omega)]; simp [totL]
    refine AC.enter Try.func4 Try.call4 rfl Try.ntmps4 (of_decide_eq_true (by rfl)) ?_
    repeat' (first
      | refine AW.seq ?_
      | (refine AW.region ?_; conv => whnf)
      | refine AW.block ?_
      | (refine AW.skip ?_; conv => whnf)
      | (refine AW.ret ?_; conv => whnf)
      | (refine AW.exit ?_; conv => whnf)
      | refine AW.cond (by rfl) ?_
      | (refine Br.tt ?_; conv => whnf)
      | (refine Br.ff ?_; conv => whnf)
      | refine Br.not ?_
      | (refine Br.t (beq_self_eq_true _) ?_; conv => whnf)
      | (refine Br.t (by assumption) ?_; conv => whnf)
      | (refine Br.f (by assumption) ?_; conv => whnf)
      | (refine Br.dt (by omega) ?_; conv => whnf)
      | (refine Br.df (by omega) ?_; conv => whnf)
      | (refine Br.it (by omega) ?_; conv => whnf)
      | (refine Br.if (by omega) ?_; conv => whnf)
      | (refine Br.nt (by omega) ?_; conv => whnf)
      | (refine Br.nf (by omega) ?_; conv => whnf)
      | (refine Br.dec (fun hc => ?_) (fun hc => ?_) <;> conv => whnf)
      | (refine Br.ieq (fun hc => ?_) (fun hc => ?_) <;> conv => whnf)
      | (refine Br.ine (fun hc => ?_) (fun hc => ?_) <;> conv => whnf)
      | (refine Br.mk (fun hc => ?_) (fun hc => ?_) <;> conv => whnf)
      | (refine Wr.i64 (by omega) ?_; conv => whnf)
      | (refine Ck.mk (by omega) ?_; conv => whnf)
      | (refine Wr.i64 (by simp only [List.length_drop, List.length_take, List.length_append, List.length_cons, List.length_nil]; omega) ?_; conv => whnf)
      | (refine Ck.mk (by simp only [List.length_drop, List.length_take, List.length_append, List.length_cons, List.length_nil]; omega) ?_; conv => whnf)
      | (refine Has.load1 (by first | assumption | exact St.has (by assumption) (by repeat first | exact .head _ | apply List.Mem.tail) | exact St.arg (by assumption) (by assumption)) ?_; conv => whnf)
      | (refine Ck.mk (by simp; omega) ?_; conv => whnf))
    refine AW.once ?_
    repeat' (first
      | refine AW.seq ?_
      | (refine AW.region ?_; conv => whnf)
      | refine AW.block ?_
      | (refine AW.skip ?_; conv => whnf)
      | (refine AW.ret ?_; conv => whnf)
      | (refine AW.exit ?_; conv => whnf)
      | refine AW.cond (by rfl) ?_
      | (refine Br.tt ?_; conv => whnf)
      | (refine Br.ff ?_; conv => whnf)
      | refine Br.not ?_
      | (refine Br.t (beq_self_eq_true _) ?_; conv => whnf)
      | (refine Br.t (by assumption) ?_; conv => whnf)
      | (refine Br.f (by assumption) ?_; conv => whnf)
      | (refine Br.dt (by omega) ?_; conv => whnf)
      | (refine Br.df (by omega) ?_; conv => whnf)
      | (refine Br.it (by omega) ?_; conv => whnf)
      | (refine Br.if (by omega) ?_; conv => whnf)
      | (refine Br.nt (by omega) ?_; conv => whnf)
      | (refine Br.nf (by omega) ?_; conv => whnf)
      | (refine Br.dec (fun hc => ?_) (fun hc => ?_) <;> conv => whnf)
      | (refine Br.ieq (fun hc => ?_) (fun hc => ?_) <;> conv => whnf)
      | (refine Br.ine (fun hc => ?_) (fun hc => ?_) <;> conv => whnf)
      | (refine Br.mk (fun hc => ?_) (fun hc => ?_) <;> conv => whnf)
      | (refine Wr.i64 (by omega) ?_; conv => whnf)
      | (refine Ck.mk (by omega) ?_; conv => whnf)
      | (refine Wr.i64 (by simp only [List.length_drop, List.length_take, List.length_append, List.length_cons, List.length_nil]; omega) ?_; conv => whnf)
      | (refine Ck.mk (by simp only [List.length_drop, List.length_take, List.length_append, List.length_cons, List.length_nil]; omega) ?_; conv => whnf)
      | (refine Has.load1 (by first | assumption | exact St.has (by assumption) (by repeat first | exact .head _ | apply List.Mem.tail) | exact St.arg (by assumption) (by assumption)) ?_; conv => whnf)
      | (refine Ck.mk (by simp; omega) ?_; conv => whnf))
    exact ⟨by rw [e]; congr 1; simp, rfl⟩
  · have e : szL ls x = if (totL ls + ls.length : Nat) ≤ x then x - (totL ls + ls.length : Nat) else -1 := rfl
    refine AC.enter Try.func4 Try.call4 rfl Try.ntmps4 (of_decide_eq_true (by rfl)) ?_
    repeat' (first
      | refine AW.seq ?_
      | (refine AW.region ?_; conv => whnf)
      | refine AW.block ?_
      | (refine AW.skip ?_; conv => whnf)
      | (refine AW.ret ?_; conv => whnf)
      | (refine AW.exit ?_; conv => whnf)
      | refine AW.cond (by rfl) ?_
      | (refine Br.tt ?_; conv => whnf)
      | (refine Br.ff ?_; conv => whnf)
      | refine Br.not ?_
      | (refine Br.t (beq_self_eq_true _) ?_; conv => whnf)
      | (refine Br.t (by assumption) ?_; conv => whnf)
      | (refine Br.f (by assumption) ?_; conv => whnf)
      | (refine Br.dt (by omega) ?_; conv => whnf)
      | (refine Br.df (by omega) ?_; conv => whnf)
      | (refine Br.it (by omega) ?_; conv => whnf)
      | (refine Br.if (by omega) ?_; conv => whnf)
      | (refine Br.nt (by omega) ?_; conv => whnf)
      | (refine Br.nf (by omega) ?_; conv => whnf)
      | (refine Br.dec (fun hc => ?_) (fun hc => ?_) <;> conv => whnf)
      | (refine Br.ieq (fun hc => ?_) (fun hc => ?_) <;> conv => whnf)
      | (refine Br.ine (fun hc => ?_) (fun hc => ?_) <;> conv => whnf)
      | (refine Br.mk (fun hc => ?_) (fun hc => ?_) <;> conv => whnf)
      | (refine Wr.i64 (by omega) ?_; conv => whnf)
      | (refine Ck.mk (by omega) ?_; conv => whnf)
      | (refine Wr.i64 (by simp only [List.length_drop, List.length_take, List.length_append, List.length_cons, List.length_nil]; omega) ?_; conv => whnf)
      | (refine Ck.mk (by simp only [List.length_drop, List.length_take, List.length_append, List.length_cons, List.length_nil]; omega) ?_; conv => whnf)
      | (refine Has.load1 (by first | assumption | exact St.has (by assumption) (by repeat first | exact .head _ | apply List.Mem.tail) | exact St.arg (by assumption) (by assumption)) ?_; conv => whnf)
      | (refine Ck.mk (by simp; omega) ?_; conv => whnf))
    · rw [if_neg (by omega)] at e
      exact ⟨by rw [e], rfl⟩
    · refine AW.loop2 (fun (i : Nat) (y : Int) => [(0, .slice b 0 vs.length c), (1, .int .i64 y), (5, .int .i64 i)]) (fun i y h' => i ≤ vs.length ∧ 0 ≤ y ∧ y = x - vs.length - totL (ls.take i) ∧ h' = h0) (fun i _ => vs.length - i) 0 _
        (Less.cons rfl (Less.cons rfl (Less.cons rfl (Less.nil _)))) ⟨by omega, by omega, by simp [totL], rfl⟩ ?_
      rintro i y h1 ⟨hi, hy, hy2, rfl⟩
      have tp := totL_part ls (i + 1)
      by_cases hlt : i < vs.length
      · obtain ⟨u, hw⟩ : ∃ u, vs[i]? = some u := ⟨_, List.getElem?_eq_getElem hlt⟩
        obtain ⟨l, hl2⟩ : ∃ l, ls[i]? = some l := ⟨_, List.getElem?_eq_getElem (by omega)⟩
        have hsh := hp i _ _ hw hl2
        have hlen := (hb _ (List.mem_of_getElem? hl2)).2
        have eg : ls.getD i [] = l := by simp [List.getD, hl2]
        have tt := totL_take (ls := ls) (i := i) (by omega)
        rw [eg] at tt
        have hsh2 := hsh
        rcases hsh2 with (⟨rfl, e2⟩ | ⟨b3, c3, rfl, hb3⟩) | ⟨rfl, el⟩
        all_goals
          repeat' (first
            | (refine Has.loadAt hb2 rfl hw ?_; conv => whnf)
            | (refine (szIntS_ok _ _ _ _ hsh hlen (by omega)).mono ?_; rintro v h' ⟨⟨k, rfl, hk⟩, e'⟩; subst h'; conv => whnf)
            | refine AW.seq ?_
            | (refine AW.region ?_; conv => whnf)
            | refine AW.block ?_
            | (refine AW.skip ?_; conv => whnf)
            | (refine AW.ret ?_; conv => whnf)
            | (refine AW.exit ?_; conv => whnf)
            | refine AW.cond (by rfl) ?_
            | (refine Br.tt ?_; conv => whnf)
            | (refine Br.ff ?_; conv => whnf)
            | refine Br.not ?_
            | (refine Br.t (beq_self_eq_true _) ?_; conv => whnf)
            | (refine Br.t (by assumption) ?_; conv => whnf)
            | (refine Br.f (by assumption) ?_; conv => whnf)
            | (refine Br.dt (by omega) ?_; conv => whnf)
            | (refine Br.df (by omega) ?_; conv => whnf)
            | (refine Br.it (by omega) ?_; conv => whnf)
            | (refine Br.if (by omega) ?_; conv => whnf)
            | (refine Br.nt (by omega) ?_; conv => whnf)
            | (refine Br.nf (by omega) ?_; conv => whnf)
            | (refine Br.dec (fun hc => ?_) (fun hc => ?_) <;> conv => whnf)
            | (refine Br.ieq (fun hc => ?_) (fun hc => ?_) <;> conv => whnf)
            | (refine Br.ine (fun hc => ?_) (fun hc => ?_) <;> conv => whnf)
            | (refine Br.mk (fun hc => ?_) (fun hc => ?_) <;> conv => whnf)
            | (refine Wr.i64 (by omega) ?_; conv => whnf)
            | (refine Ck.mk (by omega) ?_; conv => whnf)
            | (refine Wr.i64 (by simp only [List.length_drop, List.length_take, List.length_append, List.length_cons, List.length_nil]; omega) ?_; conv => whnf)
            | (refine Ck.mk (by simp only [List.length_drop, List.length_take, List.length_append, List.length_cons, List.length_nil]; omega) ?_; conv => whnf)
            | (refine Has.load1 (by first | assumption | exact St.has (by assumption) (by repeat first | exact .head _ | apply List.Mem.tail) | exact St.arg (by assumption) (by assumption)) ?_; conv => whnf)
            | (refine Ck.mk (by simp; omega) ?_; conv => whnf))
          · rw [if_neg (by omega)] at e
            exact ⟨by rw [e], rfl⟩
          · exact ⟨i + 1, _, (Less.cons rfl (Less.cons rfl (Less.cons rfl (Less.nil _)))), ⟨by omega, by omega, by omega, rfl⟩, by omega⟩
      · repeat' (first
          | refine AW.seq ?_
          | (refine AW.region ?_; conv => whnf)
          | refine AW.block ?_
          | (refine AW.skip ?_; conv => whnf)
          | (refine AW.ret ?_; conv => whnf)
          | (refine AW.exit ?_; conv => whnf)
          | refine AW.cond (by rfl) ?_
          | (refine Br.tt ?_; conv => whnf)
          | (refine Br.ff ?_; conv => whnf)
          | refine Br.not ?_
          | (refine Br.t (beq_self_eq_true _) ?_; conv => whnf)
          | (refine Br.t (by assumption) ?_; conv => whnf)
          | (refine Br.f (by assumption) ?_; conv => whnf)
          | (refine Br.dt (by omega) ?_; conv => whnf)
          | (refine Br.df (by omega) ?_; conv => whnf)
          | (refine Br.it (by omega) ?_; conv => whnf)
          | (refine Br.if (by omega) ?_; conv => whnf)
          | (refine Br.nt (by omega) ?_; conv => whnf)
          | (refine Br.nf (by omega) ?_; conv => whnf)
          | (refine Br.dec (fun hc => ?_) (fun hc => ?_) <;> conv => whnf)
          | (refine Br.ieq (fun hc => ?_) (fun hc => ?_) <;> conv => whnf)
          | (refine Br.ine (fun hc => ?_) (fun hc => ?_) <;> conv => whnf)
          | (refine Br.mk (fun hc => ?_) (fun hc => ?_) <;> conv => whnf)
          | (refine Wr.i64 (by omega) ?_; conv => whnf)
          | (refine Ck.mk (by omega) ?_; conv => whnf)
          | (refine Wr.i64 (by simp only [List.length_drop, List.length_take, List.length_append, List.length_cons, List.length_nil]; omega) ?_; conv => whnf)
          | (refine Ck.mk (by simp only [List.length_drop, List.length_take, List.length_append, List.length_cons, List.length_nil]; omega) ?_; conv => whnf)
          | (refine Has.load1 (by first | assumption | exact St.has (by assumption) (by repeat first | exact .head _ | apply List.Mem.tail) | exact St.arg (by assumption) (by assumption)) ?_; conv => whnf)
          | (refine Ck.mk (by simp; omega) ?_; conv => whnf))
        have ei : i = ls.length := by omega
        rw [ei, List.take_length] at hy2
        rw [if_pos (by omega)] at e
        refine ⟨?_, rfl⟩
        rw [e, hy2]
        congr 1
        omega


end Go.Proofs.Ythadkebcjlpkhaa

/-
  The law of flips of diagonals is proved.
  It holds for all rows of rows.
-/
set_option linter.unusedVariables false
set_option linter.unusedSimpArgs false
namespace Go.Proofs.Ythadkebcjlpkhaa
open Go.Proofs.Ythadkebcjlpkhaa.Ab Go.Proofs.Ythadkebcjlpkhaa.Pl

theorem flipF_fine (n : Int) (f : List (List Int)) (k : Int) : (∀ x ∈ (flipF n f k).1, x.length = 2) ∧ (flipF n f k).1.length ≤ 10 := by
  unfold flipF
  split
  · rename_i h
    obtain ⟨ht, hk⟩ := h
    obtain ⟨N, rfl⟩ := isTri_nat ht
    have := (flip_fine ht (k := k.toNat) (by omega)).2
    refine ⟨fun x hx => (tri_diag this x hx).1, ?_⟩
    have := (tri_sz this).2.2
    rw [Int.toNat_natCast]
    show (flipR N f k.toNat).length ≤ 10
    omega
  · exact ⟨fun x hx => (nomatch hx), by simp⟩
theorem flipF_tot (n : Int) (f : List (List Int)) (k : Int) : totL (flipF n f k).1 ≤ 2000000 := by
  have := totL_le (m := 2) fun l hl => by have := (flipF_fine n f k).1 l hl; omega
  have := (flipF_fine n f k).2
  omega


end Go.Proofs.Ythadkebcjlpkhaa
