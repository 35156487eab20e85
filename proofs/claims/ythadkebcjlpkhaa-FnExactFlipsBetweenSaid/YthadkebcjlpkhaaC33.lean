/-
  Contracts of the order of rows are proved.
  They hold for all rows.
-/
import Derived.Test.YthadkebcjlpkhaaH3
import Derived.Test.YthadkebcjlpkhaaGY
set_option linter.unusedVariables false
set_option linter.unusedSimpArgs false
namespace Go.Proofs.Ythadkebcjlpkhaa
open Go.Proofs.Ythadkebcjlpkhaa.Ab Go.Proofs.Ythadkebcjlpkhaa.Pl

def cmpI (x y : Int) : Int := if x < y then -1 else if y < x then 1 else 0
/-- the order of rows -/
def cmpL : List Int → List Int → Int
  | [], [] => 0
  | [], _ :: _ => -1
  | _ :: _, [] => 1
  | x :: l, y :: m => if x < y then -1 else if y < x then 1 else cmpL l m

theorem isNaN_ok (x : Int) (h0 : H) : AC env 40 [.int .i64 x] h0 fun v h' => v = .bool false ∧ h' = h0 := by
  refine AC.enter Try.func40 Try.call40 rfl Try.ntmps40 (of_decide_eq_true (by rfl)) ?_
  repeat' (first
    | refine AW.seq ?_
    | (refine AW.region ?_; conv => whnf)
    | (refine AW.ret ?_; conv => whnf))
  all_goals first
    | exact ⟨rfl, rfl⟩
    | exact ⟨by simp, rfl⟩
theorem cmpI_ok (x y : Int) (h0 : H) : AC env 33 [.int .i64 x, .int .i64 y] h0 fun v h' => v = .int .i64 (cmpI x y) ∧ h' = h0 := by
  refine AC.enter Try.func33 Try.call33 rfl Try.ntmps33 (of_decide_eq_true (by rfl)) ?_
  repeat' (first
    | refine AW.seq ?_
    | (refine AW.region ?_; conv => whnf)
    | (refine AW.skip ?_; conv => whnf)
    | (refine AW.ret ?_; conv => whnf)
    | refine AW.cond (by rfl) ?_
    | (refine (isNaN_ok _ _).mono ?_; rintro v h' ⟨rfl, e'⟩; subst h'; conv => whnf)
    | (refine Br.ff ?_; conv => whnf)
    | (refine Br.dec (fun hc => ?_) (fun hc => ?_) <;> conv => whnf))
  all_goals first
    | exact ⟨by rw [cmpI, if_pos (by omega)], rfl⟩
    | exact ⟨by rw [cmpI, if_neg (by omega), if_pos (by omega)], rfl⟩
    | exact ⟨by rw [cmpI, if_neg (by omega), if_neg (by omega)], rfl⟩

theorem cmpL_at {l m : List Int} {k : Nat} (h1 : k < l.length) (h2 : k < m.length) : cmpL (l.drop k) (m.drop k) = if l.getD k 0 < m.getD k 0 then -1 else if m.getD k 0 < l.getD k 0 then 1 else cmpL (l.drop (k + 1)) (m.drop (k + 1)) := by
  rw [List.drop_eq_getElem_cons h1, List.drop_eq_getElem_cons h2, cmpL]
  simp [List.getD, h1, h2]

theorem cmpL_ok (l m : List Int) (b c C D : Nat) (h0 : H) (hb : Has h0 b (ints l)) (hc' : Has h0 c (ints m)) (hL : l.length ≤ 1000000) (hM : m.length ≤ 1000000) : AC env 22 [.slice b 0 l.length C, .slice c 0 m.length D] h0 fun v h' => v = .int .i64 (cmpL l m) ∧ h' = h0 := by
  refine AC.enter Try.func22 Try.call22 rfl Try.ntmps22 (of_decide_eq_true (by rfl)) ?_
  repeat' (first
    | refine AW.seq ?_
    | (refine AW.region ?_; conv => whnf)
    | refine AW.block ?_)
  refine AW.loop1 (fun (k : Nat) => [(0, .slice b 0 l.length C), (1, .slice c 0 m.length D), (9, .slice b 0 l.length C), (10, .int .i64 l.length), (11, .int .i64 k)]) (fun k h' => k ≤ l.length ∧ k ≤ m.length ∧ cmpL l m = cmpL (l.drop k) (m.drop k) ∧ h' = h0) (fun k => l.length - k) 0
    (Less.cons rfl (Less.cons rfl (Less.cons rfl (Less.cons rfl (Less.cons rfl (Less.nil _)))))) ⟨by omega, by omega, rfl, rfl⟩ ?_
  rintro k h1 ⟨hk, hk2, e, rfl⟩
  by_cases h1 : k < l.length
  · by_cases h2 : k < m.length
    · have ea := cmpL_at h1 h2
      by_cases c1 : l.getD k 0 < m.getD k 0
      · have c2 : cmpI (l.getD (k : Int).toNat 0) (m.getD (k : Int).toNat 0) = -1 := if_pos c1
        repeat' (first
          | refine AW.seq ?_
          | (refine AW.region ?_; conv => whnf)
          | refine AW.block ?_
          | (refine AW.skip ?_; conv => whnf)
          | (refine AW.ret ?_; conv => whnf)
          | refine AW.cond (by rfl) ?_
          | (refine (cmpI_ok _ _ _).mono ?_; rintro v h' ⟨rfl, e'⟩; subst h'; conv => whnf)
          | refine Br.not ?_
          | (refine Br.dt (by omega) ?_; conv => whnf)
          | (refine Br.df (by omega) ?_; conv => whnf)
          | (refine Ck.mk (by omega) ?_; conv => whnf)
          | (refine Has.loadZ (by first | assumption | exact St.has (by assumption) (by repeat first | exact .head _ | apply List.Mem.tail) | exact St.arg (by assumption) (by assumption)) rfl (by first | (simp; done) | omega | (simp only [List.length_set, List.length_append, List.length_cons, List.length_nil, List.length_replicate, tab_length]; omega) | (simp; omega)) ?_; conv => whnf))
        exact ⟨by rw [e, ea, if_pos c1, c2], rfl⟩
      · by_cases c3 : m.getD k 0 < l.getD k 0
        · have c2 : cmpI (l.getD (k : Int).toNat 0) (m.getD (k : Int).toNat 0) = 1 := (if_neg c1).trans (if_pos c3)
          repeat' (first
            | refine AW.seq ?_
            | (refine AW.region ?_; conv => whnf)
            | refine AW.block ?_
            | (refine AW.skip ?_; conv => whnf)
            | (refine AW.ret ?_; conv => whnf)
            | refine AW.cond (by rfl) ?_
            | (refine (cmpI_ok _ _ _).mono ?_; rintro v h' ⟨rfl, e'⟩; subst h'; conv => whnf)
            | refine Br.not ?_
            | (refine Br.dt (by omega) ?_; conv => whnf)
            | (refine Br.df (by omega) ?_; conv => whnf)
            | (refine Ck.mk (by omega) ?_; conv => whnf)
            | (refine Has.loadZ (by first | assumption | exact St.has (by assumption) (by repeat first | exact .head _ | apply List.Mem.tail) | exact St.arg (by assumption) (by assumption)) rfl (by first | (simp; done) | omega | (simp only [List.length_set, List.length_append, List.length_cons, List.length_nil, List.length_replicate, tab_length]; omega) | (simp; omega)) ?_; conv => whnf))
          exact ⟨by rw [e, ea, if_neg c1, if_pos c3, c2], rfl⟩
        · have c2 : cmpI (l.getD (k : Int).toNat 0) (m.getD (k : Int).toNat 0) = 0 := (if_neg c1).trans (if_neg c3)
          repeat' (first
            | refine AW.seq ?_
            | (refine AW.region ?_; conv => whnf)
            | refine AW.block ?_
            | (refine AW.skip ?_; conv => whnf)
            | refine AW.cond (by rfl) ?_
            | (refine (cmpI_ok _ _ _).mono ?_; rintro v h' ⟨rfl, e'⟩; subst h'; conv => whnf)
            | refine Br.not ?_
            | (refine Br.dt (by omega) ?_; conv => whnf)
            | (refine Br.df (by omega) ?_; conv => whnf)
            | (refine Wr.i64 (by omega) ?_; conv => whnf)
            | (refine Ck.mk (by omega) ?_; conv => whnf)
            | (refine Has.loadZ (by first | assumption | exact St.has (by assumption) (by repeat first | exact .head _ | apply List.Mem.tail) | exact St.arg (by assumption) (by assumption)) rfl (by first | (simp; done) | omega | (simp only [List.length_set, List.length_append, List.length_cons, List.length_nil, List.length_replicate, tab_length]; omega) | (simp; omega)) ?_; conv => whnf))
          exact ⟨k + 1, (Less.cons rfl (Less.cons rfl (Less.cons rfl (Less.cons rfl (Less.cons rfl (Less.nil _)))))), ⟨by omega, by omega, by rw [e, ea, if_neg c1, if_neg c3], rfl⟩, by omega⟩
    · repeat' (first
        | refine AW.seq ?_
        | (refine AW.region ?_; conv => whnf)
        | refine AW.block ?_
        | (refine AW.skip ?_; conv => whnf)
        | (refine AW.ret ?_; conv => whnf)
        | refine AW.cond (by rfl) ?_
        | (refine Br.dt (by omega) ?_; conv => whnf)
        | (refine Ck.mk (by omega) ?_; conv => whnf)
        | (refine Has.loadZ (by first | assumption | exact St.has (by assumption) (by repeat first | exact .head _ | apply List.Mem.tail) | exact St.arg (by assumption) (by assumption)) rfl (by first | (simp; done) | omega | (simp only [List.length_set, List.length_append, List.length_cons, List.length_nil, List.length_replicate, tab_length]; omega) | (simp; omega)) ?_; conv => whnf))
      refine ⟨?_, rfl⟩
      have em : m.drop k = [] := List.drop_eq_nil_of_le (by omega)
      rw [e, em, List.drop_eq_getElem_cons h1]
      rfl
  · by_cases h2 : k < m.length
    · repeat' (first
        | refine AW.seq ?_
        | (refine AW.region ?_; conv => whnf)
        | (refine AW.ret ?_; conv => whnf)
        | (refine AW.exit ?_; conv => whnf)
        | refine AW.cond (by rfl) ?_
        | (refine Br.dt (by omega) ?_; conv => whnf)
        | (refine Br.df (by omega) ?_; conv => whnf))
      refine ⟨?_, rfl⟩
      have el : l.drop k = [] := List.drop_eq_nil_of_le (by omega)
      rw [e, el, List.drop_eq_getElem_cons h2]
      rfl
    · repeat' (first
        | refine AW.seq ?_
        | (refine AW.region ?_; conv => whnf)
        | (refine AW.skip ?_; conv => whnf)
        | (refine AW.ret ?_; conv => whnf)
        | (refine AW.exit ?_; conv => whnf)
        | refine AW.cond (by rfl) ?_
        | (refine Br.df (by omega) ?_; conv => whnf))
      refine ⟨?_, rfl⟩
      have el : l.drop k = [] := List.drop_eq_nil_of_le (by omega)
      have em : m.drop k = [] := List.drop_eq_nil_of_le (by omega)
      rw [e, el, em]
      rfl

end Go.Proofs.Ythadkebcjlpkhaa
