/-
  Contracts of fans are proved.
  They hold for all sizes.
-/
import Derived.Test.YtbicfognbbeigaaGreatC40
set_option linter.unusedVariables false
set_option linter.unusedSimpArgs false
namespace Go.Proofs.YtbicfognbbeigaaGreat
open Go.Proofs.YtbicfognbbeigaaGreat.Ab Go.Proofs.YtbicfognbbeigaaGreat.Pl

theorem nilRows {h0 h : H} {L : List (Nat × Blk)} {b : Nat} (s : St h0 h ((b, .cells true 1 []) :: L)) : St h0 h ((b, row (slcs [])) :: (blks [] ++ L)) := s
/-! fans -/
def fanRow (v : Int) (c : Nat) : List Int := [min v c, max v c]
def fanL (n v : Int) : Nat → List (List Int)
  | 0 => []
  | c + 1 => if diagOk n (fanRow v c) then fanL n v c ++ [fanRow v c] else fanL n v c
def fanOk (n v : Int) : Prop := (2 ≤ n ∧ n ≤ 10) ∧ 0 ≤ v ∧ v ≤ n - 1
instance (n v : Int) : Decidable (fanOk n v) := inferInstanceAs (Decidable (_ ∧ _))
def fan (n v : Int) : List (List Int) × Bool := if fanOk n v then (sortL (fanL n v n.toNat), true) else ([], false)
theorem fanL_len (n v : Int) : ∀ c, (fanL n v c).length ≤ c
  | 0 => Nat.le_refl _
  | c + 1 => by
    have := fanL_len n v c
    rw [fanL]
    split
    · simp; omega
    · omega
theorem fanL_two (n v : Int) : ∀ c, ∀ x ∈ fanL n v c, x.length = 2
  | 0, x, hx => by cases hx
  | c + 1, x, hx => by
    rw [fanL] at hx
    split at hx
    · rcases List.mem_append.1 hx with hx | hx
      · exact fanL_two n v c x hx
      · cases List.mem_singleton.1 hx; rfl
    · exact fanL_two n v c x hx
theorem sortL_two {l : List (List Int)} (h : ∀ x ∈ l, x.length = 2) : ∀ x ∈ sortL l, x.length = 2 := fun x hx => h x ((sortL_perm l).mem_iff.1 hx)
theorem rws_two {R : RL} {l : List (List Int)} (e : rws R = l) (h : ∀ x ∈ l, x.length = 2) : ∀ r ∈ R, r.2.length = 2 := fun r hr => h _ (e ▸ List.mem_map.2 ⟨r, hr, rfl⟩)

/-- rows of one's own and whether they are an answer -/
def RetR (r : List (List Int) × Bool) (h0 : H) (v : AV) (h' : H) : Prop :=
  ∃ b R, v = .tup [.slice b 0 r.1.length r.1.length, .bool r.2] ∧ rws R = r.1 ∧ R.length = r.1.length ∧ St h0 h' ((b, row (slcs R)) :: (blks R ++ []))
theorem RetR.mk' {r : List (List Int) × Bool} {h0 h' : H} {b N : Nat} {q : Bool} {R : RL} (e : r = (rws R, q)) (hN : N = R.length) (s : St h0 h' ((b, row (slcs R)) :: (blks R ++ []))) : RetR r h0 (.tup [.slice b 0 N N, .bool q]) h' := by
  subst e hN
  exact ⟨b, R, by rw [rws_length], rfl, (rws_length R).symm, s⟩

theorem isDiagonal_ok (n : Int) (x : List Int) (b N C : Nat) (h0 : H) (hb : Has h0 b (ints x)) (hN : N = x.length) (hn : 2 ≤ n ∧ n ≤ 1000) (hl : N ≤ 1000000000) : AC env 62 [.int .i64 n, .slice b 0 N C] h0 fun v h' => v = .bool (decide (diagOk n x)) ∧ h' = h0 := by
  have d : diagOk n x ↔ x.length = 2 ∧ 0 ≤ x.getD 0 0 ∧ x.getD 0 0 + 2 ≤ x.getD 1 0 ∧ x.getD 1 0 ≤ n - 1 ∧ ¬ (x.getD 0 0 = 0 ∧ x.getD 1 0 = n - 1) := Iff.rfl
  have x0 : x.getD (Int.toNat 0) 0 = x.getD 0 0 := rfl
  have x1 : x.getD (Int.toNat 1) 0 = x.getD 1 0 := rfl
  refine AC.enter Tryz.func62 Tryz.call62 rfl Tryz.ntmps62 (of_decide_eq_true (by rfl)) ?_
  repeat' (first
    | refine AW.seq ?_
    | (refine AW.region ?_; conv => whnf)
    | (refine AW.ret ?_; conv => whnf)
    | (refine AW.draw (id := 1) (.p 0 (.p 1 (.p 2 (.p 3 (.p 4 (.p 5 (.p 7 (.p 8 (.r 6 [9, 10, 11, 12, 13, 14, 15, 16, 17, 18, 19, 20, 21, 22, 23, 24, 25, 26, 27, 28, 29, 30, 31, 32, 33, 34, 35, 36, 37, 38, 39, 40, 41, 42, 43] (.all [9] fun _ => (.p 10 (.p 11 (.p 12 (.p 13 (.p 15 (.p 16 (.r 14 [17, 18, 19, 20, 21, 22, 23, 24, 25, 26, 27, 28, 29, 30, 31, 32, 33, 34, 35, 36, 37, 38, 39, 40, 41, 42, 43] (.all [17] fun _ => (.p 18 (.p 19 (.p 20 (.p 21 (.p 23 (.p 24 (.r 22 [26, 27, 28, 29, 30, 31, 32, 33, 34, 35, 36, 37, 38, 39, 40, 41, 42, 43] (.r 25 [26, 27, 28, 29, 30, 31, 32, 33, 34, 35, 36, 37, 38, 39, 40, 41, 42, 43] (.p 26 (.p 27 (.p 28 (.p 29 (.p 30 (.p 31 (.r 32 [33, 34, 35, 36, 37, 38, 39, 40, 41, 42, 43] (.p 33 (.p 34 (.p 35 (.p 36 (.p 38 (.p 39 (.r 37 [40, 41, 42, 43] (.p 40 (.p 41 (.p 42 (.p 43 .done)))))))))))))))))))))))))))))))))))))))))))) (by kernel_rfl) (by kernel_rfl) ?_; conv => whnf)
    | (refine (within_ok _ _ _ _).mono ?_; rintro v h' ⟨rfl, e'⟩; subst h'; conv => whnf)
    | (refine Br.ff ?_; conv => whnf)
    | refine Br.not ?_
    | (refine Br.dt (by omega) ?_; conv => whnf)
    | (refine Br.df (by omega) ?_; conv => whnf)
    | (refine Br.dec (fun hc => ?_) (fun hc => ?_) <;> conv => whnf)
    | (refine Wr.i64 (by omega) ?_; conv => whnf)
    | (refine Ck.mk (by omega) ?_; conv => whnf)
    | (refine Has.loadZ (by first | assumption | exact St.has (by assumption) (by repeat first | exact .head _ | apply List.Mem.tail) | exact St.arg (by assumption) (by assumption)) rfl (by first | (simp; done) | omega | (simp only [List.length_set, List.length_append, List.length_cons, List.length_nil, List.length_replicate, tab_length]; omega) | (simp; omega)) ?_; conv => whnf))
  all_goals refine ⟨?_, rfl⟩
  all_goals rw [decide_eq_decide.2 d]
  all_goals congr 1
  all_goals first
    | (symm; apply decide_eq_false; omega)
    | (symm; apply decide_eq_true; omega)
    | (rw [Bool.eq_iff_iff, bne_iff_ne, decide_eq_true_iff]; omega)
    | (rw [decide_eq_decide]; omega)

set_option maxHeartbeats 1000000 in
theorem iFanOf_ok (n v : Int) (h0 : H) (hn : -9223372036854775808 ≤ n ∧ n ≤ 9223372036854775807) (hv : -9223372036854775808 ≤ v ∧ v ≤ 9223372036854775807) : AC env 18 [.int .i64 n, .int .i64 v] h0 (RetR (fan n v) h0) := by
  have hs := St.refl h0
  by_cases ok : fanOk n v
  · have e : fan n v = (sortL (fanL n v n.toNat), true) := if_pos ok
    obtain ⟨h1, h2⟩ := ok
    refine AC.enter Tryz.func18 Tryz.call18 rfl Tryz.ntmps18 (of_decide_eq_true (by rfl)) ?_
    repeat' (first
      | refine AW.seq ?_
      | (refine AW.region ?_; conv => whnf)
      | refine AW.block ?_
      | (refine AW.skip ?_; conv => whnf)
      | (refine AW.ret ?_; conv => whnf)
      | (refine AW.exit ?_; conv => whnf)
      | refine AW.cond (by rfl) ?_
      | (refine (within_ok _ _ _ _).mono ?_; rintro v h' ⟨rfl, e'⟩; subst h'; conv => whnf)
      | (refine (sortFunc_ok _ _ _ _ _ _ _ (by assumption) (by first | rfl | omega) (by omega) (by assumption)).mono ?_; rintro v h' ⟨rfl, hs'⟩; conv => whnf)
      | (refine Br.tt ?_; conv => whnf)
      | (refine Br.ff ?_; conv => whnf)
      | refine Br.not ?_
      | (refine Br.t (beq_self_eq_true _) ?_; conv => whnf)
      | (refine Br.t (by assumption) ?_; conv => whnf)
      | (refine Br.f (by assumption) ?_; conv => whnf)
      | (refine Br.dt (by omega) ?_; conv => whnf)
      | (refine Br.df (by omega) ?_; conv => whnf)
      | (refine Br.it (by omega) ?_; conv => whnf)
      | (refine Br.if (by omega) ?_; conv => whnf)
      | (refine Br.nt (by omega) ?_; conv => whnf)
      | (refine Br.nf (by omega) ?_; conv => whnf)
      | (refine Br.dec (fun hc => ?_) (fun hc => ?_) <;> conv => whnf)
      | (refine Br.ieq (fun hc => ?_) (fun hc => ?_) <;> conv => whnf)
      | (refine Br.ine (fun hc => ?_) (fun hc => ?_) <;> conv => whnf)
      | (refine Br.mk (fun hc => ?_) (fun hc => ?_) <;> conv => whnf)
      | (refine Wr.i64 (by omega) ?_; conv => whnf)
      | (refine Ck.mk (by omega) ?_; conv => whnf)
      | (refine Wr.i64 (by simp only [List.length_drop, List.length_take, List.length_append, List.length_cons, List.length_nil]; omega) ?_; conv => whnf)
      | (refine Ck.mk (by simp only [List.length_drop, List.length_take, List.length_append, List.length_cons, List.length_nil]; omega) ?_; conv => whnf)
      | (refine NewG.st (by assumption) (fun bt h' hs' => ?_); conv => whnf)
      | (refine LoadsG.has (by first | assumption | exact St.has (by assumption) (by repeat first | exact .head _ | apply List.Mem.tail) | exact St.arg (by assumption) (by assumption)) (by simp) ?_; conv => whnf)
      | (refine Ck.mk (by simp; omega) ?_; conv => whnf))
    refine AW.loop3 (fun (c b N : Nat) => [(0, .int .i64 n), (1, .int .i64 v), (6, .slice b 0 N N), (21, .int .i64 n), (22, .int .i64 c)]) (fun c b N h' => c ≤ n.toNat ∧ ∃ R, R.length = N ∧ rws R = fanL n v c ∧ St h0 h' ((b, row (slcs R)) :: (blks R ++ []))) (fun c _ _ => n.toNat - c) 0 bt 0
      (Less.cons rfl (Less.cons rfl (Less.cons rfl (Less.cons rfl (Less.cons rfl (Less.nil _)))))) ⟨by omega, [], rfl, rfl, nilRows hs'⟩ ?_
    rintro c b N h3 ⟨hc, R, rfl, hR, hs3⟩
    have lR := fanL_len n v c
    have e2 : R.length = (fanL n v c).length := by rw [← hR, rws_length]
    clear hs hs'
    by_cases hlt : c < n.toNat
    · by_cases d : diagOk n (fanRow v c)
      · have dd : decide (diagOk n (fanRow v c)) = true := decide_eq_true d
        repeat' (first
          | (refine (isDiagonal_ok n (fanRow v c) _ _ _ _ (St.has hs' (.head _)) rfl (by omega) (by simp [fanRow])).mono ?_; rw [dd]; rintro v h' ⟨rfl, e'⟩; subst h'; conv => whnf)
          | (refine AppG.stR (l := fanRow v c) (St.tail hs') rfl rfl (by omega) (by decide) (fun b' h' hs4 => ?_); conv => whnf)
          | refine AW.seq ?_
          | (refine AW.region ?_; conv => whnf)
          | refine AW.block ?_
          | (refine AW.skip ?_; conv => whnf)
          | (refine AW.ret ?_; conv => whnf)
          | (refine AW.exit ?_; conv => whnf)
          | refine AW.cond (by rfl) ?_
          | (refine (within_ok _ _ _ _).mono ?_; rintro v h' ⟨rfl, e'⟩; subst h'; conv => whnf)
          | (refine (sortFunc_ok _ _ _ _ _ _ _ (by assumption) (by first | rfl | omega) (by omega) (by assumption)).mono ?_; rintro v h' ⟨rfl, hs'⟩; conv => whnf)
          | (refine Br.tt ?_; conv => whnf)
          | (refine Br.ff ?_; conv => whnf)
          | refine Br.not ?_
          | (refine Br.t (beq_self_eq_true _) ?_; conv => whnf)
          | (refine Br.t (by assumption) ?_; conv => whnf)
          | (refine Br.f (by assumption) ?_; conv => whnf)
          | (refine Br.dt (by omega) ?_; conv => whnf)
          | (refine Br.df (by omega) ?_; conv => whnf)
          | (refine Br.it (by omega) ?_; conv => whnf)
          | (refine Br.if (by omega) ?_; conv => whnf)
          | (refine Br.nt (by omega) ?_; conv => whnf)
          | (refine Br.nf (by omega) ?_; conv => whnf)
          | (refine Br.dec (fun hc => ?_) (fun hc => ?_) <;> conv => whnf)
          | (refine Br.ieq (fun hc => ?_) (fun hc => ?_) <;> conv => whnf)
          | (refine Br.ine (fun hc => ?_) (fun hc => ?_) <;> conv => whnf)
          | (refine Br.mk (fun hc => ?_) (fun hc => ?_) <;> conv => whnf)
          | (refine Wr.i64 (by omega) ?_; conv => whnf)
          | (refine Ck.mk (by omega) ?_; conv => whnf)
          | (refine Wr.i64 (by simp only [List.length_drop, List.length_take, List.length_append, List.length_cons, List.length_nil]; omega) ?_; conv => whnf)
          | (refine Ck.mk (by simp only [List.length_drop, List.length_take, List.length_append, List.length_cons, List.length_nil]; omega) ?_; conv => whnf)
          | (refine NewG.st (by assumption) (fun bt h' hs' => ?_); conv => whnf)
          | (refine LoadsG.has (by first | assumption | exact St.has (by assumption) (by repeat first | exact .head _ | apply List.Mem.tail) | exact St.arg (by assumption) (by assumption)) (by simp) ?_; conv => whnf)
          | (refine Ck.mk (by simp; omega) ?_; conv => whnf))
        exact ⟨c + 1, b', _, (Less.cons rfl (Less.cons rfl (Less.cons rfl (Less.cons rfl (Less.cons rfl (Less.nil _)))))), ⟨by omega, _, by rw [List.length_append]; rfl, by rw [fanL, if_pos d, rws_append, hR]; rfl, hs4⟩, by omega⟩
      · have dd : decide (diagOk n (fanRow v c)) = false := decide_eq_false d
        repeat' (first
          | (refine (isDiagonal_ok n (fanRow v c) _ _ _ _ (St.has hs' (.head _)) rfl (by omega) (by simp [fanRow])).mono ?_; rw [dd]; rintro v h' ⟨rfl, e'⟩; subst h'; conv => whnf)
          | refine AW.seq ?_
          | (refine AW.region ?_; conv => whnf)
          | refine AW.block ?_
          | (refine AW.skip ?_; conv => whnf)
          | (refine AW.ret ?_; conv => whnf)
          | (refine AW.exit ?_; conv => whnf)
          | refine AW.cond (by rfl) ?_
          | (refine (within_ok _ _ _ _).mono ?_; rintro v h' ⟨rfl, e'⟩; subst h'; conv => whnf)
          | (refine (sortFunc_ok _ _ _ _ _ _ _ (by assumption) (by first | rfl | omega) (by omega) (by assumption)).mono ?_; rintro v h' ⟨rfl, hs'⟩; conv => whnf)
          | (refine Br.tt ?_; conv => whnf)
          | (refine Br.ff ?_; conv => whnf)
          | refine Br.not ?_
          | (refine Br.t (beq_self_eq_true _) ?_; conv => whnf)
          | (refine Br.t (by assumption) ?_; conv => whnf)
          | (refine Br.f (by assumption) ?_; conv => whnf)
          | (refine Br.dt (by omega) ?_; conv => whnf)
          | (refine Br.df (by omega) ?_; conv => whnf)
          | (refine Br.it (by omega) ?_; conv => whnf)
          | (refine Br.if (by omega) ?_; conv => whnf)
          | (refine Br.nt (by omega) ?_; conv => whnf)
          | (refine Br.nf (by omega) ?_; conv => whnf)
          | (refine Br.dec (fun hc => ?_) (fun hc => ?_) <;> conv => whnf)
          | (refine Br.ieq (fun hc => ?_) (fun hc => ?_) <;> conv => whnf)
          | (refine Br.ine (fun hc => ?_) (fun hc => ?_) <;> conv => whnf)
          | (refine Br.mk (fun hc => ?_) (fun hc => ?_) <;> conv => whnf)
          | (refine Wr.i64 (by omega) ?_; conv => whnf)
          | (refine Ck.mk (by omega) ?_; conv => whnf)
          | (refine Wr.i64 (by simp only [List.length_drop, List.length_take, List.length_append, List.length_cons, List.length_nil]; omega) ?_; conv => whnf)
          | (refine Ck.mk (by simp only [List.length_drop, List.length_take, List.length_append, List.length_cons, List.length_nil]; omega) ?_; conv => whnf)
          | (refine NewG.st (by assumption) (fun bt h' hs' => ?_); conv => whnf)
          | (refine LoadsG.has (by first | assumption | exact St.has (by assumption) (by repeat first | exact .head _ | apply List.Mem.tail) | exact St.arg (by assumption) (by assumption)) (by simp) ?_; conv => whnf)
          | (refine Ck.mk (by simp; omega) ?_; conv => whnf))
        exact ⟨c + 1, b, _, (Less.cons rfl (Less.cons rfl (Less.cons rfl (Less.cons rfl (Less.cons rfl (Less.nil _)))))), ⟨by omega, R, rfl, by rw [fanL, if_neg d, hR], hs'.tail⟩, by omega⟩
    · have ec : c = n.toNat := by omega
      subst ec
      repeat' (first
        | (refine (sortFunc_ok R [] b _ _ h0 _ hs3 rfl (by omega) (fun r hr => by have := rws_two hR (fanL_two n v _) r hr; omega)).mono ?_; rintro v h' ⟨rfl, hs4⟩; conv => whnf)
        | refine AW.seq ?_
        | (refine AW.region ?_; conv => whnf)
        | refine AW.block ?_
        | (refine AW.skip ?_; conv => whnf)
        | (refine AW.ret ?_; conv => whnf)
        | (refine AW.exit ?_; conv => whnf)
        | refine AW.cond (by rfl) ?_
        | (refine (within_ok _ _ _ _).mono ?_; rintro v h' ⟨rfl, e'⟩; subst h'; conv => whnf)
        | (refine (sortFunc_ok _ _ _ _ _ _ _ (by assumption) (by first | rfl | omega) (by omega) (by assumption)).mono ?_; rintro v h' ⟨rfl, hs'⟩; conv => whnf)
        | (refine Br.tt ?_; conv => whnf)
        | (refine Br.ff ?_; conv => whnf)
        | refine Br.not ?_
        | (refine Br.t (beq_self_eq_true _) ?_; conv => whnf)
        | (refine Br.t (by assumption) ?_; conv => whnf)
        | (refine Br.f (by assumption) ?_; conv => whnf)
        | (refine Br.dt (by omega) ?_; conv => whnf)
        | (refine Br.df (by omega) ?_; conv => whnf)
        | (refine Br.it (by omega) ?_; conv => whnf)
        | (refine Br.if (by omega) ?_; conv => whnf)
        | (refine Br.nt (by omega) ?_; conv => whnf)
        | (refine Br.nf (by omega) ?_; conv => whnf)
        | (refine Br.dec (fun hc => ?_) (fun hc => ?_) <;> conv => whnf)
        | (refine Br.ieq (fun hc => ?_) (fun hc => ?_) <;> conv => whnf)
        | (refine Br.ine (fun hc => ?_) (fun hc => ?_) <;> conv => whnf)
        | (refine Br.mk (fun hc => ?_) (fun hc => ?_) <;> conv => whnf)
        | (refine Wr.i64 (by omega) ?_; conv => whnf)
        | (refine Ck.mk (by omega) ?_; conv => whnf)
        | (refine Wr.i64 (by simp only [List.length_drop, List.length_take, List.length_append, List.length_cons, List.length_nil]; omega) ?_; conv => whnf)
        | (refine Ck.mk (by simp only [List.length_drop, List.length_take, List.length_append, List.length_cons, List.length_nil]; omega) ?_; conv => whnf)
        | (refine NewG.st (by assumption) (fun bt h' hs' => ?_); conv => whnf)
        | (refine LoadsG.has (by first | assumption | exact St.has (by assumption) (by repeat first | exact .head _ | apply List.Mem.tail) | exact St.arg (by assumption) (by assumption)) (by simp) ?_; conv => whnf)
        | (refine Ck.mk (by simp; omega) ?_; conv => whnf))
      refine RetR.mk' ?_ (by rw [insO_len]) hs4
      rw [e, insO_rws, hR]
  · have e : fan n v = ([], false) := if_neg ok
    unfold fanOk at ok
    refine AC.enter Tryz.func18 Tryz.call18 rfl Tryz.ntmps18 (of_decide_eq_true (by rfl)) ?_
    repeat' (first
      | refine AW.seq ?_
      | (refine AW.region ?_; conv => whnf)
      | refine AW.block ?_
      | (refine AW.skip ?_; conv => whnf)
      | (refine AW.ret ?_; conv => whnf)
      | (refine AW.exit ?_; conv => whnf)
      | refine AW.cond (by rfl) ?_
      | (refine (within_ok _ _ _ _).mono ?_; rintro v h' ⟨rfl, e'⟩; subst h'; conv => whnf)
      | (refine (sortFunc_ok _ _ _ _ _ _ _ (by assumption) (by first | rfl | omega) (by omega) (by assumption)).mono ?_; rintro v h' ⟨rfl, hs'⟩; conv => whnf)
      | (refine Br.tt ?_; conv => whnf)
      | (refine Br.ff ?_; conv => whnf)
      | refine Br.not ?_
      | (refine Br.t (beq_self_eq_true _) ?_; conv => whnf)
      | (refine Br.t (by assumption) ?_; conv => whnf)
      | (refine Br.f (by assumption) ?_; conv => whnf)
      | (refine Br.dt (by omega) ?_; conv => whnf)
      | (refine Br.df (by omega) ?_; conv => whnf)
      | (refine Br.it (by omega) ?_; conv => whnf)
      | (refine Br.if (by omega) ?_; conv => whnf)
      | (refine Br.nt (by omega) ?_; conv => whnf)
      | (refine Br.nf (by omega) ?_; conv => whnf)
      | (refine Br.dec (fun hc => ?_) (fun hc => ?_) <;> conv => whnf)
      | (refine Br.ieq (fun hc => ?_) (fun hc => ?_) <;> conv => whnf)
      | (refine Br.ine (fun hc => ?_) (fun hc => ?_) <;> conv => whnf)
      | (refine Br.mk (fun hc => ?_) (fun hc => ?_) <;> conv => whnf)
      | (refine Wr.i64 (by omega) ?_; conv => whnf)
      | (refine Ck.mk (by omega) ?_; conv => whnf)
      | (refine Wr.i64 (by simp only [List.length_drop, List.length_take, List.length_append, List.length_cons, List.length_nil]; omega) ?_; conv => whnf)
      | (refine Ck.mk (by simp only [List.length_drop, List.length_take, List.length_append, List.length_cons, List.length_nil]; omega) ?_; conv => whnf)
      | (refine NewG.st (by assumption) (fun bt h' hs' => ?_); conv => whnf)
      | (refine LoadsG.has (by first | assumption | exact St.has (by assumption) (by repeat first | exact .head _ | apply List.Mem.tail) | exact St.arg (by assumption) (by assumption)) (by simp) ?_; conv => whnf)
      | (refine Ck.mk (by simp; omega) ?_; conv => whnf))
    all_goals exact RetR.mk' (R := []) e rfl (nilRows hs')


theorem fan_diag {n v : Int} {c : Nat} (h1 : 2 ≤ n ∧ n ≤ 10) (h2 : 0 ≤ v ∧ v ≤ n - 1) (hc : c < n.toNat) : diagOk n (fanRow v c) ↔ 2 ≤ max v c - min v c ∧ ¬ (min v c = 0 ∧ max v c = n - 1) := by
  unfold diagOk fanRow
  simp only [List.getD_cons_zero, List.getD_cons_succ, List.length_cons, List.length_nil]
  constructor
  · rintro ⟨_, a, b, c, d⟩
    exact ⟨by omega, d⟩
  · rintro ⟨a, b⟩
    exact ⟨trivial, by omega, by omega, by omega, b⟩
set_option maxHeartbeats 1000000 in
theorem sFanOf_ok (n v : Int) (h0 : H) (hn : -9223372036854775808 ≤ n ∧ n ≤ 9223372036854775807) (hv : -9223372036854775808 ≤ v ∧ v ≤ 9223372036854775807) : AC env 21 [.int .i64 n, .int .i64 v] h0 (RetR (fan n v) h0) := by
  have hs := St.refl h0
  by_cases ok : fanOk n v
  · have e : fan n v = (sortL (fanL n v n.toNat), true) := if_pos ok
    obtain ⟨h1, h2⟩ := ok
    refine AC.enter Tryz.func21 Tryz.call21 rfl Tryz.ntmps21 (of_decide_eq_true (by rfl)) ?_
    repeat' (first
      | refine AW.seq ?_
      | (refine AW.region ?_; conv => whnf)
      | refine AW.block ?_
      | (refine AW.skip ?_; conv => whnf)
      | (refine AW.ret ?_; conv => whnf)
      | (refine AW.exit ?_; conv => whnf)
      | refine AW.cond (by rfl) ?_
      | (refine (l1In_ok _ _ _ _).mono ?_; rintro v h' ⟨rfl, e'⟩; subst h'; conv => whnf)
      | (refine Br.tt ?_; conv => whnf)
      | (refine Br.ff ?_; conv => whnf)
      | refine Br.not ?_
      | (refine Br.t (beq_self_eq_true _) ?_; conv => whnf)
      | (refine Br.t (by assumption) ?_; conv => whnf)
      | (refine Br.f (by assumption) ?_; conv => whnf)
      | (refine Br.dt (by omega) ?_; conv => whnf)
      | (refine Br.df (by omega) ?_; conv => whnf)
      | (refine Br.it (by omega) ?_; conv => whnf)
      | (refine Br.if (by omega) ?_; conv => whnf)
      | (refine Br.nt (by omega) ?_; conv => whnf)
      | (refine Br.nf (by omega) ?_; conv => whnf)
      | (refine Br.dec (fun hc => ?_) (fun hc => ?_) <;> conv => whnf)
      | (refine Br.ieq (fun hc => ?_) (fun hc => ?_) <;> conv => whnf)
      | (refine Br.ine (fun hc => ?_) (fun hc => ?_) <;> conv => whnf)
      | (refine Br.mk (fun hc => ?_) (fun hc => ?_) <;> conv => whnf)
      | (refine Wr.i64 (by omega) ?_; conv => whnf)
      | (refine Ck.mk (by omega) ?_; conv => whnf)
      | (refine Wr.i64 (by simp only [List.length_drop, List.length_take, List.length_append, List.length_cons, List.length_nil]; omega) ?_; conv => whnf)
      | (refine Ck.mk (by simp only [List.length_drop, List.length_take, List.length_append, List.length_cons, List.length_nil]; omega) ?_; conv => whnf)
      | (refine NewG.st (by assumption) (fun bt h' hs' => ?_); conv => whnf)
      | (refine Ck.mk (by simp; omega) ?_; conv => whnf))
    refine AW.loop3 (fun (c b N : Nat) => [(0, .int .i64 n), (1, .int .i64 v), (6, .slice b 0 N N), (7, .int .i64 c)]) (fun c b N h' => c ≤ n.toNat ∧ ∃ R, R.length = N ∧ rws R = sortL (fanL n v c) ∧ St h0 h' ((b, row (slcs R)) :: (blks R ++ []))) (fun c _ _ => n.toNat - c) 0 bt 0
      (Less.cons rfl (Less.cons rfl (Less.cons rfl (Less.cons rfl (Less.nil _))))) ⟨by omega, [], rfl, rfl, nilRows hs'⟩ ?_
    rintro c b N h3 ⟨hc, R, rfl, hR, hs3⟩
    have lR := fanL_len n v c
    have e2 : R.length = (fanL n v c).length := by rw [← rws_length, hR, sortL_len]
    have r2 : ∀ r ∈ R, r.2.length = 2 := rws_two hR (sortL_two (fanL_two n v c))
    clear hs hs'
    by_cases hlt : c < n.toNat
    · have fd := fan_diag h1 h2 hlt
      have cc : min (c : Int) v = min v c := by omega
      have cd : max (c : Int) v = max v c := by omega
      by_cases d : diagOk n (fanRow v c)
      · have d2 := fd.1 d
        repeat' (first
          | (rw [cc, cd])
          | (refine (put_ok R (fanRow v c) [] b _ _ _ h0 _ hs' rfl (by omega) (by omega) rfl r2).mono ?_; rintro v h' ⟨b', rfl, hs4⟩; conv => whnf)
          | refine AW.seq ?_
          | (refine AW.region ?_; conv => whnf)
          | refine AW.block ?_
          | (refine AW.skip ?_; conv => whnf)
          | (refine AW.ret ?_; conv => whnf)
          | (refine AW.exit ?_; conv => whnf)
          | refine AW.cond (by rfl) ?_
          | (refine (l1In_ok _ _ _ _).mono ?_; rintro v h' ⟨rfl, e'⟩; subst h'; conv => whnf)
          | (refine Br.tt ?_; conv => whnf)
          | (refine Br.ff ?_; conv => whnf)
          | refine Br.not ?_
          | (refine Br.t (beq_self_eq_true _) ?_; conv => whnf)
          | (refine Br.t (by assumption) ?_; conv => whnf)
          | (refine Br.f (by assumption) ?_; conv => whnf)
          | (refine Br.dt (by omega) ?_; conv => whnf)
          | (refine Br.df (by omega) ?_; conv => whnf)
          | (refine Br.it (by omega) ?_; conv => whnf)
          | (refine Br.if (by omega) ?_; conv => whnf)
          | (refine Br.nt (by omega) ?_; conv => whnf)
          | (refine Br.nf (by omega) ?_; conv => whnf)
          | (refine Br.dec (fun hc => ?_) (fun hc => ?_) <;> conv => whnf)
          | (refine Br.ieq (fun hc => ?_) (fun hc => ?_) <;> conv => whnf)
          | (refine Br.ine (fun hc => ?_) (fun hc => ?_) <;> conv => whnf)
          | (refine Br.mk (fun hc => ?_) (fun hc => ?_) <;> conv => whnf)
          | (refine Wr.i64 (by omega) ?_; conv => whnf)
          | (refine Ck.mk (by omega) ?_; conv => whnf)
          | (refine Wr.i64 (by simp only [List.length_drop, List.length_take, List.length_append, List.length_cons, List.length_nil]; omega) ?_; conv => whnf)
          | (refine Ck.mk (by simp only [List.length_drop, List.length_take, List.length_append, List.length_cons, List.length_nil]; omega) ?_; conv => whnf)
          | (refine NewG.st (by assumption) (fun bt h' hs' => ?_); conv => whnf)
          | (refine Ck.mk (by simp; omega) ?_; conv => whnf))
        all_goals exact ⟨c + 1, b', _, (Less.cons rfl (Less.cons rfl (Less.cons rfl (Less.cons rfl (Less.nil _))))), ⟨by omega, _, putP_len _ _, by rw [fanL, if_pos d, sortL_snoc, putP_rws, hR], hs4⟩, by omega⟩
      · have d2 : ¬ (2 ≤ max v c - min v c ∧ ¬ (min v c = 0 ∧ max v c = n - 1)) := fun a => d (fd.2 a)
        repeat' (first
          | (rw [cc, cd])
          | refine AW.seq ?_
          | (refine AW.region ?_; conv => whnf)
          | refine AW.block ?_
          | (refine AW.skip ?_; conv => whnf)
          | (refine AW.ret ?_; conv => whnf)
          | (refine AW.exit ?_; conv => whnf)
          | refine AW.cond (by rfl) ?_
          | (refine (l1In_ok _ _ _ _).mono ?_; rintro v h' ⟨rfl, e'⟩; subst h'; conv => whnf)
          | (refine Br.tt ?_; conv => whnf)
          | (refine Br.ff ?_; conv => whnf)
          | refine Br.not ?_
          | (refine Br.t (beq_self_eq_true _) ?_; conv => whnf)
          | (refine Br.t (by assumption) ?_; conv => whnf)
          | (refine Br.f (by assumption) ?_; conv => whnf)
          | (refine Br.dt (by omega) ?_; conv => whnf)
          | (refine Br.df (by omega) ?_; conv => whnf)
          | (refine Br.it (by omega) ?_; conv => whnf)
          | (refine Br.if (by omega) ?_; conv => whnf)
          | (refine Br.nt (by omega) ?_; conv => whnf)
          | (refine Br.nf (by omega) ?_; conv => whnf)
          | (refine Br.dec (fun hc => ?_) (fun hc => ?_) <;> conv => whnf)
          | (refine Br.ieq (fun hc => ?_) (fun hc => ?_) <;> conv => whnf)
          | (refine Br.ine (fun hc => ?_) (fun hc => ?_) <;> conv => whnf)
          | (refine Br.mk (fun hc => ?_) (fun hc => ?_) <;> conv => whnf)
          | (refine Wr.i64 (by omega) ?_; conv => whnf)
          | (refine Ck.mk (by omega) ?_; conv => whnf)
          | (refine Wr.i64 (by simp only [List.length_drop, List.length_take, List.length_append, List.length_cons, List.length_nil]; omega) ?_; conv => whnf)
          | (refine Ck.mk (by simp only [List.length_drop, List.length_take, List.length_append, List.length_cons, List.length_nil]; omega) ?_; conv => whnf)
          | (refine NewG.st (by assumption) (fun bt h' hs' => ?_); conv => whnf)
          | (refine Ck.mk (by simp; omega) ?_; conv => whnf))
        all_goals exact ⟨c + 1, b, _, (Less.cons rfl (Less.cons rfl (Less.cons rfl (Less.cons rfl (Less.nil _))))), ⟨by omega, R, rfl, by rw [fanL, if_neg d, hR], hs3⟩, by omega⟩
    · have ec : c = n.toNat := by omega
      subst ec
      repeat' (first
        | refine AW.seq ?_
        | (refine AW.region ?_; conv => whnf)
        | refine AW.block ?_
        | (refine AW.skip ?_; conv => whnf)
        | (refine AW.ret ?_; conv => whnf)
        | (refine AW.exit ?_; conv => whnf)
        | refine AW.cond (by rfl) ?_
        | (refine (l1In_ok _ _ _ _).mono ?_; rintro v h' ⟨rfl, e'⟩; subst h'; conv => whnf)
        | (refine Br.tt ?_; conv => whnf)
        | (refine Br.ff ?_; conv => whnf)
        | refine Br.not ?_
        | (refine Br.t (beq_self_eq_true _) ?_; conv => whnf)
        | (refine Br.t (by assumption) ?_; conv => whnf)
        | (refine Br.f (by assumption) ?_; conv => whnf)
        | (refine Br.dt (by omega) ?_; conv => whnf)
        | (refine Br.df (by omega) ?_; conv => whnf)
        | (refine Br.it (by omega) ?_; conv => whnf)
        | (refine Br.if (by omega) ?_; conv => whnf)
        | (refine Br.nt (by omega) ?_; conv => whnf)
        | (refine Br.nf (by omega) ?_; conv => whnf)
        | (refine Br.dec (fun hc => ?_) (fun hc => ?_) <;> conv => whnf)
        | (refine Br.ieq (fun hc => ?_) (fun hc => ?_) <;> conv => whnf)
        | (refine Br.ine (fun hc => ?_) (fun hc => ?_) <;> conv => whnf)
        | (refine Br.mk (fun hc => ?_) (fun hc => ?_) <;> conv => whnf)
        | (refine Wr.i64 (by omega) ?_; conv => whnf)
        | (refine Ck.mk (by omega) ?_; conv => whnf)
        | (refine Wr.i64 (by simp only [List.length_drop, List.length_take, List.length_append, List.length_cons, List.length_nil]; omega) ?_; conv => whnf)
        | (refine Ck.mk (by simp only [List.length_drop, List.length_take, List.length_append, List.length_cons, List.length_nil]; omega) ?_; conv => whnf)
        | (refine NewG.st (by assumption) (fun bt h' hs' => ?_); conv => whnf)
        | (refine Ck.mk (by simp; omega) ?_; conv => whnf))
      exact RetR.mk' (by rw [e, hR]) rfl hs3
  · have e : fan n v = ([], false) := if_neg ok
    unfold fanOk at ok
    refine AC.enter Tryz.func21 Tryz.call21 rfl Tryz.ntmps21 (of_decide_eq_true (by rfl)) ?_
    repeat' (first
      | refine AW.seq ?_
      | (refine AW.region ?_; conv => whnf)
      | refine AW.block ?_
      | (refine AW.skip ?_; conv => whnf)
      | (refine AW.ret ?_; conv => whnf)
      | (refine AW.exit ?_; conv => whnf)
      | refine AW.cond (by rfl) ?_
      | (refine (l1In_ok _ _ _ _).mono ?_; rintro v h' ⟨rfl, e'⟩; subst h'; conv => whnf)
      | (refine Br.tt ?_; conv => whnf)
      | (refine Br.ff ?_; conv => whnf)
      | refine Br.not ?_
      | (refine Br.t (beq_self_eq_true _) ?_; conv => whnf)
      | (refine Br.t (by assumption) ?_; conv => whnf)
      | (refine Br.f (by assumption) ?_; conv => whnf)
      | (refine Br.dt (by omega) ?_; conv => whnf)
      | (refine Br.df (by omega) ?_; conv => whnf)
      | (refine Br.it (by omega) ?_; conv => whnf)
      | (refine Br.if (by omega) ?_; conv => whnf)
      | (refine Br.nt (by omega) ?_; conv => whnf)
      | (refine Br.nf (by omega) ?_; conv => whnf)
      | (refine Br.dec (fun hc => ?_) (fun hc => ?_) <;> conv => whnf)
      | (refine Br.ieq (fun hc => ?_) (fun hc => ?_) <;> conv => whnf)
      | (refine Br.ine (fun hc => ?_) (fun hc => ?_) <;> conv => whnf)
      | (refine Br.mk (fun hc => ?_) (fun hc => ?_) <;> conv => whnf)
      | (refine Wr.i64 (by omega) ?_; conv => whnf)
      | (refine Ck.mk (by omega) ?_; conv => whnf)
      | (refine Wr.i64 (by simp only [List.length_drop, List.length_take, List.length_append, List.length_cons, List.length_nil]; omega) ?_; conv => whnf)
      | (refine Ck.mk (by simp only [List.length_drop, List.length_take, List.length_append, List.length_cons, List.length_nil]; omega) ?_; conv => whnf)
      | (refine NewG.st (by assumption) (fun bt h' hs' => ?_); conv => whnf)
      | (refine Ck.mk (by simp; omega) ?_; conv => whnf))
    all_goals exact RetR.mk' (R := []) e rfl (nilRows hs')

end Go.Proofs.YtbicfognbbeigaaGreat
