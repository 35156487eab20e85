/-
  Contracts of rows of rows of rows are proved.
  They hold for all such rows.
-/
import Derived.Test.YtcepogfmajlcjaaC53
set_option linter.unusedVariables false
set_option linter.unusedSimpArgs false
namespace Go.Proofs.Ytcepogfmajlcjaa
open Go.Proofs.Ytcepogfmajlcjaa.Ab Go.Proofs.Ytcepogfmajlcjaa.Pl

/-! three levels of rows -/
abbrev RL3 := List (Nat × RL)
def slc3 (S : RL3) : List AV := S.map fun r => .slice r.1 0 r.2.length r.2.length
def blk3 (S : RL3) : List (Nat × Blk) := S.flatMap fun r => (r.1, row (slcs r.2)) :: blks r.2
def rw3 (S : RL3) : List (List (List Int)) := S.map fun r => rws r.2
def rb3 (S : RL3) (i : Nat) : Nat := (S.getD i (0, [])).1
def rl3 (S : RL3) (i : Nat) : RL := (S.getD i (0, [])).2
def tot3 (f : List (List (List Int))) : Nat := (f.map totL).sum
theorem slc3_append (A B : RL3) : slc3 (A ++ B) = slc3 A ++ slc3 B := List.map_append
theorem blk3_append (A B : RL3) : blk3 (A ++ B) = blk3 A ++ blk3 B := List.flatMap_append
theorem blk3_cons (r : Nat × RL) (A : RL3) : blk3 (r :: A) = (r.1, row (slcs r.2)) :: (blks r.2 ++ blk3 A) := by simp [blk3]
theorem rw3_append (A B : RL3) : rw3 (A ++ B) = rw3 A ++ rw3 B := List.map_append
theorem rw3_length (A : RL3) : (rw3 A).length = A.length := List.length_map _
theorem slc3_length (A : RL3) : (slc3 A).length = A.length := List.length_map _
theorem tot3_append (f g : List (List (List Int))) : tot3 (f ++ g) = tot3 f + tot3 g := by simp [tot3]
theorem tot3_cons (l : List (List Int)) (f : List (List (List Int))) : tot3 (l :: f) = totL l + tot3 f := by simp [tot3]
theorem tot3_mem {f : List (List (List Int))} {l : List (List Int)} (h : l ∈ f) : totL l ≤ tot3 f := by
  induction f with
  | nil => cases h
  | cons x f ih =>
    rw [tot3_cons]
    cases h with
    | head => omega
    | tail _ h => have := ih h; omega
theorem tot3_le {f : List (List (List Int))} {m : Nat} (h : ∀ l ∈ f, totL l ≤ m) : tot3 f ≤ f.length * m := by
  induction f with
  | nil => simp [tot3]
  | cons x f ih =>
    rw [tot3_cons, List.length_cons, Nat.add_mul]
    have := ih fun l hl => h l (.tail _ hl)
    have := h x (.head _)
    omega
theorem rl3_mem (S : RL3) (i : Nat) (h : i < S.length) : (rb3 S i, rl3 S i) ∈ S := by
  have e : S.getD i (0, []) = S[i] := by simp [List.getD, h]
  unfold rb3 rl3
  rw [e]
  exact List.getElem_mem h
theorem slc3_get (S : RL3) (i : Nat) (h : i < S.length) : (slc3 S)[i]? = some (.slice (rb3 S i) 0 (rl3 S i).length (rl3 S i).length) := by
  unfold slc3 rb3 rl3
  rw [List.getElem?_map, List.getElem?_eq_getElem h]
  simp [List.getD, h]
theorem rw3_at {S : RL3} {f : List (List (List Int))} (hf : rw3 S = f) (i : Nat) : f.getD i [] = rws (rl3 S i) := by
  subst hf
  unfold rw3 rl3
  simp only [List.getD, List.getElem?_map]
  cases S[i]? <;> rfl
structure Cube (h : H) (b : Nat) (S : RL3) : Prop where
  out : Has h b (slc3 S)
  inn : ∀ r ∈ S, Grid h r.1 r.2
theorem Cube.keep {h h' : H} {b : Nat} {S : RL3} (m : Cube h b S) (k : Keeps h h') : Cube h' b S := ⟨m.out.keep k, fun r hr => (m.inn r hr).keep k⟩
theorem Cube.at {h : H} {b : Nat} {S : RL3} (m : Cube h b S) {i : Nat} (hi : i < S.length) : Grid h (rb3 S i) (rl3 S i) := m.inn _ (rl3_mem S i hi)
theorem Cube.rowAt {h : H} {b : Nat} {S : RL3} {f : List (List (List Int))} (m : Cube h b S) (hf : rw3 S = f) (r : Nat) {n sz q : Nat} (hs : sz = 1) {K : AV → Prop} (e : n = r) (ho : r < S.length) (hl : (f.getD r []).length = q) (hk : K (.slice (rb3 S r) 0 q q)) : LoadG h b (0 + mulSz n sz) K := by
  subst e
  rw [rw3_at hf, rws_length] at hl
  subst hl
  exact m.out.loadAt hs (slc3_get S n ho) hk
theorem blk3_mem {S : RL3} {r : Nat × RL} (h : r ∈ S) : (r.1, row (slcs r.2)) ∈ blk3 S ∧ ∀ p ∈ blks r.2, p ∈ blk3 S :=
  ⟨List.mem_flatMap.2 ⟨r, h, .head _⟩, fun p hp => List.mem_flatMap.2 ⟨r, h, .tail _ hp⟩⟩
theorem St.cubeIn {h0 h : H} {L : List (Nat × Blk)} {b : Nat} {S : RL3} (s : St h0 h L) (m : (b, row (slc3 S)) ∈ L) (mm : ∀ p ∈ blk3 S, p ∈ L) : Cube h b S :=
  ⟨s.has m, fun r hr => s.rowsIn (mm _ (blk3_mem hr).1) fun p hp => mm _ ((blk3_mem hr).2 p hp)⟩

inductive CSpot : List (Nat × Blk) → Nat → RL3 → RL3 → List (Nat × Blk) → Prop where
  | here {b : Nat} {R R' : RL3} {L : List (Nat × Blk)} : CSpot ((b, row (slc3 R)) :: (blk3 R ++ L)) b R R' ((b, row (slc3 R')) :: (blk3 R' ++ L))
  | there {x : Nat × Blk} {b : Nat} {R R' : RL3} {L L' : List (Nat × Blk)} (s : CSpot L b R R' L') : CSpot (x :: L) b R R' (x :: L')
  | app {X : List (Nat × Blk)} {b : Nat} {R R' : RL3} {L L' : List (Nat × Blk)} (s : CSpot L b R R' L') : CSpot (X ++ L) b R R' (X ++ L')
theorem CSpot.split {L L' : List (Nat × Blk)} {b : Nat} {R R' : RL3} (s : CSpot L b R R' L') : ∃ A B, L = A ++ (b, row (slc3 R)) :: (blk3 R ++ B) ∧ L' = A ++ (b, row (slc3 R')) :: (blk3 R' ++ B) := by
  induction s with
  | here => exact ⟨[], _, rfl, rfl⟩
  | there s ih =>
    obtain ⟨A, B, e1, e2⟩ := ih
    exact ⟨_ :: A, B, by rw [e1]; rfl, by rw [e2]; rfl⟩
  | app s ih =>
    obtain ⟨A, B, e1, e2⟩ := ih
    exact ⟨_ ++ A, B, by rw [e1, List.append_assoc], by rw [e2, List.append_assoc]⟩
theorem St.cubeAt {h0 h : H} {L : List (Nat × Blk)} {b : Nat} {S : RL3} (s : St h0 h L) (sp : CSpot L b S S L) : Cube h b S := by
  obtain ⟨A, B, rfl, _⟩ := sp.split
  exact St.cubeIn s (List.mem_append_right _ (.head _)) fun p hp => List.mem_append_right _ (.tail _ (List.mem_append_left _ hp))

def mark3 (k : Int) : RL3 → RL3
  | [] => []
  | r :: S => (r.1, markR k r.2) :: mark3 (k + totL (rws r.2)) S
theorem mark3_slc : ∀ (S : RL3) (k : Int), slc3 (mark3 k S) = slc3 S
  | [], k => rfl
  | r :: S, k => by
    have := mark3_slc S (k + totL (rws r.2))
    simp only [slc3, mark3, List.map_cons, markR_len] at this ⊢
    rw [this]
theorem mark3_len : ∀ (S : RL3) (k : Int), (mark3 k S).length = S.length
  | [], k => rfl
  | r :: S, k => by rw [mark3, List.length_cons, mark3_len S, List.length_cons]
theorem mark3_append : ∀ (A B : RL3) (k : Int), mark3 k (A ++ B) = mark3 k A ++ mark3 (k + tot3 (rw3 A)) B
  | [], B, k => by simp [mark3, tot3, rw3]
  | r :: A, B, k => by
    rw [List.cons_append, mark3, mark3, mark3_append A B]
    have : tot3 (rw3 (r :: A)) = totL (rws r.2) + tot3 (rw3 A) := tot3_cons _ _
    rw [this, List.cons_append]
    congr 3
    omega
theorem rl3_mid (A B : RL3) (x : Nat × RL) : (A ++ x :: B).getD A.length (0, []) = x := by simp [List.getD]
theorem rspot_mid (X Y : List (Nat × Blk)) (b : Nat) (R R' : RL) : RSpot (X ++ (b, row (slcs R)) :: (blks R ++ Y)) b R R' (X ++ (b, row (slcs R')) :: (blks R' ++ Y)) := .app .here

set_option maxHeartbeats 1000000 in
theorem markIntSSS_ok (S : RL3) (f : List (List (List Int))) (L L' : List (Nat × Blk)) (b N C : Nat) (k : Int) (H0 hp : H) (hs : St H0 hp L) (sp : CSpot L b S (mark3 k S) L') (hS : rw3 S = f) (hN : N = f.length) (ht : tot3 f ≤ 2000000) (hr : ∀ g ∈ f, g.length ≤ 2000000) (hl : f.length ≤ 2000000) (hk : 0 ≤ k ∧ k ≤ 10000000) :
    AC env 45 [.slice b 0 N C, .int .i64 k] hp fun v h' => v = .int .i64 (k + tot3 f) ∧ St H0 h' L' := by
  subst hS
  obtain ⟨A, B, rfl, rfl⟩ := sp.split
  have lS : S.length = N := by rw [hN, rw3_length]
  refine AC.enter Try.func45 Try.call45 rfl Try.ntmps45 (of_decide_eq_true (by rfl)) ?_
  repeat' (first
    | refine AW.seq ?_
    | (refine AW.region ?_; conv => whnf)
    | refine AW.block ?_
    | (refine AW.skip ?_; conv => whnf)
    | (refine AW.ret ?_; conv => whnf)
    | (refine AW.exit ?_; conv => whnf)
    | refine AW.cond (by rfl) ?_
    | (refine (markIntSS_ok _ _ _ _ _ _ _ _ _ _ (by assumption) (by repeat first | exact RSpot.here | apply RSpot.there | apply RSpot.app) (by assumption) (by first | rfl | omega) (by assumption) (by omega) (by omega)).mono ?_; rintro v h' ⟨rfl, hs'⟩; conv => whnf)
    | (refine Br.tt ?_; conv => whnf)
    | (refine Br.ff ?_; conv => whnf)
    | refine Br.not ?_
    | (refine Br.t (beq_self_eq_true _) ?_; conv => whnf)
    | (refine Br.t (by assumption) ?_; conv => whnf)
    | (refine Br.f (by assumption) ?_; conv => whnf)
    | (refine Br.dt (by omega) ?_; conv => whnf)
    | (refine Br.df (by omega) ?_; conv => whnf)
    | (refine Br.it (by omega) ?_; conv => whnf)
    | (refine Br.if (by omega) ?_; conv => whnf)
    | (refine Br.nt (by omega) ?_; conv => whnf)
    | (refine Br.nf (by omega) ?_; conv => whnf)
    | (refine Br.dec (fun hc => ?_) (fun hc => ?_) <;> conv => whnf)
    | (refine Br.ieq (fun hc => ?_) (fun hc => ?_) <;> conv => whnf)
    | (refine Br.ine (fun hc => ?_) (fun hc => ?_) <;> conv => whnf)
    | (refine Br.mk (fun hc => ?_) (fun hc => ?_) <;> conv => whnf)
    | (refine Wr.i64 (by omega) ?_; conv => whnf)
    | (refine Ck.mk (by omega) ?_; conv => whnf)
    | (refine Wr.i64 (by simp only [List.length_drop, List.length_take, List.length_append, List.length_cons, List.length_nil]; omega) ?_; conv => whnf)
    | (refine Ck.mk (by simp only [List.length_drop, List.length_take, List.length_append, List.length_cons, List.length_nil]; omega) ?_; conv => whnf)
    | (refine Has.load1 (by first | assumption | exact St.has (by assumption) (by repeat first | exact .head _ | apply List.Mem.tail) | exact St.arg (by assumption) (by assumption)) ?_; conv => whnf)
    | (refine Ck.mk (by simp; omega) ?_; conv => whnf))
  refine AW.loop2 (fun (i : Nat) (x : Int) => [(0, .slice b 0 N C), (1, .int .i64 x), (5, .int .i64 i)]) (fun i x h' => ∃ X Y, S = X ++ Y ∧ X.length = i ∧ x = k + tot3 (rw3 X) ∧ St H0 h' (A ++ (b, row (slc3 S)) :: (blk3 (mark3 k X ++ Y) ++ B))) (fun i _ => N - i) 0 k
    (Less.cons rfl (Less.cons rfl (Less.cons rfl (Less.nil _)))) ⟨[], S, rfl, rfl, (Int.add_zero _).symm, hs⟩ ?_
  rintro i x h1 ⟨X, Y, rfl, rfl, rfl, hs1⟩
  have lX := mark3_len X k
  have tX : tot3 (rw3 (X ++ Y)) = tot3 (rw3 X) + tot3 (rw3 Y) := by rw [rw3_append, tot3_append]
  cases Y with
  | cons y Y =>
    obtain ⟨c, R⟩ := y
    have e0 : X.length + (Y.length + 1) = N := by simpa using lS
    have er : rb3 (X ++ (c, R) :: Y) X.length = c := by unfold rb3; rw [rl3_mid]
    have el : rl3 (X ++ (c, R) :: Y) X.length = R := by unfold rl3; rw [rl3_mid]
    have tY : tot3 (rw3 ((c, R) :: Y)) = totL (rws R) + tot3 (rw3 Y) := tot3_cons _ _
    have lR := hr (rws R) (List.mem_map.2 ⟨(c, R), List.mem_append_right _ (.head _), rfl⟩)
    have lR2 := rws_length R
    have hb : Has h1 b (slc3 (X ++ (c, R) :: Y)) := hs1.has (List.mem_append_right _ (.head _))
    have eB : blk3 (mark3 k X ++ (c, R) :: Y) = blk3 (mark3 k X) ++ (c, row (slcs R)) :: (blks R ++ blk3 Y) := by rw [blk3_append, blk3_cons]
    rw [eB] at hs1
    have hs2 : St H0 h1 ((A ++ (b, row (slc3 (X ++ (c, R) :: Y))) :: blk3 (mark3 k X)) ++ (c, row (slcs R)) :: (blks R ++ (blk3 Y ++ B))) := by simpa using hs1
    repeat' (first
      | (refine Has.loadAt hb rfl (slc3_get _ X.length (by simp)) ?_; rw [er, el]; conv => whnf)
      | (refine (markIntSS_ok R (rws R) _ _ c _ _ _ _ _ hs2 (rspot_mid _ _ _ _ _) rfl lR2.symm (by omega) (by omega) (by omega)).mono ?_; rintro v h' ⟨rfl, hs3⟩; conv => whnf)
      | refine AW.seq ?_
      | (refine AW.region ?_; conv => whnf)
      | refine AW.block ?_
      | (refine AW.skip ?_; conv => whnf)
      | (refine AW.ret ?_; conv => whnf)
      | (refine AW.exit ?_; conv => whnf)
      | refine AW.cond (by rfl) ?_
      | (refine (markIntSS_ok _ _ _ _ _ _ _ _ _ _ (by assumption) (by repeat first | exact RSpot.here | apply RSpot.there | apply RSpot.app) (by assumption) (by first | rfl | omega) (by assumption) (by omega) (by omega)).mono ?_; rintro v h' ⟨rfl, hs'⟩; conv => whnf)
      | (refine Br.tt ?_; conv => whnf)
      | (refine Br.ff ?_; conv => whnf)
      | refine Br.not ?_
      | (refine Br.t (beq_self_eq_true _) ?_; conv => whnf)
      | (refine Br.t (by assumption) ?_; conv => whnf)
      | (refine Br.f (by assumption) ?_; conv => whnf)
      | (refine Br.dt (by omega) ?_; conv => whnf)
      | (refine Br.df (by omega) ?_; conv => whnf)
      | (refine Br.it (by omega) ?_; conv => whnf)
      | (refine Br.if (by omega) ?_; conv => whnf)
      | (refine Br.nt (by omega) ?_; conv => whnf)
      | (refine Br.nf (by omega) ?_; conv => whnf)
      | (refine Br.dec (fun hc => ?_) (fun hc => ?_) <;> conv => whnf)
      | (refine Br.ieq (fun hc => ?_) (fun hc => ?_) <;> conv => whnf)
      | (refine Br.ine (fun hc => ?_) (fun hc => ?_) <;> conv => whnf)
      | (refine Br.mk (fun hc => ?_) (fun hc => ?_) <;> conv => whnf)
      | (refine Wr.i64 (by omega) ?_; conv => whnf)
      | (refine Ck.mk (by omega) ?_; conv => whnf)
      | (refine Wr.i64 (by simp only [List.length_drop, List.length_take, List.length_append, List.length_cons, List.length_nil]; omega) ?_; conv => whnf)
      | (refine Ck.mk (by simp only [List.length_drop, List.length_take, List.length_append, List.length_cons, List.length_nil]; omega) ?_; conv => whnf)
      | (refine Has.load1 (by first | assumption | exact St.has (by assumption) (by repeat first | exact .head _ | apply List.Mem.tail) | exact St.arg (by assumption) (by assumption)) ?_; conv => whnf)
      | (refine Ck.mk (by simp; omega) ?_; conv => whnf))
    refine ⟨X.length + 1, _, (Less.cons rfl (Less.cons rfl (Less.cons rfl (Less.nil _)))), ⟨X ++ [(c, R)], Y, by simp, by simp, ?_, ?_⟩, by omega⟩
    · have : tot3 (rw3 (X ++ [(c, R)])) = tot3 (rw3 X) + totL (rws R) := by rw [rw3_append, tot3_append]; simp [rw3, tot3]
      rw [this]
      omega
    · have e4 : mark3 k (X ++ [(c, R)]) ++ Y = mark3 k X ++ (c, markR (k + tot3 (rw3 X)) R) :: Y := by rw [mark3_append]; simp [mark3]
      rw [e4, blk3_append, blk3_cons]
      simpa using hs3
  | nil =>
    have e0 : X.length = N := by simpa using lS
    repeat' (first
      | refine AW.seq ?_
      | (refine AW.region ?_; conv => whnf)
      | refine AW.block ?_
      | (refine AW.skip ?_; conv => whnf)
      | (refine AW.ret ?_; conv => whnf)
      | (refine AW.exit ?_; conv => whnf)
      | refine AW.cond (by rfl) ?_
      | (refine (markIntSS_ok _ _ _ _ _ _ _ _ _ _ (by assumption) (by repeat first | exact RSpot.here | apply RSpot.there | apply RSpot.app) (by assumption) (by first | rfl | omega) (by assumption) (by omega) (by omega)).mono ?_; rintro v h' ⟨rfl, hs'⟩; conv => whnf)
      | (refine Br.tt ?_; conv => whnf)
      | (refine Br.ff ?_; conv => whnf)
      | refine Br.not ?_
      | (refine Br.t (beq_self_eq_true _) ?_; conv => whnf)
      | (refine Br.t (by assumption) ?_; conv => whnf)
      | (refine Br.f (by assumption) ?_; conv => whnf)
      | (refine Br.dt (by omega) ?_; conv => whnf)
      | (refine Br.df (by omega) ?_; conv => whnf)
      | (refine Br.it (by omega) ?_; conv => whnf)
      | (refine Br.if (by omega) ?_; conv => whnf)
      | (refine Br.nt (by omega) ?_; conv => whnf)
      | (refine Br.nf (by omega) ?_; conv => whnf)
      | (refine Br.dec (fun hc => ?_) (fun hc => ?_) <;> conv => whnf)
      | (refine Br.ieq (fun hc => ?_) (fun hc => ?_) <;> conv => whnf)
      | (refine Br.ine (fun hc => ?_) (fun hc => ?_) <;> conv => whnf)
      | (refine Br.mk (fun hc => ?_) (fun hc => ?_) <;> conv => whnf)
      | (refine Wr.i64 (by omega) ?_; conv => whnf)
      | (refine Ck.mk (by omega) ?_; conv => whnf)
      | (refine Wr.i64 (by simp only [List.length_drop, List.length_take, List.length_append, List.length_cons, List.length_nil]; omega) ?_; conv => whnf)
      | (refine Ck.mk (by simp only [List.length_drop, List.length_take, List.length_append, List.length_cons, List.length_nil]; omega) ?_; conv => whnf)
      | (refine Has.load1 (by first | assumption | exact St.has (by assumption) (by repeat first | exact .head _ | apply List.Mem.tail) | exact St.arg (by assumption) (by assumption)) ?_; conv => whnf)
      | (refine Ck.mk (by simp; omega) ?_; conv => whnf))
    refine ⟨by rw [List.append_nil], ?_⟩
    rw [List.append_nil] at hs1 ⊢
    rw [mark3_slc]
    simpa using hs1

set_option maxHeartbeats 1000000 in
theorem heldIntSSS_ok (S : RL3) (f : List (List (List Int))) (b N C : Nat) (k : Int) (h0 : H) (hg : Cube h0 b (mark3 k S)) (hS : rw3 S = f) (hN : N = f.length) (ht : tot3 f ≤ 2000000) (hr : ∀ g ∈ f, g.length ≤ 2000000) (hl : f.length ≤ 2000000) (hk : 0 ≤ k ∧ k ≤ 10000000) :
    AC env 46 [.slice b 0 N C, .int .i64 k] h0 fun v h' => v = .int .i64 (k + tot3 f) ∧ h' = h0 := by
  subst hS
  have lS : S.length = N := by rw [hN, rw3_length]
  refine AC.enter Try.func46 Try.call46 rfl Try.ntmps46 (of_decide_eq_true (by rfl)) ?_
  repeat' (first
    | refine AW.seq ?_
    | (refine AW.region ?_; conv => whnf)
    | refine AW.block ?_
    | (refine AW.skip ?_; conv => whnf)
    | (refine AW.ret ?_; conv => whnf)
    | (refine AW.exit ?_; conv => whnf)
    | refine AW.cond (by rfl) ?_
    | (refine (heldIntSS_ok _ _ _ _ _ _ _ (St.gridAt (by assumption) (by repeat first | exact RSpot.here | apply RSpot.there | apply RSpot.app)) (by assumption) (by first | rfl | omega) (by assumption) (by omega) (by omega)).mono ?_; rintro v h' ⟨rfl, e'⟩; subst h'; conv => whnf)
    | (refine Br.tt ?_; conv => whnf)
    | (refine Br.ff ?_; conv => whnf)
    | refine Br.not ?_
    | (refine Br.t (beq_self_eq_true _) ?_; conv => whnf)
    | (refine Br.t (by assumption) ?_; conv => whnf)
    | (refine Br.f (by assumption) ?_; conv => whnf)
    | (refine Br.dt (by omega) ?_; conv => whnf)
    | (refine Br.df (by omega) ?_; conv => whnf)
    | (refine Br.it (by omega) ?_; conv => whnf)
    | (refine Br.if (by omega) ?_; conv => whnf)
    | (refine Br.nt (by omega) ?_; conv => whnf)
    | (refine Br.nf (by omega) ?_; conv => whnf)
    | (refine Br.dec (fun hc => ?_) (fun hc => ?_) <;> conv => whnf)
    | (refine Br.ieq (fun hc => ?_) (fun hc => ?_) <;> conv => whnf)
    | (refine Br.ine (fun hc => ?_) (fun hc => ?_) <;> conv => whnf)
    | (refine Br.mk (fun hc => ?_) (fun hc => ?_) <;> conv => whnf)
    | (refine Wr.i64 (by omega) ?_; conv => whnf)
    | (refine Ck.mk (by omega) ?_; conv => whnf)
    | (refine Wr.i64 (by simp only [List.length_drop, List.length_take, List.length_append, List.length_cons, List.length_nil]; omega) ?_; conv => whnf)
    | (refine Ck.mk (by simp only [List.length_drop, List.length_take, List.length_append, List.length_cons, List.length_nil]; omega) ?_; conv => whnf)
    | (refine Has.load1 (by first | assumption | exact St.has (by assumption) (by repeat first | exact .head _ | apply List.Mem.tail) | exact St.arg (by assumption) (by assumption)) ?_; conv => whnf)
    | (refine Ck.mk (by simp; omega) ?_; conv => whnf))
  refine AW.loop2 (fun (i : Nat) (x : Int) => [(0, .slice b 0 N C), (1, .int .i64 x), (5, .int .i64 i)]) (fun i x h' => (∃ X Y, S = X ++ Y ∧ X.length = i ∧ x = k + tot3 (rw3 X)) ∧ h' = h0) (fun i _ => N - i) 0 k
    (Less.cons rfl (Less.cons rfl (Less.cons rfl (Less.nil _)))) ⟨⟨[], S, rfl, rfl, (Int.add_zero _).symm⟩, rfl⟩ ?_
  rintro i x h1 ⟨⟨X, Y, rfl, rfl, rfl⟩, rfl⟩
  have lX := mark3_len X k
  have tX : tot3 (rw3 (X ++ Y)) = tot3 (rw3 X) + tot3 (rw3 Y) := by rw [rw3_append, tot3_append]
  cases Y with
  | cons y Y =>
    obtain ⟨c, R⟩ := y
    have e0 : X.length + (Y.length + 1) = N := by simpa using lS
    have tY : tot3 (rw3 ((c, R) :: Y)) = totL (rws R) + tot3 (rw3 Y) := tot3_cons _ _
    have lR := hr (rws R) (List.mem_map.2 ⟨(c, R), List.mem_append_right _ (.head _), rfl⟩)
    have lR2 := rws_length R
    have em : mark3 k (X ++ (c, R) :: Y) = mark3 k X ++ (c, markR (k + tot3 (rw3 X)) R) :: mark3 (k + tot3 (rw3 X) + totL (rws R)) Y := by rw [mark3_append]; rfl
    rw [em] at hg
    have er : rb3 (mark3 k X ++ (c, markR (k + tot3 (rw3 X)) R) :: mark3 (k + tot3 (rw3 X) + totL (rws R)) Y) X.length = c := by unfold rb3; rw [← lX, rl3_mid]
    have el : rl3 (mark3 k X ++ (c, markR (k + tot3 (rw3 X)) R) :: mark3 (k + tot3 (rw3 X) + totL (rws R)) Y) X.length = markR (k + tot3 (rw3 X)) R := by unfold rl3; rw [← lX, rl3_mid]
    have hgr := hg.inn (c, markR (k + tot3 (rw3 X)) R) (List.mem_append_right _ (.head _))
    repeat' (first
      | (refine Has.loadAt hg.out rfl (slc3_get _ X.length (by simp [lX])) ?_; rw [er, el, markR_len]; conv => whnf)
      | (refine (heldIntSS_ok R (rws R) c _ _ _ _ hgr rfl lR2.symm (by omega) (by omega) (by omega)).mono ?_; rintro v h' ⟨rfl, e'⟩; subst h'; conv => whnf)
      | refine AW.seq ?_
      | (refine AW.region ?_; conv => whnf)
      | refine AW.block ?_
      | (refine AW.skip ?_; conv => whnf)
      | (refine AW.ret ?_; conv => whnf)
      | (refine AW.exit ?_; conv => whnf)
      | refine AW.cond (by rfl) ?_
      | (refine (heldIntSS_ok _ _ _ _ _ _ _ (St.gridAt (by assumption) (by repeat first | exact RSpot.here | apply RSpot.there | apply RSpot.app)) (by assumption) (by first | rfl | omega) (by assumption) (by omega) (by omega)).mono ?_; rintro v h' ⟨rfl, e'⟩; subst h'; conv => whnf)
      | (refine Br.tt ?_; conv => whnf)
      | (refine Br.ff ?_; conv => whnf)
      | refine Br.not ?_
      | (refine Br.t (beq_self_eq_true _) ?_; conv => whnf)
      | (refine Br.t (by assumption) ?_; conv => whnf)
      | (refine Br.f (by assumption) ?_; conv => whnf)
      | (refine Br.dt (by omega) ?_; conv => whnf)
      | (refine Br.df (by omega) ?_; conv => whnf)
      | (refine Br.it (by omega) ?_; conv => whnf)
      | (refine Br.if (by omega) ?_; conv => whnf)
      | (refine Br.nt (by omega) ?_; conv => whnf)
      | (refine Br.nf (by omega) ?_; conv => whnf)
      | (refine Br.dec (fun hc => ?_) (fun hc => ?_) <;> conv => whnf)
      | (refine Br.ieq (fun hc => ?_) (fun hc => ?_) <;> conv => whnf)
      | (refine Br.ine (fun hc => ?_) (fun hc => ?_) <;> conv => whnf)
      | (refine Br.mk (fun hc => ?_) (fun hc => ?_) <;> conv => whnf)
      | (refine Wr.i64 (by omega) ?_; conv => whnf)
      | (refine Ck.mk (by omega) ?_; conv => whnf)
      | (refine Wr.i64 (by simp only [List.length_drop, List.length_take, List.length_append, List.length_cons, List.length_nil]; omega) ?_; conv => whnf)
      | (refine Ck.mk (by simp only [List.length_drop, List.length_take, List.length_append, List.length_cons, List.length_nil]; omega) ?_; conv => whnf)
      | (refine Has.load1 (by first | assumption | exact St.has (by assumption) (by repeat first | exact .head _ | apply List.Mem.tail) | exact St.arg (by assumption) (by assumption)) ?_; conv => whnf)
      | (refine Ck.mk (by simp; omega) ?_; conv => whnf))
    refine ⟨X.length + 1, _, (Less.cons rfl (Less.cons rfl (Less.cons rfl (Less.nil _)))), ⟨⟨X ++ [(c, R)], Y, by simp, by simp, ?_⟩, rfl⟩, by omega⟩
    have : tot3 (rw3 (X ++ [(c, R)])) = tot3 (rw3 X) + totL (rws R) := by rw [rw3_append, tot3_append]; simp [rw3, tot3]
    rw [this]
    omega
  | nil =>
    have e0 : X.length = N := by simpa using lS
    repeat' (first
      | refine AW.seq ?_
      | (refine AW.region ?_; conv => whnf)
      | refine AW.block ?_
      | (refine AW.skip ?_; conv => whnf)
      | (refine AW.ret ?_; conv => whnf)
      | (refine AW.exit ?_; conv => whnf)
      | refine AW.cond (by rfl) ?_
      | (refine (heldIntSS_ok _ _ _ _ _ _ _ (St.gridAt (by assumption) (by repeat first | exact RSpot.here | apply RSpot.there | apply RSpot.app)) (by assumption) (by first | rfl | omega) (by assumption) (by omega) (by omega)).mono ?_; rintro v h' ⟨rfl, e'⟩; subst h'; conv => whnf)
      | (refine Br.tt ?_; conv => whnf)
      | (refine Br.ff ?_; conv => whnf)
      | refine Br.not ?_
      | (refine Br.t (beq_self_eq_true _) ?_; conv => whnf)
      | (refine Br.t (by assumption) ?_; conv => whnf)
      | (refine Br.f (by assumption) ?_; conv => whnf)
      | (refine Br.dt (by omega) ?_; conv => whnf)
      | (refine Br.df (by omega) ?_; conv => whnf)
      | (refine Br.it (by omega) ?_; conv => whnf)
      | (refine Br.if (by omega) ?_; conv => whnf)
      | (refine Br.nt (by omega) ?_; conv => whnf)
      | (refine Br.nf (by omega) ?_; conv => whnf)
      | (refine Br.dec (fun hc => ?_) (fun hc => ?_) <;> conv => whnf)
      | (refine Br.ieq (fun hc => ?_) (fun hc => ?_) <;> conv => whnf)
      | (refine Br.ine (fun hc => ?_) (fun hc => ?_) <;> conv => whnf)
      | (refine Br.mk (fun hc => ?_) (fun hc => ?_) <;> conv => whnf)
      | (refine Wr.i64 (by omega) ?_; conv => whnf)
      | (refine Ck.mk (by omega) ?_; conv => whnf)
      | (refine Wr.i64 (by simp only [List.length_drop, List.length_take, List.length_append, List.length_cons, List.length_nil]; omega) ?_; conv => whnf)
      | (refine Ck.mk (by simp only [List.length_drop, List.length_take, List.length_append, List.length_cons, List.length_nil]; omega) ?_; conv => whnf)
      | (refine Has.load1 (by first | assumption | exact St.has (by assumption) (by repeat first | exact .head _ | apply List.Mem.tail) | exact St.arg (by assumption) (by assumption)) ?_; conv => whnf)
      | (refine Ck.mk (by simp; omega) ?_; conv => whnf))
    exact ⟨by rw [List.append_nil], rfl⟩

set_option maxHeartbeats 1000000 in
theorem eqIntSSS_ok (S T : RL3) (f : List (List (List Int))) (b c N C D : Nat) (h0 : H) (hb : Cube h0 b S) (hc' : Cube h0 c T) (hS : rw3 S = f) (hT : rw3 T = f) (hN : N = f.length) (ht : tot3 f ≤ 2000000) (hr : ∀ g ∈ f, g.length ≤ 2000000) (hl : f.length ≤ 2000000) : AC env 44 [.slice b 0 N C, .slice c 0 N D] h0 fun v h' => v = .bool true ∧ h' = h0 := by
  have lS : S.length = N := by rw [hN, ← hS, rw3_length]
  have lT : T.length = N := by rw [hN, ← hT, rw3_length]
  refine AC.enter Try.func44 Try.call44 rfl Try.ntmps44 (of_decide_eq_true (by rfl)) ?_
  repeat' (first
    | refine AW.seq ?_
    | (refine AW.region ?_; conv => whnf)
    | refine AW.block ?_
    | (refine AW.skip ?_; conv => whnf)
    | (refine AW.ret ?_; conv => whnf)
    | (refine AW.exit ?_; conv => whnf)
    | refine AW.cond (by rfl) ?_
    | (refine AW.draw (id := 6) (.p 0 (.p 1 (.p 2 (.p 4 (.p 5 (.p 6 (.r 3 [8, 9] (.r 7 [8, 9] (.all [8] fun _ => (.p 9 .done)))))))))) (by kernel_rfl) (by kernel_rfl) ?_; conv => whnf)
    | (refine (eqRows_ok _ _ _ _ _ _ _ _ _ (St.gridAt (by assumption) (by repeat first | exact RSpot.here | apply RSpot.there | apply RSpot.app)) (St.gridAt (by assumption) (by repeat first | exact RSpot.here | apply RSpot.there | apply RSpot.app)) (by assumption) (by assumption) (by first | rfl | omega) (by assumption) (by omega)).mono ?_; rintro v h' ⟨rfl, e'⟩; subst h'; conv => whnf)
    | (refine Br.tt ?_; conv => whnf)
    | (refine Br.ff ?_; conv => whnf)
    | refine Br.not ?_
    | (refine Br.t (beq_self_eq_true _) ?_; conv => whnf)
    | (refine Br.t (by assumption) ?_; conv => whnf)
    | (refine Br.f (by assumption) ?_; conv => whnf)
    | (refine Br.dt (by omega) ?_; conv => whnf)
    | (refine Br.df (by omega) ?_; conv => whnf)
    | (refine Br.it (by omega) ?_; conv => whnf)
    | (refine Br.if (by omega) ?_; conv => whnf)
    | (refine Br.nt (by omega) ?_; conv => whnf)
    | (refine Br.nf (by omega) ?_; conv => whnf)
    | (refine Br.dec (fun hc => ?_) (fun hc => ?_) <;> conv => whnf)
    | (refine Br.ieq (fun hc => ?_) (fun hc => ?_) <;> conv => whnf)
    | (refine Br.ine (fun hc => ?_) (fun hc => ?_) <;> conv => whnf)
    | (refine Br.mk (fun hc => ?_) (fun hc => ?_) <;> conv => whnf)
    | (refine Wr.i64 (by omega) ?_; conv => whnf)
    | (refine Ck.mk (by omega) ?_; conv => whnf)
    | (refine Wr.i64 (by simp only [List.length_drop, List.length_take, List.length_append, List.length_cons, List.length_nil]; omega) ?_; conv => whnf)
    | (refine Ck.mk (by simp only [List.length_drop, List.length_take, List.length_append, List.length_cons, List.length_nil]; omega) ?_; conv => whnf)
    | (refine Has.load1 (by first | assumption | exact St.has (by assumption) (by repeat first | exact .head _ | apply List.Mem.tail) | exact St.arg (by assumption) (by assumption)) ?_; conv => whnf)
    | (refine Ck.mk (by simp; omega) ?_; conv => whnf))
  refine AW.loop1 (fun (k : Nat) => [(0, .slice b 0 N C), (1, .slice c 0 N D), (5, .int .i64 k)]) (fun k h' => k ≤ N ∧ h' = h0) (fun k => N - k) 0 (Less.cons rfl (Less.cons rfl (Less.cons rfl (Less.nil _)))) ⟨by omega, rfl⟩ ?_
  rintro k h' ⟨hk, rfl⟩
  by_cases hlt : k < N
  · have hm : f.getD k [] ∈ f := by
      have hk' : k < f.length := by omega
      have e : f.getD k [] = f[k] := by simp [List.getD, hk']
      rw [e]
      exact List.getElem_mem _
    have h1 := tot3_mem hm
    have h2 := hr _ hm
    repeat' (first
      | (refine Cube.rowAt hb hS k rfl rfl (by omega) rfl ?_; conv => whnf)
      | (refine Cube.rowAt hc' hT k rfl rfl (by omega) rfl ?_; conv => whnf)
      | (refine (eqRows_ok _ _ (f.getD k []) _ _ _ _ _ _ (hb.at (by omega)) (hc'.at (by omega)) (rw3_at hS k).symm (rw3_at hT k).symm rfl (by omega) h2).mono ?_; rintro v h' ⟨rfl, e'⟩; subst h'; conv => whnf)
      | refine AW.seq ?_
      | (refine AW.region ?_; conv => whnf)
      | refine AW.block ?_
      | (refine AW.skip ?_; conv => whnf)
      | (refine AW.ret ?_; conv => whnf)
      | (refine AW.exit ?_; conv => whnf)
      | refine AW.cond (by rfl) ?_
      | (refine AW.draw (id := 6) (.p 0 (.p 1 (.p 2 (.p 4 (.p 5 (.p 6 (.r 3 [8, 9] (.r 7 [8, 9] (.all [8] fun _ => (.p 9 .done)))))))))) (by kernel_rfl) (by kernel_rfl) ?_; conv => whnf)
      | (refine (eqRows_ok _ _ _ _ _ _ _ _ _ (St.gridAt (by assumption) (by repeat first | exact RSpot.here | apply RSpot.there | apply RSpot.app)) (St.gridAt (by assumption) (by repeat first | exact RSpot.here | apply RSpot.there | apply RSpot.app)) (by assumption) (by assumption) (by first | rfl | omega) (by assumption) (by omega)).mono ?_; rintro v h' ⟨rfl, e'⟩; subst h'; conv => whnf)
      | (refine Br.tt ?_; conv => whnf)
      | (refine Br.ff ?_; conv => whnf)
      | refine Br.not ?_
      | (refine Br.t (beq_self_eq_true _) ?_; conv => whnf)
      | (refine Br.t (by assumption) ?_; conv => whnf)
      | (refine Br.f (by assumption) ?_; conv => whnf)
      | (refine Br.dt (by omega) ?_; conv => whnf)
      | (refine Br.df (by omega) ?_; conv => whnf)
      | (refine Br.it (by omega) ?_; conv => whnf)
      | (refine Br.if (by omega) ?_; conv => whnf)
      | (refine Br.nt (by omega) ?_; conv => whnf)
      | (refine Br.nf (by omega) ?_; conv => whnf)
      | (refine Br.dec (fun hc => ?_) (fun hc => ?_) <;> conv => whnf)
      | (refine Br.ieq (fun hc => ?_) (fun hc => ?_) <;> conv => whnf)
      | (refine Br.ine (fun hc => ?_) (fun hc => ?_) <;> conv => whnf)
      | (refine Br.mk (fun hc => ?_) (fun hc => ?_) <;> conv => whnf)
      | (refine Wr.i64 (by omega) ?_; conv => whnf)
      | (refine Ck.mk (by omega) ?_; conv => whnf)
      | (refine Wr.i64 (by simp only [List.length_drop, List.length_take, List.length_append, List.length_cons, List.length_nil]; omega) ?_; conv => whnf)
      | (refine Ck.mk (by simp only [List.length_drop, List.length_take, List.length_append, List.length_cons, List.length_nil]; omega) ?_; conv => whnf)
      | (refine Has.load1 (by first | assumption | exact St.has (by assumption) (by repeat first | exact .head _ | apply List.Mem.tail) | exact St.arg (by assumption) (by assumption)) ?_; conv => whnf)
      | (refine Ck.mk (by simp; omega) ?_; conv => whnf))
    exact ⟨k + 1, (Less.cons rfl (Less.cons rfl (Less.cons rfl (Less.nil _)))), ⟨by omega, rfl⟩, by omega⟩
  · repeat' (first
      | refine AW.seq ?_
      | (refine AW.region ?_; conv => whnf)
      | refine AW.block ?_
      | (refine AW.skip ?_; conv => whnf)
      | (refine AW.ret ?_; conv => whnf)
      | (refine AW.exit ?_; conv => whnf)
      | refine AW.cond (by rfl) ?_
      | (refine AW.draw (id := 6) (.p 0 (.p 1 (.p 2 (.p 4 (.p 5 (.p 6 (.r 3 [8, 9] (.r 7 [8, 9] (.all [8] fun _ => (.p 9 .done)))))))))) (by kernel_rfl) (by kernel_rfl) ?_; conv => whnf)
      | (refine (eqRows_ok _ _ _ _ _ _ _ _ _ (St.gridAt (by assumption) (by repeat first | exact RSpot.here | apply RSpot.there | apply RSpot.app)) (St.gridAt (by assumption) (by repeat first | exact RSpot.here | apply RSpot.there | apply RSpot.app)) (by assumption) (by assumption) (by first | rfl | omega) (by assumption) (by omega)).mono ?_; rintro v h' ⟨rfl, e'⟩; subst h'; conv => whnf)
      | (refine Br.tt ?_; conv => whnf)
      | (refine Br.ff ?_; conv => whnf)
      | refine Br.not ?_
      | (refine Br.t (beq_self_eq_true _) ?_; conv => whnf)
      | (refine Br.t (by assumption) ?_; conv => whnf)
      | (refine Br.f (by assumption) ?_; conv => whnf)
      | (refine Br.dt (by omega) ?_; conv => whnf)
      | (refine Br.df (by omega) ?_; conv => whnf)
      | (refine Br.it (by omega) ?_; conv => whnf)
      | (refine Br.if (by omega) ?_; conv => whnf)
      | (refine Br.nt (by omega) ?_; conv => whnf)
      | (refine Br.nf (by omega) ?_; conv => whnf)
      | (refine Br.dec (fun hc => ?_) (fun hc => ?_) <;> conv => whnf)
      | (refine Br.ieq (fun hc => ?_) (fun hc => ?_) <;> conv => whnf)
      | (refine Br.ine (fun hc => ?_) (fun hc => ?_) <;> conv => whnf)
      | (refine Br.mk (fun hc => ?_) (fun hc => ?_) <;> conv => whnf)
      | (refine Wr.i64 (by omega) ?_; conv => whnf)
      | (refine Ck.mk (by omega) ?_; conv => whnf)
      | (refine Wr.i64 (by simp only [List.length_drop, List.length_take, List.length_append, List.length_cons, List.length_nil]; omega) ?_; conv => whnf)
      | (refine Ck.mk (by simp only [List.length_drop, List.length_take, List.length_append, List.length_cons, List.length_nil]; omega) ?_; conv => whnf)
      | (refine Has.load1 (by first | assumption | exact St.has (by assumption) (by repeat first | exact .head _ | apply List.Mem.tail) | exact St.arg (by assumption) (by assumption)) ?_; conv => whnf)
      | (refine Ck.mk (by simp; omega) ?_; conv => whnf))
    exact ⟨rfl, rfl⟩

/-- what a function gives that makes rows of rows of rows -/
def Ret3 (r : List (List (List Int)) × Bool) (h0 : H) (v : AV) (h' : H) : Prop :=
  ∃ b S, v = .tup [.slice b 0 r.1.length r.1.length, .bool r.2] ∧ rw3 S = r.1 ∧ S.length = r.1.length ∧ St h0 h' ((b, row (slc3 S)) :: (blk3 S ++ []))
theorem Ret3.mk' {r : List (List (List Int)) × Bool} {h0 h' : H} {b N : Nat} {q : Bool} {S : RL3} (e : r = (rw3 S, q)) (hN : N = S.length) (s : St h0 h' ((b, row (slc3 S)) :: (blk3 S ++ []))) : Ret3 r h0 (.tup [.slice b 0 N N, .bool q]) h' := by
  subst e hN
  exact ⟨b, S, by rw [rw3_length], rfl, (rw3_length S).symm, s⟩
theorem nil3 {h0 h : H} {L : List (Nat × Blk)} {b : Nat} (s : St h0 h ((b, .cells true 1 []) :: L)) : St h0 h ((b, row (slc3 [])) :: (blk3 [] ++ L)) := s
theorem St.call3 {h0 h h' : H} {L : List (Nat × Blk)} {b : Nat} {S : RL3} (s : St h0 h L) (t : St h h' ((b, row (slc3 S)) :: (blk3 S ++ []))) : St h0 h' ((b, row (slc3 S)) :: (blk3 S ++ L)) := by
  have := s.call t
  simpa using this
/-- rows of rows are put behind -/
theorem AppG.st3 {h0 h : H} {K : AV → H → Prop} {L : List (Nat × Blk)} {b bytes N C c n' : Nat} {S : RL3} {R : RL} (s : St h0 h ((c, row (slcs R)) :: (blks R ++ (b, row (slc3 S)) :: (blk3 S ++ L)))) (hN : N = S.length) (hl : n' = R.length) (hb : S.length + 1 ≤ 1000000000) (hy : bytes ≤ 1000)
    (hk : ∀ b' h', St h0 h' ((b', row (slc3 (S ++ [(c, R)]))) :: (blk3 (S ++ [(c, R)]) ++ L)) → K (.slice b' 0 (N + 1) (N + 1)) h') : AppG h (.slice b 0 N C) bytes [.slice c 0 n' n'] 1 K := by
  subst hl
  refine AppG.stV (L' := fun b' => (c, row (slcs R)) :: (blks R ++ (b', row (slc3 S ++ [.slice c 0 R.length R.length])) :: (blk3 S ++ L))) s (fun b' => .there (Spot.app .here)) (by rw [slc3_length]; exact hN) (by rw [slc3_length]; exact hb) hy rfl fun b' h' hs' => hk b' h' (hs'.perm ?_)
  have e1 : slc3 S ++ [.slice c 0 R.length R.length] = slc3 (S ++ [(c, R)]) := by rw [slc3_append]; rfl
  rw [e1, blk3_append]
  have e2 : blk3 [(c, R)] = (c, row (slcs R)) :: blks R := by rw [blk3_cons]; simp [blk3]
  rw [e2]
  generalize (b', row (slc3 (S ++ [(c, R)]))) = x
  generalize (c, row (slcs R)) = y
  generalize blks R = P
  generalize blk3 S = Q
  have p1 : (y :: (P ++ x :: (Q ++ L))).Perm (x :: (y :: P ++ (Q ++ L))) := (List.perm_middle (l₁ := y :: P) (l₂ := Q ++ L) (a := x))
  refine p1.trans (.cons _ ?_)
  rw [← List.append_assoc]
  exact List.perm_append_comm.append_right L

end Go.Proofs.Ytcepogfmajlcjaa
