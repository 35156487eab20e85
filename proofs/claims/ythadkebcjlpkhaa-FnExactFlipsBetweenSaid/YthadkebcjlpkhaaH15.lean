/-
  Contracts of the insertion of diagonals and of fans are proved.
  They hold for all sizes.
-/
import Derived.Test.YthadkebcjlpkhaaC38
import Derived.Test.YthadkebcjlpkhaaC58
import Derived.Test.YthadkebcjlpkhaaH13
set_option linter.unusedVariables false
set_option linter.unusedSimpArgs false
namespace Go.Proofs.Ythadkebcjlpkhaa
open Go.Proofs.Ythadkebcjlpkhaa.Ab Go.Proofs.Ythadkebcjlpkhaa.Pl

theorem cmp2 (a b c d : Int) : cmpL [a, b] [c, d] < 0 ↔ a < c ∨ (a = c ∧ b < d) := by
  simp only [cmpL]
  split
  · simp; omega
  · split
    · simp; omega
    · split
      · simp; omega
      · split
        · simp; omega
        · simp; omega
theorem bef_iff {x y : List Int} (hx : x.length = 2) (hy : y.length = 2) : cmpL x y < 0 ↔ x.getD 0 0 < y.getD 0 0 ∨ (x.getD 0 0 = y.getD 0 0 ∧ x.getD 1 0 < y.getD 1 0) := by
  match x, hx with
  | [a, b], _ =>
    match y, hy with
    | [c, d], _ => exact cmp2 a b c d

theorem before_ok (x y : List Int) (b c C D : Nat) (h0 : H) (hb : Has h0 b (ints x)) (hc' : Has h0 c (ints y)) (hx : x.length = 2) (hy : y.length = 2) :
    AC env 27 [.slice b 0 2 C, .slice c 0 2 D] h0 fun v h' => v = .bool (decide (cmpL x y < 0)) ∧ h' = h0 := by
  have k := bef_iff hx hy
  have x0 : x.getD (Int.toNat 0) 0 = x.getD 0 0 := rfl
  have x1 : x.getD (Int.toNat 1) 0 = x.getD 1 0 := rfl
  have y0 : y.getD (Int.toNat 0) 0 = y.getD 0 0 := rfl
  have y1 : y.getD (Int.toNat 1) 0 = y.getD 1 0 := rfl
  refine AC.enter Try.func27 Try.call27 rfl Try.ntmps27 (of_decide_eq_true (by rfl)) ?_
  repeat' (first
    | refine AW.seq ?_
    | (refine AW.region ?_; conv => whnf)
    | (refine AW.ret ?_; conv => whnf)
    | (refine AW.draw (id := 1) (.p 0 (.p 1 (.p 3 (.p 4 (.r 2 [6, 7, 8, 9, 10, 11, 12, 13, 14, 15, 16, 17, 18, 19, 20, 21, 22, 23, 24, 25] (.r 5 [6, 7, 8, 9, 10, 11, 12, 13, 14, 15, 16, 17, 18, 19, 20, 21, 22, 23, 24, 25] (.p 6 (.p 7 (.p 8 (.p 9 (.p 11 (.p 12 (.r 10 [14, 15, 16, 17, 18, 19, 20, 21, 22, 23, 24, 25] (.r 13 [14, 15, 16, 17, 18, 19, 20, 21, 22, 23, 24, 25] (.p 14 (.p 15 (.p 16 (.p 17 (.p 19 (.p 20 (.r 18 [22, 23, 24, 25] (.r 21 [22, 23, 24, 25] (.p 22 (.p 23 (.p 24 (.p 25 .done)))))))))))))))))))))))))) (by kernel_rfl) (by kernel_rfl) ?_; conv => whnf)
    | (refine Br.dt (by omega) ?_; conv => whnf)
    | (refine Br.df (by omega) ?_; conv => whnf)
    | (refine Br.dec (fun hc => ?_) (fun hc => ?_) <;> conv => whnf)
    | (refine Ck.mk (by omega) ?_; conv => whnf)
    | (refine Has.loadZ (by first | assumption | exact St.has (by assumption) (by repeat first | exact .head _ | apply List.Mem.tail) | exact St.arg (by assumption) (by assumption)) rfl (by first | (simp; done) | omega | (simp only [List.length_set, List.length_append, List.length_cons, List.length_nil, List.length_replicate, tab_length]; omega) | (simp; omega)) ?_; conv => whnf))
  all_goals refine ⟨?_, rfl⟩
  all_goals congr 1
  all_goals first
    | (symm; apply decide_eq_false; omega)
    | (rw [decide_eq_decide]; omega)
    | (symm; apply decide_eq_true; omega)



end Go.Proofs.Ythadkebcjlpkhaa

/-
  Contracts of fans are proved.
  They hold for all sizes.
-/
set_option linter.unusedVariables false
set_option linter.unusedSimpArgs false
namespace Go.Proofs.Ythadkebcjlpkhaa
open Go.Proofs.Ythadkebcjlpkhaa.Ab Go.Proofs.Ythadkebcjlpkhaa.Pl

theorem nilRows {h0 h : H} {L : List (Nat × Blk)} {b : Nat} (s : St h0 h ((b, .cells true 1 []) :: L)) : St h0 h ((b, row (slcs [])) :: (blks [] ++ L)) := s
/-! fans -/
def fanRow (v : Int) (c : Nat) : List Int := [min v c, max v c]
def fanL (n v : Int) : Nat → List (List Int)
  | 0 => []
  | c + 1 => if diagOk n (fanRow v c) then fanL n v c ++ [fanRow v c] else fanL n v c
def fanOk (n v : Int) : Prop := (2 ≤ n ∧ n ≤ 10) ∧ 0 ≤ v ∧ v ≤ n - 1
instance (n v : Int) : Decidable (fanOk n v) := inferInstanceAs (Decidable (_ ∧ _))
def fan (n v : Int) : List (List Int) × Bool := if fanOk n v then (sortL (fanL n v n.toNat), true) else ([], false)
theorem fanL_len (n v : Int) : ∀ c, (fanL n v c).length ≤ c
  | 0 => Nat.le_refl _
  | c + 1 => by
    have := fanL_len n v c
    rw [fanL]
    split
    · simp; omega
    · omega
theorem fanL_two (n v : Int) : ∀ c, ∀ x ∈ fanL n v c, x.length = 2
  | 0, x, hx => by cases hx
  | c + 1, x, hx => by
    rw [fanL] at hx
    split at hx
    · rcases List.mem_append.1 hx with hx | hx
      · exact fanL_two n v c x hx
      · cases List.mem_singleton.1 hx; rfl
    · exact fanL_two n v c x hx
theorem sortL_two {l : List (List Int)} (h : ∀ x ∈ l, x.length = 2) : ∀ x ∈ sortL l, x.length = 2 := fun x hx => h x ((sortL_perm l).mem_iff.1 hx)
theorem rws_two {R : RL} {l : List (List Int)} (e : rws R = l) (h : ∀ x ∈ l, x.length = 2) : ∀ r ∈ R, r.2.length = 2 := fun r hr => h _ (e ▸ List.mem_map.2 ⟨r, hr, rfl⟩)

/-- rows of one's own and whether they are an answer -/
def RetR (r : List (List Int) × Bool) (h0 : H) (v : AV) (h' : H) : Prop :=
  ∃ b R, v = .tup [.slice b 0 r.1.length r.1.length, .bool r.2] ∧ rws R = r.1 ∧ R.length = r.1.length ∧ St h0 h' ((b, row (slcs R)) :: (blks R ++ []))
theorem RetR.mk' {r : List (List Int) × Bool} {h0 h' : H} {b N : Nat} {q : Bool} {R : RL} (e : r = (rws R, q)) (hN : N = R.length) (s : St h0 h' ((b, row (slcs R)) :: (blks R ++ []))) : RetR r h0 (.tup [.slice b 0 N N, .bool q]) h' := by
  subst e hN
  exact ⟨b, R, by rw [rws_length], rfl, (rws_length R).symm, s⟩

theorem isDiagonal_ok (n : Int) (x : List Int) (b N C : Nat) (h0 : H) (hb : Has h0 b (ints x)) (hN : N = x.length) (hn : 2 ≤ n ∧ n ≤ 1000) (hl : N ≤ 1000000000) : AC env 21 [.int .i64 n, .slice b 0 N C] h0 fun v h' => v = .bool (decide (diagOk n x)) ∧ h' = h0 := by
  have d : diagOk n x ↔ x.length = 2 ∧ 0 ≤ x.getD 0 0 ∧ x.getD 0 0 + 2 ≤ x.getD 1 0 ∧ x.getD 1 0 ≤ n - 1 ∧ ¬ (x.getD 0 0 = 0 ∧ x.getD 1 0 = n - 1) := Iff.rfl
  have x0 : x.getD (Int.toNat 0) 0 = x.getD 0 0 := rfl
  have x1 : x.getD (Int.toNat 1) 0 = x.getD 1 0 := rfl
  refine AC.enter Try.func21 Try.call21 rfl Try.ntmps21 (of_decide_eq_true (by rfl)) ?_
  repeat' (first
    | refine AW.seq ?_
    | (refine AW.region ?_; conv => whnf)
    | (refine AW.ret ?_; conv => whnf)
    | (refine AW.draw (id := 1) (.p 0 (.p 1 (.p 2 (.p 3 (.p 4 (.p 5 (.p 7 (.p 8 (.r 6 [9, 10, 11, 12, 13, 14, 15, 16, 17, 18, 19, 20, 21, 22, 23, 24, 25, 26, 27, 28, 29, 30, 31, 32, 33, 34, 35, 36, 37, 38, 39, 40, 41, 42, 43] (.all [9] fun _ => (.p 10 (.p 11 (.p 12 (.p 13 (.p 15 (.p 16 (.r 14 [17, 18, 19, 20, 21, 22, 23, 24, 25, 26, 27, 28, 29, 30, 31, 32, 33, 34, 35, 36, 37, 38, 39, 40, 41, 42, 43] (.all [17] fun _ => (.p 18 (.p 19 (.p 20 (.p 21 (.p 23 (.p 24 (.r 22 [26, 27, 28, 29, 30, 31, 32, 33, 34, 35, 36, 37, 38, 39, 40, 41, 42, 43] (.r 25 [26, 27, 28, 29, 30, 31, 32, 33, 34, 35, 36, 37, 38, 39, 40, 41, 42, 43] (.p 26 (.p 27 (.p 28 (.p 29 (.p 30 (.p 31 (.r 32 [33, 34, 35, 36, 37, 38, 39, 40, 41, 42, 43] (.p 33 (.p 34 (.p 35 (.p 36 (.p 38 (.p 39 (.r 37 [40, 41, 42, 43] (.p 40 (.p 41 (.p 42 (.p 43 .done)))))))))))))))))))))))))))))))))))))))))))) (by kernel_rfl) (by kernel_rfl) ?_; conv => whnf)
    | (refine (within_ok _ _ _ _).mono ?_; rintro v h' ⟨rfl, e'⟩; subst h'; conv => whnf)
    | (refine Br.ff ?_; conv => whnf)
    | refine Br.not ?_
    | (refine Br.dt (by omega) ?_; conv => whnf)
    | (refine Br.df (by omega) ?_; conv => whnf)
    | (refine Br.dec (fun hc => ?_) (fun hc => ?_) <;> conv => whnf)
    | (refine Wr.i64 (by omega) ?_; conv => whnf)
    | (refine Ck.mk (by omega) ?_; conv => whnf)
    | (refine Has.loadZ (by first | assumption | exact St.has (by assumption) (by repeat first | exact .head _ | apply List.Mem.tail) | exact St.arg (by assumption) (by assumption)) rfl (by first | (simp; done) | omega | (simp only [List.length_set, List.length_append, List.length_cons, List.length_nil, List.length_replicate, tab_length]; omega) | (simp; omega)) ?_; conv => whnf))
  all_goals refine ⟨?_, rfl⟩
  all_goals rw [decide_eq_decide.2 d]
  all_goals congr 1
  all_goals first
    | (symm; apply decide_eq_false; omega)
    | (symm; apply decide_eq_true; omega)
    | (rw [Bool.eq_iff_iff, bne_iff_ne, decide_eq_true_iff]; omega)
    | (rw [decide_eq_decide]; omega)




end Go.Proofs.Ythadkebcjlpkhaa

/-
  Contracts of triangulations of trees are proved.
  They hold for all texts within the sizes that the statements speak of.
-/
set_option linter.unusedVariables false
set_option linter.unusedSimpArgs false
namespace Go.Proofs.Ythadkebcjlpkhaa
open Go.Proofs.Ythadkebcjlpkhaa.Ab Go.Proofs.Ythadkebcjlpkhaa.Pl

theorem St.turn {h0 h : H} {a b : Nat × Blk} {A B L : List (Nat × Blk)} (s : St h0 h (a :: (A ++ b :: (B ++ L)))) : St h0 h (b :: (B ++ a :: (A ++ L))) := by
  refine s.perm ?_
  have := List.perm_append_comm_assoc (a :: A) (b :: B) L
  simpa using this
theorem AppG.stR1 {h0 h : H} {L : List (Nat × Blk)} {p : Nat × Blk} {b : Nat} {K : AV → H → Prop} {bytes N C c n' : Nat} {R : RL} {l : List Int} (s : St h0 h (p :: (c, row (ints l)) :: (b, row (slcs R)) :: (blks R ++ L))) (hN : N = R.length) (hl : n' = l.length) (hb : R.length + 1 ≤ 1000000000) (hy : bytes ≤ 1000)
    (hk : ∀ b' h', St h0 h' ((b', row (slcs (R ++ [(c, l)]))) :: (blks (R ++ [(c, l)]) ++ L)) → K (.slice b' 0 (N + 1) (N + 1)) h') : AppG h (.slice b 0 N C) bytes [.slice c 0 n' n'] 1 K :=
  AppG.stR s.tail hN hl hb hy hk
theorem AppG.stR2 {h0 h : H} {L : List (Nat × Blk)} {p q : Nat × Blk} {Q : List (Nat × Blk)} {b : Nat} {K : AV → H → Prop} {bytes N C c n' : Nat} {R : RL} {l : List Int} (s : St h0 h (p :: (c, row (ints l)) :: q :: (Q ++ (b, row (slcs R)) :: (blks R ++ L)))) (hN : N = R.length) (hl : n' = l.length) (hb : R.length + 1 ≤ 1000000000) (hy : bytes ≤ 1000)
    (hk : ∀ b' h', St h0 h' (q :: (Q ++ (b', row (slcs (R ++ [(c, l)]))) :: (blks (R ++ [(c, l)]) ++ L))) → K (.slice b' 0 (N + 1) (N + 1)) h') : AppG h (.slice b 0 N C) bytes [.slice c 0 n' n'] 1 K := by
  refine AppG.stR (L := q :: (Q ++ L)) ?_ hN hl hb hy fun b' h' hs' => hk b' h' (St.turn hs')
  refine s.tail.perm (.cons _ ?_)
  have := List.perm_append_comm_assoc (q :: Q) ((b, row (slcs R)) :: blks R) L
  simpa using this

theorem TreeIn.one {h : H} {v : AV} {t : BT} (m : TreeIn h v t) : (v = .nilptr ∧ ∀ l r, oneB t l r = []) ∨ ∃ b, v = .ptr b 0 ∧ ∀ l r, oneB t l r = [[(l : Int), (r : Int)]] := by
  cases m with
  | leaf => exact .inl ⟨rfl, fun _ _ => rfl⟩
  | node _ _ _ => exact .inr ⟨_, rfl, fun _ _ => rfl⟩
def TriRes (t : BT) (l r : Nat) (fc fs : List (List Int)) (L : List (Nat × Blk)) (H0 : H) (w : AV) (h' : H) : Prop :=
  ∃ bc bs Nc Ns Cc Cs Rc Rs, w = .tup [.slice bc 0 Nc Cc, .slice bs 0 Ns Cs] ∧ rws Rc = fc ++ trisB t l r ∧ rws Rs = fs ++ sidesB t l r ∧ Nc = Rc.length ∧ Ns = Rs.length ∧ St H0 h' ((bc, row (slcs Rc)) :: (blks Rc ++ (bs, row (slcs Rs)) :: (blks Rs ++ L)))
theorem tri_lens {Rc : RL} {t : BT} {l r : Nat} {fc : List (List Int)} (e : rws Rc = fc ++ trisB t l r) : Rc.length = fc.length + t.size := by
  rw [← rws_length, e, List.length_append, trisB_len]
theorem side_lens {Rs : RL} {t : BT} {l r : Nat} {fs : List (List Int)} (e : rws Rs = fs ++ sidesB t l r) : Rs.length ≤ fs.length + t.size := by
  rw [← rws_length, e, List.length_append]
  have := sidesB_len t l r
  omega


/-! triangulations of texts -/
def diagsT (t : BT) : List (List Int) := sortL (sidesB t 0 (t.size + 1))
def triOfS (s : List UInt8) : List (List Int) × Bool := match treeOf s with
  | none => ([], false)
  | some t => (diagsT t, true)
theorem diagsT_two (t : BT) : ∀ x ∈ diagsT t, x.length = 2 := sortL_two (sidesB_two t _ _)
theorem diagsT_len (t : BT) : (diagsT t).length ≤ t.size := by
  unfold diagsT
  rw [sortL_len]
  have := sidesB_len t 0 (t.size + 1)
  omega
theorem sortL_congr {l m : List (List Int)} (p : l.Perm m) : sortL l = sortL m := sortL_eq (sortL_sorted m) (p.trans (sortL_perm m).symm)
def RetC (r : List (List Int) × Bool) (h0 : H) (v : AV) (h' : H) : Prop :=
  ∃ b C R, v = .tup [.slice b 0 r.1.length C, .bool r.2] ∧ rws R = r.1 ∧ R.length = r.1.length ∧ St h0 h' ((b, row (slcs R)) :: (blks R ++ []))
theorem RetC.mk' {r : List (List Int) × Bool} {h0 h' : H} {b N C : Nat} {q : Bool} {R : RL} (e : r = (rws R, q)) (hN : N = R.length) (s : St h0 h' ((b, row (slcs R)) :: (blks R ++ []))) : RetC r h0 (.tup [.slice b 0 N C, .bool q]) h' := by
  subst e hN
  exact ⟨b, C, R, by rw [rws_length], rfl, (rws_length R).symm, s⟩

/-- the same, with a capacity that is not less than the length -/
def RetC2 (r : List (List Int) × Bool) (h0 : H) (v : AV) (h' : H) : Prop :=
  ∃ b C R, v = .tup [.slice b 0 r.1.length C, .bool r.2] ∧ r.1.length ≤ C ∧ rws R = r.1 ∧ R.length = r.1.length ∧ St h0 h' ((b, row (slcs R)) :: (blks R ++ []))
theorem RetC2.mk' {r : List (List Int) × Bool} {h0 h' : H} {b N C : Nat} {q : Bool} {R : RL} (e : r = (rws R, q)) (hN : N = R.length) (hC : N ≤ C) (s : St h0 h' ((b, row (slcs R)) :: (blks R ++ []))) : RetC2 r h0 (.tup [.slice b 0 N C, .bool q]) h' := by
  subst e hN
  exact ⟨b, C, R, by rw [rws_length], by rw [rws_length]; exact hC, rfl, (rws_length R).symm, s⟩


def cutsW (t : BT) (l r n : Nat) : List (List Int) := if l = 0 ∧ r + 1 = n then cuts0 t l r else cutsB t l r
theorem cutsW_part {t : BT} {l r n : Nat} (h : ¬ (l = 0 ∧ r + 1 = n)) : cutsW t l r n = cutsB t l r := if_neg h
theorem cutsB_two : ∀ (t : BT) (l r : Nat), ∀ x ∈ cutsB t l r, x.length = 2 := fun t l r x hx => by
  rcases List.mem_append.1 ((cuts_sides t l r).mem_iff.1 hx) with h | h
  · exact oneB_two t l r x h
  · exact sidesB_two t l r x h
theorem cutsB_len (t : BT) (l r : Nat) : (cutsB t l r).length = t.size := by
  rw [(cuts_sides t l r).length_eq, List.length_append, sidesB_len]
def CutRes (f : List (List Int)) (L : List (Nat × Blk)) (H0 : H) (w : AV) (h' : H) : Prop :=
  ∃ b C N R, w = .slice b 0 N C ∧ rws R = f ∧ N = R.length ∧ N ≤ C ∧ St H0 h' ((b, row (slcs R)) :: (blks R ++ L))
theorem fold_two {f l : List (List Int)} (hf : ∀ x ∈ f, x.length = 2) (hl : ∀ x ∈ l, x.length = 2) : ∀ x ∈ l.foldl putL f, x.length = 2 := fun x hx => by
  rcases List.mem_append.1 ((foldPut_perm l f).mem_iff.1 hx) with h | h
  · exact hf x h
  · exact hl x h
theorem fold_len (f l : List (List Int)) : (l.foldl putL f).length = f.length + l.length := by rw [(foldPut_perm l f).length_eq, List.length_append]
theorem txt_parts {a b : BT} {T : List UInt8} (h : T = (BT.node a b).txt) : T.length = a.txt.length + b.txt.length + 2 ∧ (T.take (1 + a.txt.length)).drop 1 = a.txt ∧ (T.take (T.length - 1)).drop (1 + a.txt.length) = b.txt ∧ T.drop 1 = a.txt ++ (b.txt ++ [41]) := by
  subst h
  have e : (BT.node a b).txt = 40 :: (a.txt ++ (b.txt ++ [41])) := by simp [BT.txt]
  have l : (BT.node a b).txt.length = a.txt.length + b.txt.length + 2 := by rw [e]; simp; omega
  refine ⟨l, ?_, ?_, by rw [e]; rfl⟩
  · rw [e, Nat.add_comm 1, List.take_succ_cons, List.drop_succ_cons, List.drop_zero, List.take_left]
  · rw [l, e, show a.txt.length + b.txt.length + 2 - 1 = (a.txt.length + b.txt.length) + 1 by omega, List.take_succ_cons, Nat.add_comm 1, List.drop_succ_cons]
    simp [List.take_append]



end Go.Proofs.Ythadkebcjlpkhaa
