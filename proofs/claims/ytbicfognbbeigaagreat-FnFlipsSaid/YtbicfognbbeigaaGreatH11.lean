/-
  Contracts of triangulations of trees are proved.
  They hold for all texts within the sizes that the statements speak of.
-/
import Derived.Test.YtbicfognbbeigaaGreatC58
import Derived.Test.YtbicfognbbeigaaGreatH8
import Derived.Test.YtbicfognbbeigaaGreatC41
import Derived.Test.YtbicfognbbeigaaGreatH4
set_option linter.unusedVariables false
set_option linter.unusedSimpArgs false
namespace Go.Proofs.YtbicfognbbeigaaGreat
open Go.Proofs.YtbicfognbbeigaaGreat.Ab Go.Proofs.YtbicfognbbeigaaGreat.Pl

theorem St.turn {h0 h : H} {a b : Nat × Blk} {A B L : List (Nat × Blk)} (s : St h0 h (a :: (A ++ b :: (B ++ L)))) : St h0 h (b :: (B ++ a :: (A ++ L))) := by
  refine s.perm ?_
  have := List.perm_append_comm_assoc (a :: A) (b :: B) L
  simpa using this
theorem AppG.stR1 {h0 h : H} {L : List (Nat × Blk)} {p : Nat × Blk} {b : Nat} {K : AV → H → Prop} {bytes N C c n' : Nat} {R : RL} {l : List Int} (s : St h0 h (p :: (c, row (ints l)) :: (b, row (slcs R)) :: (blks R ++ L))) (hN : N = R.length) (hl : n' = l.length) (hb : R.length + 1 ≤ 1000000000) (hy : bytes ≤ 1000)
    (hk : ∀ b' h', St h0 h' ((b', row (slcs (R ++ [(c, l)]))) :: (blks (R ++ [(c, l)]) ++ L)) → K (.slice b' 0 (N + 1) (N + 1)) h') : AppG h (.slice b 0 N C) bytes [.slice c 0 n' n'] 1 K :=
  AppG.stR s.tail hN hl hb hy hk
theorem AppG.stR2 {h0 h : H} {L : List (Nat × Blk)} {p q : Nat × Blk} {Q : List (Nat × Blk)} {b : Nat} {K : AV → H → Prop} {bytes N C c n' : Nat} {R : RL} {l : List Int} (s : St h0 h (p :: (c, row (ints l)) :: q :: (Q ++ (b, row (slcs R)) :: (blks R ++ L)))) (hN : N = R.length) (hl : n' = l.length) (hb : R.length + 1 ≤ 1000000000) (hy : bytes ≤ 1000)
    (hk : ∀ b' h', St h0 h' (q :: (Q ++ (b', row (slcs (R ++ [(c, l)]))) :: (blks (R ++ [(c, l)]) ++ L))) → K (.slice b' 0 (N + 1) (N + 1)) h') : AppG h (.slice b 0 N C) bytes [.slice c 0 n' n'] 1 K := by
  refine AppG.stR (L := q :: (Q ++ L)) ?_ hN hl hb hy fun b' h' hs' => hk b' h' (St.turn hs')
  refine s.tail.perm (.cons _ ?_)
  have := List.perm_append_comm_assoc (q :: Q) ((b, row (slcs R)) :: blks R) L
  simpa using this

theorem TreeIn.one {h : H} {v : AV} {t : BT} (m : TreeIn h v t) : (v = .nilptr ∧ ∀ l r, oneB t l r = []) ∨ ∃ b, v = .ptr b 0 ∧ ∀ l r, oneB t l r = [[(l : Int), (r : Int)]] := by
  cases m with
  | leaf => exact .inl ⟨rfl, fun _ _ => rfl⟩
  | node _ _ _ => exact .inr ⟨_, rfl, fun _ _ => rfl⟩
def TriRes (t : BT) (l r : Nat) (fc fs : List (List Int)) (L : List (Nat × Blk)) (H0 : H) (w : AV) (h' : H) : Prop :=
  ∃ bc bs Nc Ns Cc Cs Rc Rs, w = .tup [.slice bc 0 Nc Cc, .slice bs 0 Ns Cs] ∧ rws Rc = fc ++ trisB t l r ∧ rws Rs = fs ++ sidesB t l r ∧ Nc = Rc.length ∧ Ns = Rs.length ∧ St H0 h' ((bc, row (slcs Rc)) :: (blks Rc ++ (bs, row (slcs Rs)) :: (blks Rs ++ L)))
theorem tri_lens {Rc : RL} {t : BT} {l r : Nat} {fc : List (List Int)} (e : rws Rc = fc ++ trisB t l r) : Rc.length = fc.length + t.size := by
  rw [← rws_length, e, List.length_append, trisB_len]
theorem side_lens {Rs : RL} {t : BT} {l r : Nat} {fs : List (List Int)} (e : rws Rs = fs ++ sidesB t l r) : Rs.length ≤ fs.length + t.size := by
  rw [← rws_length, e, List.length_append]
  have := sidesB_len t l r
  omega

set_option maxHeartbeats 4000000 in
theorem triangles_ok : ∀ (t : BT) (v : AV) (l r : Nat) (i j : Int) (Rc Rs : RL) (fc fs : List (List Int)) (bc bs Nc Ns Cc Cs : Nat) (L : List (Nat × Blk)) (H0 hp : H), TreeIn H0 v t → St H0 hp ((bc, row (slcs Rc)) :: (blks Rc ++ (bs, row (slcs Rs)) :: (blks Rs ++ L))) →
    i = l → j = r → l + t.size ≤ 1000 → r ≤ 1000 → rws Rc = fc → rws Rs = fs → Nc = Rc.length → Ns = Rs.length → Nc + t.size ≤ 1000 → Ns + 2 * t.size ≤ 1000 →
    AC env 108 [v, .int .i64 i, .int .i64 j, .slice bc 0 Nc Cc, .slice bs 0 Ns Cs] hp (TriRes t l r fc fs L H0) := by
  intro t
  induction t with
  | leaf =>
    intro v l r i j Rc Rs fc fs bc bs Nc Ns Cc Cs L H0 hp m hs hi hj hl hr ec es hc hs_ hz1 hz2
    cases m
    refine AC.enter Tryz.func108 Tryz.call108 rfl Tryz.ntmps108 (of_decide_eq_true (by rfl)) ?_
    repeat' (first
      | refine AW.seq ?_
      | (refine AW.region ?_; conv => whnf)
      | (refine AW.ret ?_; conv => whnf)
      | refine AW.cond (by rfl) ?_
      | (refine Br.tt ?_; conv => whnf))
    exact ⟨bc, bs, Nc, Ns, Cc, Cs, Rc, Rs, rfl, by rw [ec]; simp [trisB], by rw [es]; simp [sidesB], hc, hs_, hs⟩
  | node a b ih1 ih2 =>
    rintro v l r i j Rc Rs fc fs bc bs Nc Ns Cc Cs L H0 hp m hs rfl rfl hl hr rfl rfl hc hs_ hz1 hz2
    cases m with
    | node m ha hb =>
      have ez : (BT.node a b).size = a.size + b.size + 1 := rfl
      rw [ez] at hl hz1 hz2
      have m0 := m.keep hs.keeps
      have lc := rws_length Rc
      have ls := rws_length Rs
      rcases ha.one with ⟨rfl, fa⟩ | ⟨b1, rfl, fa⟩ <;> rcases hb.one with ⟨rfl, fb⟩ | ⟨b2, rfl, fb⟩
      all_goals
        refine AC.enter Tryz.func108 Tryz.call108 rfl Tryz.ntmps108 (of_decide_eq_true (by rfl)) ?_
        repeat' (first
          | (refine Has.load (m.keep (St.keeps (by assumption))) rfl ?_; conv => whnf)
          | (refine (nodes_ok a _ _ (ha.keep (St.keeps (by assumption))) (by omega)).mono ?_; rintro w h' ⟨rfl, e'⟩; subst h'; conv => whnf)
          | (refine AppG.stR1 (l := [(l : Int), (l : Int) + a.size + 1, (r : Int)]) (by assumption) (by omega) rfl (by omega) (by decide) (fun b' h' hs' => ?_); conv => whnf)
          | (refine AppG.stR2 (l := [(l : Int), (l : Int) + a.size + 1]) (by assumption) (by first | omega | (simp only [List.length_append, List.length_cons, List.length_nil]; omega)) rfl (by first | omega | (simp only [List.length_append, List.length_cons, List.length_nil]; omega)) (by decide) (fun b' h' hs' => ?_); conv => whnf)
          | (refine AppG.stR2 (l := [(l : Int) + a.size + 1, (r : Int)]) (by assumption) (by first | omega | (simp only [List.length_append, List.length_cons, List.length_nil]; omega)) rfl (by first | omega | (simp only [List.length_append, List.length_cons, List.length_nil]; omega)) (by decide) (fun b' h' hs' => ?_); conv => whnf)
          | (refine (ih1 _ l (l + a.size + 1) _ _ _ _ _ _ _ _ _ _ _ _ _ _ _ ha (by assumption) (by omega) (by omega) (by omega) (by omega) rfl rfl (by first | omega | (simp only [List.length_append, List.length_cons, List.length_nil]; omega)) (by first | omega | (simp only [List.length_append, List.length_cons, List.length_nil]; omega)) (by omega) (by first | omega | (simp only [List.length_append, List.length_cons, List.length_nil]; omega))).mono ?_; rintro w h' ⟨bc1, bs1, Nc1, Ns1, Cc1, Cs1, Rc1, Rs1, rfl, ec1, es1, hc1, hs1_, hsA⟩; have lc1 := tri_lens ec1; have ls1 := side_lens es1; simp only [rws_length, List.length_append, List.length_cons, List.length_nil] at lc1 ls1; conv => whnf)
          | (refine (ih2 _ (l + a.size + 1) r _ _ _ _ _ _ _ _ _ _ _ _ _ _ _ hb hsA (by omega) (by omega) (by omega) (by omega) rfl rfl hc1 hs1_ (by omega) (by omega)).mono ?_; rintro w h' ⟨bc2, bs2, Nc2, Ns2, Cc2, Cs2, Rc2, Rs2, rfl, ec2, es2, hc2, hs2_, hsB⟩; conv => whnf)
          | refine AW.seq ?_
          | (refine AW.region ?_; conv => whnf)
          | (refine AW.skip ?_; conv => whnf)
          | (refine AW.ret ?_; conv => whnf)
          | refine AW.cond (by rfl) ?_
          | (refine Br.tt ?_; conv => whnf)
          | (refine Br.ff ?_; conv => whnf)
          | (refine Wr.i64 (by omega) ?_; conv => whnf)
          | (refine NewG.st (by assumption) (fun bt h' hs' => ?_); conv => whnf)
          | (refine LoadsG.has (by first | assumption | exact St.has (by assumption) (by repeat first | exact .head _ | apply List.Mem.tail) | exact St.arg (by assumption) (by assumption)) (by simp) ?_; conv => whnf))
        refine ⟨bc2, bs2, Nc2, Ns2, Cc2, Cs2, Rc2, Rs2, rfl, ?_, ?_, hc2, hs2_, hsB⟩
        · rw [ec2, ec1, trisB, rws_append]
          simp [rws, Int.natCast_add, Int.add_assoc]
        · rw [es2, es1, sidesB, fa, fb]
          simp [rws, rws_append, Int.add_assoc]

/-! triangulations of texts -/
def diagsT (t : BT) : List (List Int) := sortL (sidesB t 0 (t.size + 1))
def triOfS (s : List UInt8) : List (List Int) × Bool := match treeOf s with
  | none => ([], false)
  | some t => (diagsT t, true)
theorem diagsT_two (t : BT) : ∀ x ∈ diagsT t, x.length = 2 := sortL_two (sidesB_two t _ _)
theorem diagsT_len (t : BT) : (diagsT t).length ≤ t.size := by
  unfold diagsT
  rw [sortL_len]
  have := sidesB_len t 0 (t.size + 1)
  omega
theorem sortL_congr {l m : List (List Int)} (p : l.Perm m) : sortL l = sortL m := sortL_eq (sortL_sorted m) (p.trans (sortL_perm m).symm)
def RetC (r : List (List Int) × Bool) (h0 : H) (v : AV) (h' : H) : Prop :=
  ∃ b C R, v = .tup [.slice b 0 r.1.length C, .bool r.2] ∧ rws R = r.1 ∧ R.length = r.1.length ∧ St h0 h' ((b, row (slcs R)) :: (blks R ++ []))
theorem RetC.mk' {r : List (List Int) × Bool} {h0 h' : H} {b N C : Nat} {q : Bool} {R : RL} (e : r = (rws R, q)) (hN : N = R.length) (s : St h0 h' ((b, row (slcs R)) :: (blks R ++ []))) : RetC r h0 (.tup [.slice b 0 N C, .bool q]) h' := by
  subst e hN
  exact ⟨b, C, R, by rw [rws_length], rfl, (rws_length R).symm, s⟩

/-- the same, with a capacity that is not less than the length -/
def RetC2 (r : List (List Int) × Bool) (h0 : H) (v : AV) (h' : H) : Prop :=
  ∃ b C R, v = .tup [.slice b 0 r.1.length C, .bool r.2] ∧ r.1.length ≤ C ∧ rws R = r.1 ∧ R.length = r.1.length ∧ St h0 h' ((b, row (slcs R)) :: (blks R ++ []))
theorem RetC2.mk' {r : List (List Int) × Bool} {h0 h' : H} {b N C : Nat} {q : Bool} {R : RL} (e : r = (rws R, q)) (hN : N = R.length) (hC : N ≤ C) (s : St h0 h' ((b, row (slcs R)) :: (blks R ++ []))) : RetC2 r h0 (.tup [.slice b 0 N C, .bool q]) h' := by
  subst e hN
  exact ⟨b, C, R, by rw [rws_length], by rw [rws_length]; exact hC, rfl, (rws_length R).symm, s⟩

set_option maxHeartbeats 1000000 in
theorem iTriOf_ok (s : List UInt8) (h0 : H) : AC env 76 [.str s] h0 (RetC (triOfS s) h0) := by
  have hs := St.refl h0
  cases e : treeOf s with
  | none =>
    have et : triOfS s = ([], false) := by unfold triOfS; rw [e]
    refine AC.enter Tryz.func76 Tryz.call76 rfl Tryz.ntmps76 (of_decide_eq_true (by rfl)) ?_
    repeat' (first
      | (refine (parseTree_ok s _).mono ?_; rw [e]; rintro v h1 ⟨k1, rfl⟩; have hs1 := St.keep hs k1; clear hs; conv => whnf)
      | refine AW.seq ?_
      | (refine AW.region ?_; conv => whnf)
      | refine AW.block ?_
      | (refine AW.skip ?_; conv => whnf)
      | (refine AW.ret ?_; conv => whnf)
      | (refine AW.exit ?_; conv => whnf)
      | refine AW.cond (by rfl) ?_
      | (refine (nodes_ok _ _ _ (by first | assumption | exact TreeIn.keep (by assumption) (by assumption)) (by omega)).mono ?_; rintro v h' ⟨rfl, e'⟩; subst h'; conv => whnf)
      | (refine (sortFunc_ok _ _ _ _ _ _ _ (by assumption) (by first | rfl | omega) (by omega) (by assumption)).mono ?_; rintro v h' ⟨rfl, hs'⟩; conv => whnf)
      | (refine Br.tt ?_; conv => whnf)
      | (refine Br.ff ?_; conv => whnf)
      | refine Br.not ?_
      | (refine Br.t (beq_self_eq_true _) ?_; conv => whnf)
      | (refine Br.t (by assumption) ?_; conv => whnf)
      | (refine Br.f (by assumption) ?_; conv => whnf)
      | (refine Br.dt (by omega) ?_; conv => whnf)
      | (refine Br.df (by omega) ?_; conv => whnf)
      | (refine Br.it (by omega) ?_; conv => whnf)
      | (refine Br.if (by omega) ?_; conv => whnf)
      | (refine Br.nt (by omega) ?_; conv => whnf)
      | (refine Br.nf (by omega) ?_; conv => whnf)
      | (refine Br.dec (fun hc => ?_) (fun hc => ?_) <;> conv => whnf)
      | (refine Br.ieq (fun hc => ?_) (fun hc => ?_) <;> conv => whnf)
      | (refine Br.ine (fun hc => ?_) (fun hc => ?_) <;> conv => whnf)
      | (refine Br.mk (fun hc => ?_) (fun hc => ?_) <;> conv => whnf)
      | (refine Wr.i64 (by omega) ?_; conv => whnf)
      | (refine Ck.mk (by omega) ?_; conv => whnf)
      | (refine Wr.i64 (by simp only [List.length_drop, List.length_take, List.length_append, List.length_cons, List.length_nil]; omega) ?_; conv => whnf)
      | (refine Ck.mk (by simp only [List.length_drop, List.length_take, List.length_append, List.length_cons, List.length_nil]; omega) ?_; conv => whnf)
      | (refine NewG.st (by assumption) (fun bt h' hs' => ?_); conv => whnf)
      | (refine Ck.mk (by simp; omega) ?_; conv => whnf))
    exact RetC.mk' (R := []) et rfl (nilRows hs')
  | some t =>
    have et : triOfS s = (diagsT t, true) := by unfold triOfS; rw [e]
    have hz := (treeOf_some e).2
    refine AC.enter Tryz.func76 Tryz.call76 rfl Tryz.ntmps76 (of_decide_eq_true (by rfl)) ?_
    repeat' (first
      | (refine (parseTree_ok s _).mono ?_; rw [e]; rintro v h1 ⟨k1, v1, rfl, m1⟩; have hs1 := St.refl h1; clear hs; have m1' := m1; rcases m1'.form with ⟨rfl, _⟩ | ⟨b1, rfl⟩ <;> (conv => whnf))
      | (refine (nodes_ok t _ _ m1 (by omega)).mono ?_; rintro w h' ⟨rfl, e'⟩; subst h'; conv => whnf)
      | (refine (triangles_ok t _ 0 (t.size + 1) _ _ [] [] [] [] _ _ 0 0 _ _ [] _ _ m1 ((by assumption : St _ _ [_, _]).perm (.swap _ _ _)) rfl (by omega) (by omega) (by omega) rfl rfl rfl rfl (by omega) (by omega)).mono ?_; rintro w h' ⟨bc2, bs2, Nc2, Ns2, Cc2, Cs2, Rc2, Rs2, rfl, ec2, es2, hc2, hs2_, hsB⟩; have hsD := St.sub (St.turn hsB) (List.Sublist.cons_cons _ (List.Sublist.append (List.Sublist.refl _) (List.nil_sublist _))); clear hsB; conv => whnf)
      | (refine (sortFunc_ok Rs2 [] bs2 _ _ h1 _ hsD hs2_ (by have := side_lens es2; simp only [List.length_nil] at this; omega) (fun r hr => by have := rws_two es2 (by rw [List.nil_append]; exact sidesB_two t _ _) r hr; omega)).mono ?_; rintro v h' ⟨rfl, hs4⟩; conv => whnf)
      | refine AW.seq ?_
      | (refine AW.region ?_; conv => whnf)
      | refine AW.block ?_
      | (refine AW.skip ?_; conv => whnf)
      | (refine AW.ret ?_; conv => whnf)
      | (refine AW.exit ?_; conv => whnf)
      | refine AW.cond (by rfl) ?_
      | (refine (nodes_ok _ _ _ (by first | assumption | exact TreeIn.keep (by assumption) (by assumption)) (by omega)).mono ?_; rintro v h' ⟨rfl, e'⟩; subst h'; conv => whnf)
      | (refine (sortFunc_ok _ _ _ _ _ _ _ (by assumption) (by first | rfl | omega) (by omega) (by assumption)).mono ?_; rintro v h' ⟨rfl, hs'⟩; conv => whnf)
      | (refine Br.tt ?_; conv => whnf)
      | (refine Br.ff ?_; conv => whnf)
      | refine Br.not ?_
      | (refine Br.t (beq_self_eq_true _) ?_; conv => whnf)
      | (refine Br.t (by assumption) ?_; conv => whnf)
      | (refine Br.f (by assumption) ?_; conv => whnf)
      | (refine Br.dt (by omega) ?_; conv => whnf)
      | (refine Br.df (by omega) ?_; conv => whnf)
      | (refine Br.it (by omega) ?_; conv => whnf)
      | (refine Br.if (by omega) ?_; conv => whnf)
      | (refine Br.nt (by omega) ?_; conv => whnf)
      | (refine Br.nf (by omega) ?_; conv => whnf)
      | (refine Br.dec (fun hc => ?_) (fun hc => ?_) <;> conv => whnf)
      | (refine Br.ieq (fun hc => ?_) (fun hc => ?_) <;> conv => whnf)
      | (refine Br.ine (fun hc => ?_) (fun hc => ?_) <;> conv => whnf)
      | (refine Br.mk (fun hc => ?_) (fun hc => ?_) <;> conv => whnf)
      | (refine Wr.i64 (by omega) ?_; conv => whnf)
      | (refine Ck.mk (by omega) ?_; conv => whnf)
      | (refine Wr.i64 (by simp only [List.length_drop, List.length_take, List.length_append, List.length_cons, List.length_nil]; omega) ?_; conv => whnf)
      | (refine Ck.mk (by simp only [List.length_drop, List.length_take, List.length_append, List.length_cons, List.length_nil]; omega) ?_; conv => whnf)
      | (refine NewG.st (by assumption) (fun bt h' hs' => ?_); conv => whnf)
      | (refine Ck.mk (by simp; omega) ?_; conv => whnf))
    all_goals
      rw [List.nil_append] at es2
      refine RetC.mk' ?_ (by rw [insO_len]; exact hs2_) (St.older k1 hs4)
      rw [et, hs2_, insO_rws, es2]
      rfl

def cutsW (t : BT) (l r n : Nat) : List (List Int) := if l = 0 ∧ r + 1 = n then cuts0 t l r else cutsB t l r
theorem cutsW_part {t : BT} {l r n : Nat} (h : ¬ (l = 0 ∧ r + 1 = n)) : cutsW t l r n = cutsB t l r := if_neg h
theorem cutsB_two : ∀ (t : BT) (l r : Nat), ∀ x ∈ cutsB t l r, x.length = 2 := fun t l r x hx => by
  rcases List.mem_append.1 ((cuts_sides t l r).mem_iff.1 hx) with h | h
  · exact oneB_two t l r x h
  · exact sidesB_two t l r x h
theorem cutsB_len (t : BT) (l r : Nat) : (cutsB t l r).length = t.size := by
  rw [(cuts_sides t l r).length_eq, List.length_append, sidesB_len]
def CutRes (f : List (List Int)) (L : List (Nat × Blk)) (H0 : H) (w : AV) (h' : H) : Prop :=
  ∃ b C N R, w = .slice b 0 N C ∧ rws R = f ∧ N = R.length ∧ N ≤ C ∧ St H0 h' ((b, row (slcs R)) :: (blks R ++ L))
theorem fold_two {f l : List (List Int)} (hf : ∀ x ∈ f, x.length = 2) (hl : ∀ x ∈ l, x.length = 2) : ∀ x ∈ l.foldl putL f, x.length = 2 := fun x hx => by
  rcases List.mem_append.1 ((foldPut_perm l f).mem_iff.1 hx) with h | h
  · exact hf x h
  · exact hl x h
theorem fold_len (f l : List (List Int)) : (l.foldl putL f).length = f.length + l.length := by rw [(foldPut_perm l f).length_eq, List.length_append]
theorem txt_parts {a b : BT} {T : List UInt8} (h : T = (BT.node a b).txt) : T.length = a.txt.length + b.txt.length + 2 ∧ (T.take (1 + a.txt.length)).drop 1 = a.txt ∧ (T.take (T.length - 1)).drop (1 + a.txt.length) = b.txt ∧ T.drop 1 = a.txt ++ (b.txt ++ [41]) := by
  subst h
  have e : (BT.node a b).txt = 40 :: (a.txt ++ (b.txt ++ [41])) := by simp [BT.txt]
  have l : (BT.node a b).txt.length = a.txt.length + b.txt.length + 2 := by rw [e]; simp; omega
  refine ⟨l, ?_, ?_, by rw [e]; rfl⟩
  · rw [e, Nat.add_comm 1, List.take_succ_cons, List.drop_succ_cons, List.drop_zero, List.take_left]
  · rw [l, e, show a.txt.length + b.txt.length + 2 - 1 = (a.txt.length + b.txt.length) + 1 by omega, List.take_succ_cons, Nat.add_comm 1, List.drop_succ_cons]
    simp [List.take_append]

set_option maxHeartbeats 4000000 in
theorem l7Cut_ok (n : Nat) (hn : n ≤ 10) : ∀ (t : BT) (T : List UInt8) (l r : Nat) (i j : Int) (R : RL) (f : List (List Int)) (b N C : Nat) (L : List (Nat × Blk)) (H0 hp : H), T = t.txt → St H0 hp ((b, row (slcs R)) :: (blks R ++ L)) →
    i = l → j = r → r = l + t.size + 1 → r + 1 ≤ n → rws R = f → N = R.length → N ≤ C → N + t.size ≤ 100 → (∀ x ∈ f, x.length = 2) →
    AC env 104 [.str T, .int .i64 i, .int .i64 j, .slice b 0 N C, .int .i64 n] hp (CutRes ((cutsW t l r n).foldl putL f) L H0) := by
  intro t
  induction t with
  | leaf =>
    intro T l r i j R f b N C L H0 hp hT hs hi hj hlr hrn hf hN hC hz two
    have e : cutsW .leaf l r n = [] := by
      unfold cutsW
      split <;> rfl
    have hT : T = [46] := hT
    subst hT
    rw [e]
    refine AC.enter Tryz.func104 Tryz.call104 rfl Tryz.ntmps104 (of_decide_eq_true (by rfl)) ?_
    repeat' (first
      | refine AW.seq ?_
      | (refine AW.region ?_; conv => whnf)
      | (refine AW.ret ?_; conv => whnf)
      | refine AW.cond (by rfl) ?_
      | (refine Br.tt ?_; conv => whnf))
    exact ⟨b, C, N, R, rfl, hf, hN, hC, hs⟩
  | node x y ih1 ih2 =>
    rintro T l r i j R f b N C L H0 hp hT hs rfl rfl hlr hrn rfl hN hC hz two
    have ez : (BT.node x y).size = x.size + y.size + 1 := rfl
    rw [ez] at hlr hz
    obtain ⟨tl, p1, p2, p3⟩ := txt_parts hT
    have lx := x.txt_length
    have ly := y.txt_length
    have ne : (T == [46]) = false := by
      rw [beq_eq_false_iff_ne]
      intro h
      rw [h] at tl
      have e1 : ([46] : List UInt8).length = 1 := rfl
      omega
    have rt : rd T.length (T.drop 1) = some (x, T.drop (1 + x.txt.length)) := by
      rw [p3, rd_txt x _ _ (by omega), ← List.drop_drop, p3, List.drop_left]
    have rt2 := l6End_ok T (by omega) T.length 1 1 rfl (by omega) (by omega)
    rw [rt, endO_at (by omega)] at rt2
    have r2 : ∀ q ∈ R, q.2.length = 2 := rws_two rfl two
    have q1 : ((T.take ((1 + x.txt.length : Nat) : Int).toNat).drop (1 : Int).toNat) = x.txt := p1
    have q2 : ((T.take (((T.length : Nat) : Int) - 1).toNat).drop ((1 + x.txt.length : Nat) : Int).toNat) = y.txt := by
      rw [show (((T.length : Nat) : Int) - 1).toNat = T.length - 1 by omega]
      exact p2
    have nx : sizeO (treeOf x.txt) = x.size := by rw [treeOf_txt (by omega)]; rfl
    have w1 : cutsW x l (l + x.size + 1) n = cutsB x l (l + x.size + 1) := cutsW_part (by omega)
    have w2 : cutsW y (l + x.size + 1) r n = cutsB y (l + x.size + 1) r := cutsW_part (by omega)
    have lf := rws_length R
    by_cases wh : l = 0 ∧ r + 1 = n
    · have e : cutsW (.node x y) l r n = cutsB x l (l + x.size + 1) ++ cutsB y (l + x.size + 1) r := if_pos wh
      rw [e, List.foldl_append]
      refine AC.enter Tryz.func104 Tryz.call104 rfl Tryz.ntmps104 (of_decide_eq_true (by rfl)) ?_
      repeat' (first
        | (refine (rt2 _).mono ?_; rintro w h' ⟨rfl, e'⟩; subst h'; conv => whnf)
        | (refine (sNodesOf_ok _ _).mono ?_; rw [q1, nx]; rintro w h' ⟨rfl, e'⟩; subst h'; conv => whnf)
        | (refine (ih1 _ l (l + x.size + 1) _ _ R _ b N C L H0 _ q1 hs rfl (by omega) rfl (by omega) rfl hN hC (by omega) two).mono ?_; rw [w1]; rintro w h1 ⟨b1, C1, N1, R1, rfl, hR1, hN1, hC1, hs1⟩; have l1 := rws_length R1; rw [hR1, fold_len, cutsB_len] at l1; have two1 := fold_two two (cutsB_two x l (l + x.size + 1)); conv => whnf)
        | (refine (ih2 _ (l + x.size + 1) r _ _ R1 _ b1 N1 C1 L H0 _ q2 hs1 (by omega) (by omega) (by omega) (by omega) hR1 hN1 hC1 (by omega) two1).mono ?_; rw [w2]; rintro w h2 ⟨b2, C2, N2, R2, rfl, hR2, hN2, hC2, hs2⟩; conv => whnf)
        | refine AW.seq ?_
        | (refine AW.region ?_; conv => whnf)
        | (refine AW.skip ?_; conv => whnf)
        | (refine AW.ret ?_; conv => whnf)
        | refine AW.cond (by rfl) ?_
        | refine Br.not ?_
        | (refine Br.f (by assumption) ?_; conv => whnf)
        | (refine Br.dt (by omega) ?_; conv => whnf)
        | (refine Wr.i64 (by omega) ?_; conv => whnf)
        | (refine Ck.mk (by omega) ?_; conv => whnf))
      all_goals exact ⟨b2, C2, N2, R2, rfl, hR2, hN2, hC2, hs2⟩
    · have e : cutsW (.node x y) l r n = [(l : Int), (r : Int)] :: (cutsB x l (l + x.size + 1) ++ cutsB y (l + x.size + 1) r) := if_neg wh
      rw [e, List.foldl_cons, List.foldl_append]
      have two0 : ∀ q ∈ putL (rws R) [(l : Int), (r : Int)], q.length = 2 := fun q hq => by
        rcases List.mem_cons.1 ((putL_perm _ _).mem_iff.1 hq) with rfl | hq
        · rfl
        · exact two q hq
      have pl := putL_len (rws R) [(l : Int), (r : Int)]
      refine AC.enter Tryz.func104 Tryz.call104 rfl Tryz.ntmps104 (of_decide_eq_true (by rfl)) ?_
      repeat' (first
        | (refine (rt2 _).mono ?_; rintro w h' ⟨rfl, e'⟩; subst h'; conv => whnf)
        | (refine (sNodesOf_ok _ _).mono ?_; rw [q1, nx]; rintro w h' ⟨rfl, e'⟩; subst h'; conv => whnf)
        | (refine NewG.st hs (fun bx hA hsA => ?_); conv => whnf)
        | (refine (put_ok R [(l : Int), (r : Int)] L b bx N C H0 _ hsA hN hC (by omega) rfl r2).mono ?_; rintro w h' ⟨b0, rfl, hs0⟩; have hR0 := putP_rws R (bx, [(l : Int), (r : Int)]); have l0 := putP_len R (bx, [(l : Int), (r : Int)]); conv => whnf)
        | (refine (ih1 _ l (l + x.size + 1) _ _ _ _ b0 (N + 1) _ L H0 _ q1 hs0 rfl (by omega) rfl (by omega) hR0 (by omega) (by omega) (by omega) two0).mono ?_; rw [w1]; rintro w h1 ⟨b1, C1, N1, R1, rfl, hR1, hN1, hC1, hs1⟩; have l1 := rws_length R1; rw [hR1, fold_len, cutsB_len, pl] at l1; have two1 := fold_two two0 (cutsB_two x l (l + x.size + 1)); conv => whnf)
        | (refine (ih2 _ (l + x.size + 1) r _ _ R1 _ b1 N1 C1 L H0 _ q2 hs1 (by omega) (by omega) (by omega) (by omega) hR1 hN1 hC1 (by omega) two1).mono ?_; rw [w2]; rintro w h2 ⟨b2, C2, N2, R2, rfl, hR2, hN2, hC2, hs2⟩; conv => whnf)
        | refine AW.seq ?_
        | (refine AW.region ?_; conv => whnf)
        | (refine AW.skip ?_; conv => whnf)
        | (refine AW.ret ?_; conv => whnf)
        | refine AW.cond (by rfl) ?_
        | (refine Br.tt ?_; conv => whnf)
        | refine Br.not ?_
        | (refine Br.f (by assumption) ?_; conv => whnf)
        | (refine Br.dt (by omega) ?_; conv => whnf)
        | (refine Br.df (by omega) ?_; conv => whnf)
        | (refine Br.dec (fun hc => ?_) (fun hc => ?_) <;> conv => whnf)
        | (refine Wr.i64 (by omega) ?_; conv => whnf)
        | (refine Ck.mk (by omega) ?_; conv => whnf))
      all_goals exact ⟨b2, C2, N2, R2, rfl, hR2, hN2, hC2, hs2⟩

theorem sTriOfC_ok (s : List UInt8) (h0 : H) : AC env 68 [.str s] h0 (RetC2 (triOfS s) h0) := by
  have hs := St.refl h0
  cases e : treeOf s with
  | none =>
    have et : triOfS s = ([], false) := by unfold triOfS; rw [e]
    refine AC.enter Tryz.func68 Tryz.call68 rfl Tryz.ntmps68 (of_decide_eq_true (by rfl)) ?_
    repeat' (first
      | (refine (sIsBinary_ok s _).mono ?_; rw [e]; rintro v h' ⟨rfl, e'⟩; subst h'; conv => whnf)
      | refine AW.seq ?_
      | (refine AW.region ?_; conv => whnf)
      | (refine AW.ret ?_; conv => whnf)
      | refine AW.cond (by rfl) ?_
      | (refine Br.tt ?_; conv => whnf)
      | (refine NewG.st (by assumption) (fun bt h' hs' => ?_); conv => whnf))
    exact RetC2.mk' (R := []) et rfl (Nat.zero_le _) (nilRows hs')
  | some t =>
    have et : triOfS s = (diagsT t, true) := by unfold triOfS; rw [e]
    obtain ⟨est, hz⟩ := treeOf_some e
    have es : sizeO (some t) = t.size := rfl
    have ew : cutsW t 0 (t.size + 1) (t.size + 2) = cuts0 t 0 (t.size + 1) := if_pos ⟨rfl, rfl⟩
    refine AC.enter Tryz.func68 Tryz.call68 rfl Tryz.ntmps68 (of_decide_eq_true (by rfl)) ?_
    repeat' (first
      | (refine (sIsBinary_ok s _).mono ?_; rw [e]; rintro v h' ⟨rfl, e'⟩; subst h'; conv => whnf)
      | (refine (sNodesOf_ok s _).mono ?_; rw [e, es]; rintro v h' ⟨rfl, e'⟩; subst h'; conv => whnf)
      | (refine (l7Cut_ok (t.size + 2) (by omega) t s 0 (t.size + 1) _ _ [] [] _ 0 _ [] _ _ est (nilRows (by assumption)) rfl (by omega) (by omega) (by omega) rfl rfl (by omega) (by omega) (fun x hx => (nomatch hx))).mono ?_; rw [ew]; rintro w h1 ⟨b1, C1, N1, R1, rfl, hR1, hN1, hC1, hs1⟩; conv => whnf)
      | refine AW.seq ?_
      | (refine AW.region ?_; conv => whnf)
      | (refine AW.skip ?_; conv => whnf)
      | (refine AW.ret ?_; conv => whnf)
      | refine AW.cond (by rfl) ?_
      | (refine Br.ff ?_; conv => whnf)
      | (refine Wr.i64 (by omega) ?_; conv => whnf)
      | (refine NewG.st (by assumption) (fun bt h' hs' => ?_); conv => whnf))
    refine RetC2.mk' ?_ hN1 hC1 hs1
    rw [et, hR1]
    exact congrArg (fun x => (x, true)) (sortL_congr (cuts0_sides t 0 (t.size + 1)).symm)
theorem sTriOf_ok (s : List UInt8) (h0 : H) : AC env 68 [.str s] h0 (RetC (triOfS s) h0) := by
  refine (sTriOfC_ok s h0).mono ?_
  rintro v h' ⟨b, C, R, e1, e2, e3, e4, e5⟩
  exact ⟨b, C, R, e1, e3, e4, e5⟩

end Go.Proofs.YtbicfognbbeigaaGreat

/-
  Contracts of triangulations and of joined corners are proved.
  They hold for all rows of rows.
-/
set_option linter.unusedVariables false
set_option linter.unusedSimpArgs false
namespace Go.Proofs.YtbicfognbbeigaaGreat
open Go.Proofs.YtbicfognbbeigaaGreat.Ab Go.Proofs.YtbicfognbbeigaaGreat.Pl

theorem ent_rl {R : RL} {f : List (List Int)} (hR : rws R = f) (r i : Nat) : ent f r i = (rl R r).getD i 0 := ent_rws hR r i
theorem Grid.num2 {h : H} {b : Nat} {R : RL} {f : List (List Int)} (m : Grid h b R) (hf : rws R = f) (r i : Nat) {o : Nat} {K : AV → Prop} (e : o = i) (hr : r < R.length) (hl : (f.getD r []).length = 2) (hi : i < 2) (hk : K (.int .i64 (ent f r i))) : LoadG h (rb R r) o K := by
  subst e hf
  rw [← rl_rws] at hl
  refine (m.at hr).load (ints_get _ o (by omega)) ?_
  have : ent (rws R) r o = (rl R r).getD o 0 := ent_rws rfl r o
  rw [← this]
  exact hk

set_option maxHeartbeats 4000000 in
theorem crosses_ok (x y : List Int) (b c C D : Nat) (h0 : H) (hb : Has h0 b (ints x)) (hc' : Has h0 c (ints y)) (hx : x.length = 2) (hy : y.length = 2) :
    AC env 96 [.slice b 0 2 C, .slice c 0 2 D] h0 fun v h' => v = .bool (decide (crossR x y)) ∧ h' = h0 := by
  have d : crossR x y ↔ (x.getD 0 0 < y.getD 0 0 ∧ y.getD 0 0 < x.getD 1 0 ∧ x.getD 1 0 < y.getD 1 0) ∨ (y.getD 0 0 < x.getD 0 0 ∧ x.getD 0 0 < y.getD 1 0 ∧ y.getD 1 0 < x.getD 1 0) := Iff.rfl
  have x0 : x.getD (Int.toNat 0) 0 = x.getD 0 0 := rfl
  have x1 : x.getD (Int.toNat 1) 0 = x.getD 1 0 := rfl
  have y0 : y.getD (Int.toNat 0) 0 = y.getD 0 0 := rfl
  have y1 : y.getD (Int.toNat 1) 0 = y.getD 1 0 := rfl
  refine AC.enter Tryz.func96 Tryz.call96 rfl Tryz.ntmps96 (of_decide_eq_true (by rfl)) ?_
  repeat' (first
    | refine AW.seq ?_
    | (refine AW.region ?_; conv => whnf)
    | (refine AW.ret ?_; conv => whnf)
    | (refine AW.draw (id := 1) (.p 0 (.p 1 (.p 3 (.p 4 (.r 2 [6, 7, 8, 9, 10, 11, 12, 13, 14, 15, 16, 17, 18, 19, 20, 21, 22, 23, 24, 25, 26, 27, 28, 29, 30, 31, 32, 33, 34, 35, 36, 37, 38, 39, 40, 41, 42, 43, 44, 45, 46, 47, 48, 49, 50, 51, 52] (.r 5 [6, 7, 8, 9, 10, 11, 12, 13, 14, 15, 16, 17, 18, 19, 20, 21, 22, 23, 24, 25, 26, 27, 28, 29, 30, 31, 32, 33, 34, 35, 36, 37, 38, 39, 40, 41, 42, 43, 44, 45, 46, 47, 48, 49, 50, 51, 52] (.p 6 (.p 7 (.p 8 (.p 9 (.p 11 (.p 12 (.r 10 [14, 15, 16, 17, 18, 19, 20, 21, 22, 23, 24, 25, 26, 27, 28, 29, 30, 31, 32, 33, 34, 35, 36, 37, 38, 39, 40, 41, 42, 43, 44, 45, 46, 47, 48, 49, 50, 51, 52] (.r 13 [14, 15, 16, 17, 18, 19, 20, 21, 22, 23, 24, 25, 26, 27, 28, 29, 30, 31, 32, 33, 34, 35, 36, 37, 38, 39, 40, 41, 42, 43, 44, 45, 46, 47, 48, 49, 50, 51, 52] (.p 14 (.p 15 (.p 16 (.p 17 (.p 18 (.p 20 (.p 21 (.r 19 [23, 24, 25, 26, 27, 28, 29, 30, 31, 32, 33, 34, 35, 36, 37, 38, 39, 40, 41, 42, 43, 44, 45, 46, 47, 48, 49, 50, 51, 52] (.r 22 [23, 24, 25, 26, 27, 28, 29, 30, 31, 32, 33, 34, 35, 36, 37, 38, 39, 40, 41, 42, 43, 44, 45, 46, 47, 48, 49, 50, 51, 52] (.p 23 (.p 24 (.p 25 (.p 26 (.p 27 (.p 29 (.p 30 (.r 28 [32, 33, 34, 35, 36, 37, 38, 39, 40, 41, 42, 43, 44, 45, 46, 47, 48, 49, 50, 51, 52] (.r 31 [32, 33, 34, 35, 36, 37, 38, 39, 40, 41, 42, 43, 44, 45, 46, 47, 48, 49, 50, 51, 52] (.p 32 (.p 33 (.p 34 (.p 35 (.p 37 (.p 38 (.r 36 [40, 41, 42, 43, 44, 45, 46, 47, 48, 49, 50, 51, 52] (.r 39 [40, 41, 42, 43, 44, 45, 46, 47, 48, 49, 50, 51, 52] (.p 40 (.p 41 (.p 42 (.p 43 (.p 44 (.p 46 (.p 47 (.r 45 [49, 50, 51, 52] (.r 48 [49, 50, 51, 52] (.p 49 (.p 50 (.p 51 (.p 52 .done))))))))))))))))))))))))))))))))))))))))))))))))))))) (by kernel_rfl) (by kernel_rfl) ?_; conv => whnf)
    | (refine Br.ff ?_; conv => whnf)
    | (refine Br.dt (by omega) ?_; conv => whnf)
    | (refine Br.df (by omega) ?_; conv => whnf)
    | (refine Br.dec (fun hc => ?_) (fun hc => ?_) <;> conv => whnf)
    | (refine Ck.mk (by omega) ?_; conv => whnf)
    | (refine Has.loadZ (by first | assumption | exact St.has (by assumption) (by repeat first | exact .head _ | apply List.Mem.tail) | exact St.arg (by assumption) (by assumption)) rfl (by first | (simp; done) | omega | (simp only [List.length_set, List.length_append, List.length_cons, List.length_nil, List.length_replicate, tab_length]; omega) | (simp; omega)) ?_; conv => whnf))
  all_goals refine ⟨?_, rfl⟩
  all_goals congr 1
  all_goals first
    | (symm; apply decide_eq_false; rw [d]; omega)
    | (symm; apply decide_eq_true; rw [d]; omega)
    | (rw [decide_eq_decide, d]; omega)

/-- rows as far as they are looked at -/
theorem triRow_no1 {n : Int} {f : List (List Int)} {i : Nat} (h : ¬ diagOk n (f.getD i [])) : ¬ triRow n f i := fun a => h a.1
theorem triRow_no2 {n : Int} {f : List (List Int)} {i : Nat} (h0 : 0 < i) (h : ¬ cmpL (f.getD (i - 1) []) (f.getD i []) < 0) : ¬ triRow n f i := fun a => h (a.2.1 h0)
theorem triRow_no3 {n : Int} {f : List (List Int)} {i k : Nat} (hk : k < i) (h : crossR (f.getD k []) (f.getD i [])) : ¬ triRow n f i := fun a => a.2.2 k hk h

end Go.Proofs.YtbicfognbbeigaaGreat
