/-
  Contracts of trees of one's own in memory, of their texts and of a node with a number are proved.
  They hold for all trees of at most a thousand nodes.
-/
import Derived.Test.YtbicfognbbeigaaGreatH18
import Derived.Test.YtbicfognbbeigaaGreatP11
set_option linter.unusedVariables false
set_option linter.unusedSimpArgs false
namespace Go.Proofs.YtbicfognbbeigaaGreat
open Go.Proofs.YtbicfognbbeigaaGreat.Ab Go.Proofs.YtbicfognbbeigaaGreat.Pl

/-- a tree in memory, each node a block of its own -/
inductive TreeL : List (Nat × Blk) → AV → BT → Prop where
  | leaf : TreeL [] .nilptr .leaf
  | node {b : Nat} {x y : AV} {l r : BT} {A B : List (Nat × Blk)} (hl : TreeL A x l) (hr : TreeL B y r) : TreeL ((b, .cells true 2 [x, y]) :: (A ++ B)) (.ptr b 0) (.node l r)
theorem TreeL.form {L : List (Nat × Blk)} {v : AV} {t : BT} (m : TreeL L v t) : (v = .nilptr ∧ t = .leaf) ∨ ∃ b, v = .ptr b 0 := by
  cases m with
  | leaf => exact .inl ⟨rfl, rfl⟩
  | node _ _ => exact .inr ⟨_, rfl⟩
theorem TreeL.inn {L : List (Nat × Blk)} {v : AV} {t : BT} {h : H} (m : TreeL L v t) (hl : ∀ p ∈ L, h p.1 = some p.2) : TreeIn h v t := by
  induction m with
  | leaf => exact .leaf
  | node _ _ ih1 ih2 => exact .node ⟨true, 2, hl _ (.head _)⟩ (ih1 fun p hp => hl p (.tail _ (List.mem_append_left _ hp))) (ih2 fun p hp => hl p (.tail _ (List.mem_append_right _ hp)))
theorem St.trees {h0 h : H} {L M : List (Nat × Blk)} {v : AV} {t : BT} (s : St h0 h L) (m : TreeL M v t) (hm : ∀ p ∈ M, p ∈ L) : TreeIn h v t := m.inn fun p hp => s.is p (hm p hp)

/-- what reading a tree gives: blocks of one's own -/
def RdOwn (s : List UInt8) (o : Option (BT × List UInt8)) (h0 : H) (w : AV) (h' : H) : Prop := match o with
  | none => w = .tup [.nilptr, .int .i64 (-1)] ∧ Keeps h0 h'
  | some p => ∃ v L, w = .tup [v, .int .i64 (s.length - p.2.length : Nat)] ∧ TreeL L v p.1 ∧ St h0 h' L
theorem RdOwn.none {s : List UInt8} {h0 h' : H} {w : AV} (r : RdOwn s none h0 w h') : w = .tup [.nilptr, .int .i64 (-1)] ∧ Keeps h0 h' := r
theorem RdOwn.some {s : List UInt8} {h0 h' : H} {w : AV} {p : Nat} {t : BT} (hp : p ≤ s.length) (r : RdOwn s (some (t, s.drop p)) h0 w h') : ∃ v L, w = .tup [v, .int .i64 (p : Nat)] ∧ TreeL L v t ∧ St h0 h' L := by
  obtain ⟨v, L, e, m, k⟩ := r
  refine ⟨v, L, ?_, m, k⟩
  rw [e]
  simp only [List.length_drop]
  rw [show s.length - (s.length - p) = p by omega]
theorem RdOwn.mkNone {s : List UInt8} {h0 h' : H} {o : Option (BT × List UInt8)} (e : o = .none) (k : Keeps h0 h') : RdOwn s o h0 (.tup [.nilptr, .int .i64 (-1)]) h' := by
  subst e
  exact ⟨rfl, k⟩
theorem RdOwn.mkSome {s : List UInt8} {h0 h' : H} {o : Option (BT × List UInt8)} {p : Nat} {i : Int} {t : BT} {v : AV} {L : List (Nat × Blk)} (e : o = .some (t, s.drop p)) (hp : p ≤ s.length) (hi : i = p) (m : TreeL L v t) (k : St h0 h' L) : RdOwn s o h0 (.tup [v, .int .i64 i]) h' := by
  subst e hi
  refine ⟨v, L, ?_, m, k⟩
  simp only [List.length_drop]
  rw [show s.length - (s.length - p) = p by omega]

set_option maxHeartbeats 2000000 in
theorem readOwn_ok (s : List UInt8) (hl : s.length ≤ 1000000000) : ∀ (k a : Nat) (i : Int), i = a → a ≤ s.length → s.length - a ≤ k → ∀ h0 : H, AC env 133 [.str s, .int .i64 i] h0 (RdOwn s (rd k (s.drop a)) h0) := by
  intro k
  induction k with
  | zero =>
    rintro a i rfl ha hk h0
    refine AC.enter Tryz.func133 Tryz.call133 rfl Tryz.ntmps133 (of_decide_eq_true (by rfl)) ?_
    repeat' (first
      | refine AW.seq ?_
      | (refine AW.region ?_; conv => whnf)
      | (refine AW.ret ?_; conv => whnf)
      | refine AW.cond (by rfl) ?_
      | (refine Br.dt (by omega) ?_; conv => whnf))
    exact RdOwn.mkNone (s := s) rfl (Keeps.refl _)
  | succ k ih =>
    rintro a i rfl ha hk h0
    by_cases hlt : a < s.length
    · have ea := drop_at hlt
      have i0 : ((a : Nat) : Int).toNat = a := Int.toNat_natCast a
      by_cases c46 : s.getD a 0 = 46
      · have h1 : ((s.getD ((a : Nat) : Int).toNat 0).toNat : Int) = 46 := by rw [i0]; exact u8_46.1 c46
        have e : rd (k + 1) (s.drop a) = some (.leaf, s.drop (a + 1)) := by rw [ea, rd_dot c46]
        refine AC.enter Tryz.func133 Tryz.call133 rfl Tryz.ntmps133 (of_decide_eq_true (by rfl)) ?_
        repeat' (first
          | refine AW.seq ?_
          | (refine AW.region ?_; conv => whnf)
          | refine AW.block ?_
          | (refine AW.skip ?_; conv => whnf)
          | (refine AW.ret ?_; conv => whnf)
          | refine AW.cond (by rfl) ?_
          | (refine Br.dt (by omega) ?_; conv => whnf)
          | (refine Br.df (by omega) ?_; conv => whnf)
          | (refine Wr.i64 (by omega) ?_; conv => whnf)
          | (refine Ck.mk (by omega) ?_; conv => whnf))
        exact RdOwn.mkSome e (by omega) (by omega) .leaf (St.refl _)
      · have h1 : ((s.getD ((a : Nat) : Int).toNat 0).toNat : Int) ≠ 46 := by rw [i0]; exact fun h => c46 (u8_46.2 h)
        by_cases c40 : s.getD a 0 = 40
        · have h2 : ((s.getD ((a : Nat) : Int).toNat 0).toNat : Int) = 40 := by rw [i0]; exact u8_40.1 c40
          cases e1 : rd k (s.drop (a + 1)) with
          | none =>
            have e : rd (k + 1) (s.drop a) = none := by rw [ea, rd_o1 c40 e1]
            refine AC.enter Tryz.func133 Tryz.call133 rfl Tryz.ntmps133 (of_decide_eq_true (by rfl)) ?_
            repeat' (first
              | (refine (ih (a + 1) _ (by omega) (by omega) (by omega) _).mono ?_; rw [e1]; rintro v h' r; obtain ⟨rfl, k1⟩ := RdOwn.none r; conv => whnf)
              | refine AW.seq ?_
              | (refine AW.region ?_; conv => whnf)
              | refine AW.block ?_
              | (refine AW.skip ?_; conv => whnf)
              | (refine AW.ret ?_; conv => whnf)
              | refine AW.cond (by rfl) ?_
              | (refine Br.tt ?_; conv => whnf)
              | (refine Br.dt (by omega) ?_; conv => whnf)
              | (refine Br.df (by omega) ?_; conv => whnf)
              | (refine Wr.i64 (by omega) ?_; conv => whnf)
              | (refine Ck.mk (by omega) ?_; conv => whnf))
            exact RdOwn.mkNone e k1
          | some p1 =>
            obtain ⟨l, s1⟩ := p1
            obtain ⟨p, hp1, hp2, rfl⟩ := rd_at e1 (by omega)
            cases e2 : rd k (s.drop p) with
            | none =>
              have e : rd (k + 1) (s.drop a) = none := by rw [ea, rd_o2 c40 e1 e2]
              refine AC.enter Tryz.func133 Tryz.call133 rfl Tryz.ntmps133 (of_decide_eq_true (by rfl)) ?_
              repeat' (first
                | (refine (ih (a + 1) _ (by omega) (by omega) (by omega) _).mono ?_; rw [e1]; rintro v h' r; obtain ⟨v1, L1, rfl, m1, k1⟩ := RdOwn.some hp2 r; have m1' := m1; rcases m1'.form with ⟨rfl, _⟩ | ⟨b1, rfl⟩ <;> (conv => whnf))
                | (refine (ih p _ rfl (by omega) (by omega) _).mono ?_; rw [e2]; rintro v h' r; obtain ⟨rfl, k2⟩ := RdOwn.none r; conv => whnf)
                | refine AW.seq ?_
                | (refine AW.region ?_; conv => whnf)
                | refine AW.block ?_
                | (refine AW.skip ?_; conv => whnf)
                | (refine AW.ret ?_; conv => whnf)
                | refine AW.cond (by rfl) ?_
                | (refine Br.tt ?_; conv => whnf)
                | (refine Br.ff ?_; conv => whnf)
                | (refine Br.dt (by omega) ?_; conv => whnf)
                | (refine Br.df (by omega) ?_; conv => whnf)
                | (refine Wr.i64 (by omega) ?_; conv => whnf)
                | (refine Ck.mk (by omega) ?_; conv => whnf))
              all_goals exact RdOwn.mkNone e (k1.keeps.trans k2)
            | some p2 =>
              obtain ⟨r, s2⟩ := p2
              obtain ⟨q, hq1, hq2, rfl⟩ := rd_at e2 (by omega)
              by_cases hq : q < s.length
              · have eq := drop_at hq
                have i1 : ((q : Nat) : Int).toNat = q := Int.toNat_natCast q
                have e2' := e2
                rw [eq] at e2'
                by_cases c41 : s.getD q 0 = 41
                · have h3 : ((s.getD ((q : Nat) : Int).toNat 0).toNat : Int) = 41 := by rw [i1]; exact u8_41.1 c41
                  have e : rd (k + 1) (s.drop a) = some (.node l r, s.drop (q + 1)) := by rw [ea, rd_o5 c40 e1 e2' c41]
                  refine AC.enter Tryz.func133 Tryz.call133 rfl Tryz.ntmps133 (of_decide_eq_true (by rfl)) ?_
                  repeat' (first
                    | (refine (ih (a + 1) _ (by omega) (by omega) (by omega) _).mono ?_; rw [e1]; rintro v h1 r; obtain ⟨v1, L1, rfl, m1, k1⟩ := RdOwn.some hp2 r; have m1' := m1; rcases m1'.form with ⟨rfl, _⟩ | ⟨b1, rfl⟩ <;> (conv => whnf))
                    | (refine (ih p _ rfl (by omega) (by omega) _).mono ?_; rw [e2]; rintro v h2 r; obtain ⟨v2, L2, rfl, m2, k2⟩ := RdOwn.some hq2 r; have m2' := m2; have k3 := k1.call k2; rcases m2'.form with ⟨rfl, _⟩ | ⟨b2, rfl⟩ <;> (conv => whnf))
                    | (refine NewG.st k3 (fun bt h' hs' => ?_); conv => whnf)
                    | refine AW.seq ?_
                    | (refine AW.region ?_; conv => whnf)
                    | refine AW.block ?_
                    | (refine AW.skip ?_; conv => whnf)
                    | (refine AW.ret ?_; conv => whnf)
                    | refine AW.cond (by rfl) ?_
                    | (refine Br.ff ?_; conv => whnf)
                    | refine Br.not ?_
                    | (refine Br.dt (by omega) ?_; conv => whnf)
                    | (refine Br.df (by omega) ?_; conv => whnf)
                    | (refine Wr.i64 (by omega) ?_; conv => whnf)
                    | (refine Ck.mk (by omega) ?_; conv => whnf))
                  all_goals exact RdOwn.mkSome e (by omega) (by omega) (.node m1 m2) (hs'.perm (.cons _ List.perm_append_comm))
                · have h3 : ((s.getD ((q : Nat) : Int).toNat 0).toNat : Int) ≠ 41 := by rw [i1]; exact fun h => c41 (u8_41.2 h)
                  have e : rd (k + 1) (s.drop a) = none := by rw [ea, rd_o4 c40 e1 e2' c41]
                  refine AC.enter Tryz.func133 Tryz.call133 rfl Tryz.ntmps133 (of_decide_eq_true (by rfl)) ?_
                  repeat' (first
                    | (refine (ih (a + 1) _ (by omega) (by omega) (by omega) _).mono ?_; rw [e1]; rintro v h1 r; obtain ⟨v1, L1, rfl, m1, k1⟩ := RdOwn.some hp2 r; have m1' := m1; rcases m1'.form with ⟨rfl, _⟩ | ⟨b1, rfl⟩ <;> (conv => whnf))
                    | (refine (ih p _ rfl (by omega) (by omega) _).mono ?_; rw [e2]; rintro v h2 r; obtain ⟨v2, L2, rfl, m2, k2⟩ := RdOwn.some hq2 r; have m2' := m2; rcases m2'.form with ⟨rfl, _⟩ | ⟨b2, rfl⟩ <;> (conv => whnf))
                    | refine AW.seq ?_
                    | (refine AW.region ?_; conv => whnf)
                    | refine AW.block ?_
                    | (refine AW.skip ?_; conv => whnf)
                    | (refine AW.ret ?_; conv => whnf)
                    | refine AW.cond (by rfl) ?_
                    | (refine Br.ff ?_; conv => whnf)
                    | refine Br.not ?_
                    | (refine Br.dt (by omega) ?_; conv => whnf)
                    | (refine Br.df (by omega) ?_; conv => whnf)
                    | (refine Wr.i64 (by omega) ?_; conv => whnf)
                    | (refine Ck.mk (by omega) ?_; conv => whnf))
                  all_goals exact RdOwn.mkNone e (k1.keeps.trans k2.keeps)
              · have eq : s.drop q = [] := List.drop_eq_nil_of_le (by omega)
                have e2' := e2
                rw [eq] at e2'
                have e : rd (k + 1) (s.drop a) = none := by rw [ea, rd_o3 c40 e1 e2']
                refine AC.enter Tryz.func133 Tryz.call133 rfl Tryz.ntmps133 (of_decide_eq_true (by rfl)) ?_
                repeat' (first
                  | (refine (ih (a + 1) _ (by omega) (by omega) (by omega) _).mono ?_; rw [e1]; rintro v h1 r; obtain ⟨v1, L1, rfl, m1, k1⟩ := RdOwn.some hp2 r; have m1' := m1; rcases m1'.form with ⟨rfl, _⟩ | ⟨b1, rfl⟩ <;> (conv => whnf))
                  | (refine (ih p _ rfl (by omega) (by omega) _).mono ?_; rw [e2]; rintro v h2 r; obtain ⟨v2, L2, rfl, m2, k2⟩ := RdOwn.some hq2 r; have m2' := m2; rcases m2'.form with ⟨rfl, _⟩ | ⟨b2, rfl⟩ <;> (conv => whnf))
                  | refine AW.seq ?_
                  | (refine AW.region ?_; conv => whnf)
                  | refine AW.block ?_
                  | (refine AW.skip ?_; conv => whnf)
                  | (refine AW.ret ?_; conv => whnf)
                  | refine AW.cond (by rfl) ?_
                  | (refine Br.tt ?_; conv => whnf)
                  | (refine Br.ff ?_; conv => whnf)
                  | (refine Br.dt (by omega) ?_; conv => whnf)
                  | (refine Br.df (by omega) ?_; conv => whnf)
                  | (refine Wr.i64 (by omega) ?_; conv => whnf)
                  | (refine Ck.mk (by omega) ?_; conv => whnf))
                all_goals exact RdOwn.mkNone e (k1.keeps.trans k2.keeps)
        · have h2 : ((s.getD ((a : Nat) : Int).toNat 0).toNat : Int) ≠ 40 := by rw [i0]; exact fun h => c40 (u8_40.2 h)
          have e : rd (k + 1) (s.drop a) = none := by rw [ea, rd_no c46 c40]
          refine AC.enter Tryz.func133 Tryz.call133 rfl Tryz.ntmps133 (of_decide_eq_true (by rfl)) ?_
          repeat' (first
            | refine AW.seq ?_
            | (refine AW.region ?_; conv => whnf)
            | refine AW.block ?_
            | (refine AW.skip ?_; conv => whnf)
            | (refine AW.ret ?_; conv => whnf)
            | refine AW.cond (by rfl) ?_
            | (refine Br.df (by omega) ?_; conv => whnf)
            | (refine Ck.mk (by omega) ?_; conv => whnf))
          exact RdOwn.mkNone e (Keeps.refl _)
    · have e : rd (k + 1) (s.drop a) = none := by rw [List.drop_eq_nil_of_le (by omega)]; rfl
      refine AC.enter Tryz.func133 Tryz.call133 rfl Tryz.ntmps133 (of_decide_eq_true (by rfl)) ?_
      repeat' (first
        | refine AW.seq ?_
        | (refine AW.region ?_; conv => whnf)
        | (refine AW.ret ?_; conv => whnf)
        | refine AW.cond (by rfl) ?_
        | (refine Br.dt (by omega) ?_; conv => whnf))
      exact RdOwn.mkNone e (Keeps.refl _)

theorem parseOwn_ok (t : BT) (h0 : H) (hz : t.size ≤ 8) : AC env 107 [.str t.txt] h0 fun w h' => ∃ v L, w = .tup [v, .bool true] ∧ TreeL L v t ∧ St h0 h' L := by
  have tl := t.txt_length
  have rt := readOwn_ok t.txt (by omega) t.txt.length 0 0 rfl (by omega) (by omega) h0
  have er : rd t.txt.length (t.txt.drop 0) = some (t, t.txt.drop t.txt.length) := by
    rw [List.drop_zero, List.drop_length]
    have := rd_txt t t.txt.length [] (Nat.le_refl _)
    rwa [List.append_nil] at this
  rw [er] at rt
  refine AC.enter Tryz.func107 Tryz.call107 rfl Tryz.ntmps107 (of_decide_eq_true (by rfl)) ?_
  repeat' (first
    | (refine rt.mono ?_; rintro v h1 r; obtain ⟨v1, L1, rfl, m1, k1⟩ := RdOwn.some (Nat.le_refl _) r; have m1' := m1; have m2 := St.trees k1 m1 (fun p hp => hp); rcases m1'.form with ⟨rfl, _⟩ | ⟨b1, rfl⟩ <;> (conv => whnf))
    | (refine (nodes_ok t _ _ m2 (by omega)).mono ?_; rintro w h' ⟨rfl, e'⟩; subst h'; conv => whnf)
    | refine AW.seq ?_
    | (refine AW.region ?_; conv => whnf)
    | (refine AW.skip ?_; conv => whnf)
    | (refine AW.ret ?_; conv => whnf)
    | refine AW.cond (by rfl) ?_
    | refine Br.not ?_
    | (refine Br.t (beq_self_eq_true _) ?_; conv => whnf)
    | (refine Br.df (by omega) ?_; conv => whnf))
  all_goals exact ⟨_, L1, rfl, m1, k1⟩

theorem text_ok : ∀ (t : BT) (v : AV) (h0 : H), TreeIn h0 v t → t.size ≤ 100000 → AC env 58 [v] h0 fun w h' => w = .str t.txt ∧ h' = h0 := by
  intro t
  induction t with
  | leaf =>
    intro v h0 m hz
    cases m
    refine AC.enter Tryz.func58 Tryz.call58 rfl Tryz.ntmps58 (of_decide_eq_true (by rfl)) ?_
    repeat' (first
      | refine AW.seq ?_
      | (refine AW.region ?_; conv => whnf)
      | (refine AW.ret ?_; conv => whnf)
      | refine AW.cond (by rfl) ?_
      | (refine Br.tt ?_; conv => whnf))
    exact ⟨rfl, rfl⟩
  | node l r ih1 ih2 =>
    intro v h0 m hz
    cases m with
    | node m hl hr =>
      have ez : (BT.node l r).size = l.size + r.size + 1 := rfl
      rw [ez] at hz
      have i1 := ih1 _ h0 hl (by omega)
      have i2 := ih2 _ h0 hr (by omega)
      have ll := l.txt_length
      have lr := r.txt_length
      have et : (BT.node l r).txt = [40] ++ l.txt ++ r.txt ++ [41] := by simp [BT.txt]
      rw [et]
      rcases hl.form with ⟨rfl, rfl⟩ | ⟨b1, rfl⟩ <;> rcases hr.form with ⟨rfl, rfl⟩ | ⟨b2, rfl⟩
      all_goals
        refine AC.enter Tryz.func58 Tryz.call58 rfl Tryz.ntmps58 (of_decide_eq_true (by rfl)) ?_
        repeat' (first
          | (refine And.intro ?_ ?_ <;> (conv => whnf))
          | (refine Has.load m rfl ?_; conv => whnf)
          | (refine i1.mono ?_; rintro w h' ⟨rfl, e'⟩; subst h'; conv => whnf)
          | (refine i2.mono ?_; rintro w h' ⟨rfl, e'⟩; subst h'; conv => whnf)
          | refine AW.seq ?_
          | (refine AW.region ?_; conv => whnf)
          | (refine AW.skip ?_; conv => whnf)
          | (refine AW.ret ?_; conv => whnf)
          | refine AW.cond (by rfl) ?_
          | (refine AW.draw (id := 3) (.p 0 (.p 1 (.p 2 (.p 6 (.p 7 (.p 8 (.r 3 [4, 5, 10, 11, 12, 13] (.all [4, 9] fun i => bif Nat.beq i 4 then (.p 5 (.r 9 [10, 11, 12, 13] (.all [10] fun _ => (.p 11 (.p 12 (.p 13 .done)))))) else (.all [4] fun _ => (.p 5 (.all [10] fun _ => (.p 11 (.p 12 (.p 13 .done)))))))))))))) (by kernel_rfl) (by kernel_rfl) ?_; conv => whnf)
          | (refine Br.ff ?_; conv => whnf)
          | (refine Ck.mk (by simp only [List.length_drop, List.length_take, List.length_append, List.length_cons, List.length_nil]; omega) ?_; conv => whnf))
        all_goals first
          | rfl
          | exact ⟨rfl, rfl⟩

theorem find_ok : ∀ {L : List (Nat × Blk)} {v : AV} {t : BT}, TreeL L v t → ∀ (i : Nat) (j : Int) (h0 : H), j = i → (∀ p ∈ L, h0 p.1 = some p.2) → i < t.size → t.size ≤ 100000 →
    ∃ (S R : List (Nat × Blk)) (b : Nat), L.Perm (S ++ R) ∧ TreeL S (.ptr b 0) (nodeB t i) ∧ (∀ S' u, TreeL S' (.ptr b 0) u → ∃ L', L'.Perm (S' ++ R) ∧ TreeL L' v (replB t i u)) ∧
      AC env 128 [v, .int .i64 j] h0 fun w h' => w = .ptr b 0 ∧ h' = h0 := by
  intro L v t m
  induction m with
  | leaf => intro i j h0 hj hl hi; simp [BT.size] at hi
  | @node b x y l r A B hl hr ih1 ih2 =>
    rintro i j h0 rfl hm hi hz
    have ez : (BT.node l r).size = l.size + r.size + 1 := rfl
    rw [ez] at hi hz
    have mb : Has h0 b [x, y] := ⟨true, 2, hm _ (.head _)⟩
    have mA : ∀ p ∈ A, h0 p.1 = some p.2 := fun p hp => hm p (.tail _ (List.mem_append_left _ hp))
    have mB : ∀ p ∈ B, h0 p.1 = some p.2 := fun p hp => hm p (.tail _ (List.mem_append_right _ hp))
    have inl := hl.inn mA
    have inr := hr.inn mB
    have nd := nodes_ok l x h0 inl (by omega)
    by_cases c : i < l.size
    · obtain ⟨S, R, b2, p1, p2, p3, p4⟩ := ih1 i i h0 rfl mA c (by omega)
      refine ⟨S, (b, .cells true 2 [x, y]) :: (R ++ B), b2, ?_, by unfold nodeB; rw [if_pos c]; exact p2, fun S' u hu => ?_, ?_⟩
      · refine ((p1.append_right B).cons _).trans ?_
        rw [List.append_assoc]
        exact List.perm_middle.symm
      · obtain ⟨L', q1, q2⟩ := p3 S' u hu
        refine ⟨(b, .cells true 2 [x, y]) :: (L' ++ B), ?_, by unfold replB; rw [if_pos c]; exact .node q2 hr⟩
        refine ((q1.append_right B).cons _).trans ?_
        rw [List.append_assoc]
        exact List.perm_middle.symm
      · rcases inl.form with ⟨rfl, rfl⟩ | ⟨b1, rfl⟩
        · simp [BT.size] at c
        · refine AC.enter Tryz.func128 Tryz.call128 rfl Tryz.ntmps128 (of_decide_eq_true (by rfl)) ?_
          repeat' (first
            | (refine Has.load mb rfl ?_; conv => whnf)
            | (refine nd.mono ?_; rintro w h' ⟨rfl, e'⟩; subst h'; conv => whnf)
            | (refine p4.mono ?_; rintro w h' ⟨rfl, e'⟩; subst h'; conv => whnf)
            | refine AW.seq ?_
            | (refine AW.region ?_; conv => whnf)
            | refine AW.block ?_
            | (refine AW.skip ?_; conv => whnf)
            | (refine AW.ret ?_; conv => whnf)
            | refine AW.cond (by rfl) ?_
            | (refine Br.ff ?_; conv => whnf)
            | (refine Br.dt (by omega) ?_; conv => whnf))
          exact ⟨rfl, rfl⟩
    · by_cases d : i = l.size
      · refine ⟨(b, .cells true 2 [x, y]) :: (A ++ B), [], b, by rw [List.append_nil], by unfold nodeB; rw [if_neg c, if_pos d]; exact .node hl hr, fun S' u hu => ⟨S', by rw [List.append_nil], by unfold replB; rw [if_neg c, if_pos d]; exact hu⟩, ?_⟩
        rcases inl.form with ⟨rfl, rfl⟩ | ⟨b1, rfl⟩
        all_goals
          refine AC.enter Tryz.func128 Tryz.call128 rfl Tryz.ntmps128 (of_decide_eq_true (by rfl)) ?_
          repeat' (first
            | (refine Has.load mb rfl ?_; conv => whnf)
            | (refine nd.mono ?_; rintro w h' ⟨rfl, e'⟩; subst h'; conv => whnf)
            | refine AW.seq ?_
            | (refine AW.region ?_; conv => whnf)
            | refine AW.block ?_
            | (refine AW.skip ?_; conv => whnf)
            | (refine AW.ret ?_; conv => whnf)
            | refine AW.cond (by rfl) ?_
            | (refine Br.ff ?_; conv => whnf)
            | (refine Br.dt (by omega) ?_; conv => whnf)
            | (refine Br.df (by omega) ?_; conv => whnf))
          exact ⟨rfl, rfl⟩
      · obtain ⟨S, R, b2, p1, p2, p3, p4⟩ := ih2 (i - l.size - 1) ((i : Int) - l.size - 1) h0 (by omega) mB (by omega) (by omega)
        refine ⟨S, (b, .cells true 2 [x, y]) :: (A ++ R), b2, ?_, by unfold nodeB; rw [if_neg c, if_neg d]; exact p2, fun S' u hu => ?_, ?_⟩
        · refine ((p1.append_left A).cons _).trans ?_
          refine (List.Perm.cons _ (List.perm_append_comm_assoc A S R)).trans ?_
          exact List.perm_middle.symm
        · obtain ⟨L', q1, q2⟩ := p3 S' u hu
          refine ⟨(b, .cells true 2 [x, y]) :: (A ++ L'), ?_, by unfold replB; rw [if_neg c, if_neg d]; exact .node hl q2⟩
          refine ((q1.append_left A).cons _).trans ?_
          refine (List.Perm.cons _ (List.perm_append_comm_assoc A S' R)).trans ?_
          exact List.perm_middle.symm
        · rcases inl.form with ⟨rfl, rfl⟩ | ⟨b1, rfl⟩ <;> rcases inr.form with ⟨rfl, rfl⟩ | ⟨b3, rfl⟩
          all_goals first
            | (exfalso; simp [BT.size] at hi; omega)
            | skip
          all_goals
            refine AC.enter Tryz.func128 Tryz.call128 rfl Tryz.ntmps128 (of_decide_eq_true (by rfl)) ?_
            repeat' (first
              | (refine Has.load mb rfl ?_; conv => whnf)
              | (refine nd.mono ?_; rintro w h' ⟨rfl, e'⟩; subst h'; conv => whnf)
              | (refine p4.mono ?_; rintro w h' ⟨rfl, e'⟩; subst h'; conv => whnf)
              | refine AW.seq ?_
              | (refine AW.region ?_; conv => whnf)
              | refine AW.block ?_
              | (refine AW.skip ?_; conv => whnf)
              | (refine AW.ret ?_; conv => whnf)
              | refine AW.cond (by rfl) ?_
              | (refine Br.ff ?_; conv => whnf)
              | (refine Br.df (by omega) ?_; conv => whnf)
              | (refine Wr.i64 (by omega) ?_; conv => whnf))
            all_goals exact ⟨rfl, rfl⟩

end Go.Proofs.YtbicfognbbeigaaGreat

/-
  Plain laws of the triangles of a triangulation, as numbers, are proved by a search through all of them.
  They hold for up to ten corners.
-/
set_option linter.unusedVariables false
set_option linter.unusedSimpArgs false
namespace Go.Proofs.YtbicfognbbeigaaGreat.Pl

def trC (a b c : Nat) : Nat := Nat.add (Nat.add (Nat.mul 256 a) (Nat.mul 16 b)) c
/-- triangles by the first corner that is joined with both ends -/
noncomputable def trisC (m : Nat) (k : Nat) : Nat → Nat → List Nat :=
  @Nat.rec (fun _ => Nat → Nat → List Nat) (fun _ _ => []) (fun _ ih l r =>
    @List.rec Nat (fun _ => List Nat) [] (fun i _ rest => bif jnC 0 m l (Nat.add (Nat.succ l) i) then (bif jnC 0 m (Nat.add (Nat.succ l) i) r then trC l (Nat.add (Nat.succ l) i) r :: (ih l (Nat.add (Nat.succ l) i) ++ ih (Nat.add (Nat.succ l) i) r) else rest) else rest) (List.range (Nat.sub (Nat.sub r l) 1))) k
/-- triples that are joined -/
noncomputable def triInC (n m a b : Nat) (l : List Nat) : List Nat :=
  @List.rec Nat (fun _ => List Nat) [] (fun c _ ih => bif Nat.ble (Nat.succ b) c then (bif jnC n m b c then (bif jnC n m a c then trC a b c :: ih else ih) else ih) else ih) l
noncomputable def triMidC (n m a : Nat) (l : List Nat) : List Nat :=
  @List.rec Nat (fun _ => List Nat) [] (fun b _ ih => bif Nat.ble (Nat.succ a) b then (bif jnC n m a b then triInC n m a b (List.range n) ++ ih else ih) else ih) l
noncomputable def triOutC (n m : Nat) (l : List Nat) : List Nat :=
  @List.rec Nat (fun _ => List Nat) [] (fun a _ ih => triMidC n m a (List.range n) ++ ih) l
noncomputable def insN (x : Nat) (l : List Nat) : List Nat :=
  @List.rec Nat (fun _ => List Nat) [x] (fun y t ih => bif Nat.ble x y then x :: y :: t else y :: ih) l
noncomputable def sortN (l : List Nat) : List Nat := @List.rec Nat (fun _ => List Nat) [] (fun x _ ih => insN x ih) l
noncomputable def upN (l : List Nat) : Nat → Bool := @List.rec Nat (fun _ => Nat → Bool) (fun _ => true) (fun x _ ih p => bif Nat.ble (Nat.succ p) x then ih x else false) l
noncomputable def eqN (l : List Nat) : List Nat → Bool := @List.rec Nat (fun _ => List Nat → Bool) (fun m => @List.rec Nat (fun _ => Bool) true (fun _ _ _ => false) m) (fun x _ ih m => @List.rec Nat (fun _ => Bool) false (fun y t _ => bif Nat.beq x y then ih t else false) m) l
noncomputable def triOk (n : Nat) (r : List Nat) : Bool :=
  bif eqN (sortN (trisC (mskC r) n 0 (Nat.sub n 1))) (triOutC n (mskC r) (List.range n)) then (bif upN (triOutC n (mskC r) (List.range n)) 0 then Nat.beq (triOutC n (mskC r) (List.range n)).length (Nat.sub n 2) else false) else false

theorem insN_perm (x : Nat) : ∀ l : List Nat, (insN x l).Perm (x :: l)
  | [] => .refl _
  | y :: l => by
    have e : insN x (y :: l) = bif Nat.ble x y then x :: y :: l else y :: insN x l := rfl
    rw [e]
    cases Nat.ble x y with
    | true => exact .refl _
    | false => exact ((insN_perm x l).cons y).trans (.swap x y l)
theorem sortN_perm : ∀ l : List Nat, (sortN l).Perm l
  | [] => .refl _
  | x :: l => (insN_perm x (sortN l)).trans ((sortN_perm l).cons x)
theorem eqN_eq : ∀ {l m : List Nat}, eqN l m = true → l = m
  | [], [], _ => rfl
  | [], _ :: _, h => by cases h
  | _ :: _, [], h => by cases h
  | x :: l, y :: m, h => by
    have h : (bif Nat.beq x y then eqN l m else false) = true := h
    rw [beq_of, cond_decide] at h
    split at h
    · rename_i e
      rw [e, eqN_eq h]
    · cases h
theorem upN_sorted : ∀ {l : List Nat} {p : Nat}, upN l p = true → l.Pairwise (· < ·) ∧ ∀ x ∈ l, p < x
  | [], _, _ => ⟨.nil, fun x hx => (nomatch hx)⟩
  | x :: l, p, h => by
    have h : (bif Nat.ble (Nat.succ p) x then upN l x else false) = true := h
    rw [ble_of, cond_decide] at h
    split at h
    · rename_i e
      have ih := upN_sorted h
      refine ⟨List.pairwise_cons.2 ⟨ih.2, ih.1⟩, fun y hy => ?_⟩
      cases hy with
      | head => omega
      | tail _ hy => have := ih.2 y hy; omega
    · cases h

set_option maxRecDepth 100000 in
theorem tris_low : allR (fun m => allC (triOk m) (m - 3) [] (candC m)) [2, 3, 4, 5, 6, 7, 8] = true := by decide +kernel
set_option maxRecDepth 100000 in
theorem tris_nine : allC (triOk 9) 6 [] (candC 9) = true := by decide +kernel
set_option maxRecDepth 100000 in
theorem tris_ten : allC (triOk 10) 7 [] (candC 10) = true := by decide +kernel
theorem tris_fine {n : Nat} (h : 2 ≤ n ∧ n ≤ 10) : allC (triOk n) (n - 3) [] (candC n) = true := by
  by_cases c : n ≤ 8
  · exact allR_all tris_low n (by simp; omega)
  · by_cases d : n = 9
    · subst d; exact tris_nine
    · rw [show n = 10 by omega]; exact tris_ten

end Go.Proofs.YtbicfognbbeigaaGreat.Pl
