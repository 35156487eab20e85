/-
  Contracts of functions that read trees off texts are proved.
  They hold for all texts within the sizes that the statements speak of.
-/
import Derived.Test.YtbicfognbbeigaaGreatH4
import Derived.Test.YtbicfognbbeigaaGreatP11
set_option linter.unusedVariables false
set_option linter.unusedSimpArgs false
namespace Go.Proofs.YtbicfognbbeigaaGreat
open Go.Proofs.YtbicfognbbeigaaGreat.Ab Go.Proofs.YtbicfognbbeigaaGreat.Pl

/-! how a text is read, step by step -/
theorem rd_dot {k : Nat} {c : UInt8} {s : List UInt8} (h : c = 46) : rd (k + 1) (c :: s) = some (.leaf, s) := by rw [rd, if_pos h]
theorem rd_no {k : Nat} {c : UInt8} {s : List UInt8} (h : c ≠ 46) (h2 : c ≠ 40) : rd (k + 1) (c :: s) = none := by rw [rd, if_neg h, if_neg h2]
theorem rd_o1 {k : Nat} {c : UInt8} {s : List UInt8} (h : c = 40) (h1 : rd k s = none) : rd (k + 1) (c :: s) = none := by
  subst h
  rw [rd, if_neg (by decide), if_pos rfl, h1]
theorem rd_o2 {k : Nat} {c : UInt8} {s s1 : List UInt8} {l : BT} (h : c = 40) (h1 : rd k s = some (l, s1)) (h2 : rd k s1 = none) : rd (k + 1) (c :: s) = none := by
  subst h
  rw [rd, if_neg (by decide), if_pos rfl, h1]
  simp only
  rw [h2]
theorem rd_o3 {k : Nat} {c : UInt8} {s s1 : List UInt8} {l r : BT} (h : c = 40) (h1 : rd k s = some (l, s1)) (h2 : rd k s1 = some (r, [])) : rd (k + 1) (c :: s) = none := by
  subst h
  rw [rd, if_neg (by decide), if_pos rfl, h1]
  simp only
  rw [h2]
theorem rd_o4 {k : Nat} {c e : UInt8} {s s1 s3 : List UInt8} {l r : BT} (h : c = 40) (h1 : rd k s = some (l, s1)) (h2 : rd k s1 = some (r, e :: s3)) (h3 : e ≠ 41) : rd (k + 1) (c :: s) = none := by
  subst h
  rw [rd, if_neg (by decide), if_pos rfl, h1]
  simp only
  rw [h2]
  simp only
  rw [if_neg h3]
theorem rd_o5 {k : Nat} {c e : UInt8} {s s1 s3 : List UInt8} {l r : BT} (h : c = 40) (h1 : rd k s = some (l, s1)) (h2 : rd k s1 = some (r, e :: s3)) (h3 : e = 41) : rd (k + 1) (c :: s) = some (.node l r, s3) := by
  subst h
  rw [rd, if_neg (by decide), if_pos rfl, h1]
  simp only
  rw [h2]
  simp only
  rw [if_pos h3]
theorem rd_at {k a : Nat} {s r : List UInt8} {t : BT} (h : rd k (s.drop a) = some (t, r)) (ha : a ≤ s.length) : ∃ p, a + 1 ≤ p ∧ p ≤ s.length ∧ r = s.drop p := by
  have e := rd_sound _ _ _ _ h
  have l := congrArg List.length e
  rw [List.length_drop, List.length_append] at l
  have tl := t.txt_length
  refine ⟨a + t.txt.length, by omega, by omega, ?_⟩
  rw [← List.drop_drop, e, List.drop_left]
theorem drop_at {s : List UInt8} {a : Nat} (h : a < s.length) : s.drop a = s.getD a 0 :: s.drop (a + 1) := by
  rw [List.drop_eq_getElem_cons h]
  simp [List.getD, h]
theorem u8_eq {x y : UInt8} : x = y ↔ ((x.toNat : Nat) : Int) = (y.toNat : Nat) := ⟨fun h => by rw [h], fun h => UInt8.toNat_inj.1 (by omega)⟩
theorem u8_46 {x : UInt8} : x = 46 ↔ ((x.toNat : Nat) : Int) = 46 := u8_eq
theorem u8_40 {x : UInt8} : x = 40 ↔ ((x.toNat : Nat) : Int) = 40 := u8_eq
theorem u8_41 {x : UInt8} : x = 41 ↔ ((x.toNat : Nat) : Int) = 41 := u8_eq
def endO (s : List UInt8) (o : Option (BT × List UInt8)) : Int := match o with
  | none => -1
  | some p => (s.length - p.2.length : Nat)
theorem endO_at {s : List UInt8} {p : Nat} {t : BT} (h : p ≤ s.length) : endO s (some (t, s.drop p)) = p := by
  unfold endO
  simp only [List.length_drop]
  omega

set_option maxHeartbeats 1000000 in
theorem l6End_ok (s : List UInt8) (hl : s.length ≤ 1000000000) : ∀ (k a : Nat) (i : Int), i = a → a ≤ s.length → s.length - a ≤ k → ∀ h0 : H, AC env 110 [.str s, .int .i64 i] h0 fun v h' => v = .int .i64 (endO s (rd k (s.drop a))) ∧ h' = h0 := by
  intro k
  induction k with
  | zero =>
    rintro a i rfl ha hk h0
    have e : endO s (rd 0 (s.drop a)) = -1 := rfl
    rw [e]
    refine AC.enter Tryz.func110 Tryz.call110 rfl Tryz.ntmps110 (of_decide_eq_true (by rfl)) ?_
    repeat' (first
      | refine AW.seq ?_
      | (refine AW.region ?_; conv => whnf)
      | (refine AW.ret ?_; conv => whnf)
      | refine AW.cond (by rfl) ?_
      | (refine Br.dt (by omega) ?_; conv => whnf))
    exact ⟨rfl, rfl⟩
  | succ k ih =>
    rintro a i rfl ha hk h0
    by_cases hlt : a < s.length
    · have ea := drop_at hlt
      have i0 : ((a : Nat) : Int).toNat = a := Int.toNat_natCast a
      by_cases c46 : s.getD a 0 = 46
      · have h1 : ((s.getD ((a : Nat) : Int).toNat 0).toNat : Int) = 46 := by rw [i0]; exact u8_46.1 c46
        have e : endO s (rd (k + 1) (s.drop a)) = a + 1 := by rw [ea, rd_dot c46, endO_at (by omega)]; omega
        rw [e]
        refine AC.enter Tryz.func110 Tryz.call110 rfl Tryz.ntmps110 (of_decide_eq_true (by rfl)) ?_
        repeat' (first
          | refine AW.seq ?_
          | (refine AW.region ?_; conv => whnf)
          | (refine AW.skip ?_; conv => whnf)
          | (refine AW.ret ?_; conv => whnf)
          | refine AW.cond (by rfl) ?_
          | (refine Br.dt (by omega) ?_; conv => whnf)
          | (refine Br.df (by omega) ?_; conv => whnf)
          | (refine Wr.i64 (by omega) ?_; conv => whnf)
          | (refine Ck.mk (by omega) ?_; conv => whnf))
        exact ⟨rfl, rfl⟩
      · have h1 : ((s.getD ((a : Nat) : Int).toNat 0).toNat : Int) ≠ 46 := by rw [i0]; exact fun h => c46 (u8_46.2 h)
        by_cases c40 : s.getD a 0 = 40
        · have h2 : ((s.getD ((a : Nat) : Int).toNat 0).toNat : Int) = 40 := by rw [i0]; exact u8_40.1 c40
          cases e1 : rd k (s.drop (a + 1)) with
          | none =>
            have e : endO s (rd (k + 1) (s.drop a)) = -1 := by rw [ea, rd_o1 c40 e1]; rfl
            rw [e]
            refine AC.enter Tryz.func110 Tryz.call110 rfl Tryz.ntmps110 (of_decide_eq_true (by rfl)) ?_
            repeat' (first
              | (refine (ih (a + 1) _ (by omega) (by omega) (by omega) _).mono ?_; rw [e1]; rintro v h' ⟨rfl, e'⟩; subst h'; conv => whnf)
              | refine AW.seq ?_
              | (refine AW.region ?_; conv => whnf)
              | (refine AW.skip ?_; conv => whnf)
              | (refine AW.ret ?_; conv => whnf)
              | refine AW.cond (by rfl) ?_
              | (refine Br.tt ?_; conv => whnf)
              | refine Br.not ?_
              | (refine Br.dt (by omega) ?_; conv => whnf)
              | (refine Br.df (by omega) ?_; conv => whnf)
              | (refine Wr.i64 (by omega) ?_; conv => whnf)
              | (refine Ck.mk (by omega) ?_; conv => whnf))
            exact ⟨rfl, rfl⟩
          | some p1 =>
            obtain ⟨l, s1⟩ := p1
            obtain ⟨p, hp1, hp2, rfl⟩ := rd_at e1 (by omega)
            have n1 := endO_at (t := l) hp2
            cases e2 : rd k (s.drop p) with
            | none =>
              have e : endO s (rd (k + 1) (s.drop a)) = -1 := by rw [ea, rd_o2 c40 e1 e2]; rfl
              rw [e]
              refine AC.enter Tryz.func110 Tryz.call110 rfl Tryz.ntmps110 (of_decide_eq_true (by rfl)) ?_
              repeat' (first
                | (refine (ih (a + 1) _ (by omega) (by omega) (by omega) _).mono ?_; rw [e1, n1]; rintro v h' ⟨rfl, e'⟩; subst h'; conv => whnf)
                | (refine (ih p _ rfl (by omega) (by omega) _).mono ?_; rw [e2]; rintro v h' ⟨rfl, e'⟩; subst h'; conv => whnf)
                | refine AW.seq ?_
                | (refine AW.region ?_; conv => whnf)
                | (refine AW.skip ?_; conv => whnf)
                | (refine AW.ret ?_; conv => whnf)
                | refine AW.cond (by rfl) ?_
                | (refine Br.tt ?_; conv => whnf)
                | (refine Br.ff ?_; conv => whnf)
                | refine Br.not ?_
                | (refine Br.dt (by omega) ?_; conv => whnf)
                | (refine Br.df (by omega) ?_; conv => whnf)
                | (refine Wr.i64 (by omega) ?_; conv => whnf)
                | (refine Ck.mk (by omega) ?_; conv => whnf))
              exact ⟨rfl, rfl⟩
            | some p2 =>
              obtain ⟨r, s2⟩ := p2
              obtain ⟨q, hq1, hq2, rfl⟩ := rd_at e2 (by omega)
              have n2 := endO_at (t := r) hq2
              by_cases hq : q < s.length
              · have eq := drop_at hq
                have i1 : ((q : Nat) : Int).toNat = q := Int.toNat_natCast q
                rw [eq] at e2
                by_cases c41 : s.getD q 0 = 41
                · have h3 : ((s.getD ((q : Nat) : Int).toNat 0).toNat : Int) = 41 := by rw [i1]; exact u8_41.1 c41
                  have e : endO s (rd (k + 1) (s.drop a)) = q + 1 := by rw [ea, rd_o5 c40 e1 e2 c41, endO_at (by omega)]; omega
                  rw [e]
                  rw [← eq] at e2
                  refine AC.enter Tryz.func110 Tryz.call110 rfl Tryz.ntmps110 (of_decide_eq_true (by rfl)) ?_
                  repeat' (first
                    | (refine (ih (a + 1) _ (by omega) (by omega) (by omega) _).mono ?_; rw [e1, n1]; rintro v h' ⟨rfl, e'⟩; subst h'; conv => whnf)
                    | (refine (ih p _ rfl (by omega) (by omega) _).mono ?_; rw [e2, n2]; rintro v h' ⟨rfl, e'⟩; subst h'; conv => whnf)
                    | refine AW.seq ?_
                    | (refine AW.region ?_; conv => whnf)
                    | (refine AW.skip ?_; conv => whnf)
                    | (refine AW.ret ?_; conv => whnf)
                    | refine AW.cond (by rfl) ?_
                    | (refine Br.ff ?_; conv => whnf)
                    | refine Br.not ?_
                    | (refine Br.dt (by omega) ?_; conv => whnf)
                    | (refine Br.df (by omega) ?_; conv => whnf)
                    | (refine Wr.i64 (by omega) ?_; conv => whnf)
                    | (refine Ck.mk (by omega) ?_; conv => whnf))
                  exact ⟨rfl, rfl⟩
                · have h3 : ((s.getD ((q : Nat) : Int).toNat 0).toNat : Int) ≠ 41 := by rw [i1]; exact fun h => c41 (u8_41.2 h)
                  have e : endO s (rd (k + 1) (s.drop a)) = -1 := by rw [ea, rd_o4 c40 e1 e2 c41]; rfl
                  rw [e]
                  rw [← eq] at e2
                  refine AC.enter Tryz.func110 Tryz.call110 rfl Tryz.ntmps110 (of_decide_eq_true (by rfl)) ?_
                  repeat' (first
                    | (refine (ih (a + 1) _ (by omega) (by omega) (by omega) _).mono ?_; rw [e1, n1]; rintro v h' ⟨rfl, e'⟩; subst h'; conv => whnf)
                    | (refine (ih p _ rfl (by omega) (by omega) _).mono ?_; rw [e2, n2]; rintro v h' ⟨rfl, e'⟩; subst h'; conv => whnf)
                    | refine AW.seq ?_
                    | (refine AW.region ?_; conv => whnf)
                    | (refine AW.skip ?_; conv => whnf)
                    | (refine AW.ret ?_; conv => whnf)
                    | refine AW.cond (by rfl) ?_
                    | (refine Br.ff ?_; conv => whnf)
                    | refine Br.not ?_
                    | (refine Br.dt (by omega) ?_; conv => whnf)
                    | (refine Br.df (by omega) ?_; conv => whnf)
                    | (refine Wr.i64 (by omega) ?_; conv => whnf)
                    | (refine Ck.mk (by omega) ?_; conv => whnf))
                  exact ⟨rfl, rfl⟩
              · have eq : s.drop q = [] := List.drop_eq_nil_of_le (by omega)
                have e : endO s (rd (k + 1) (s.drop a)) = -1 := by rw [eq] at e2; rw [ea, rd_o3 c40 e1 e2]; rfl
                rw [e]
                refine AC.enter Tryz.func110 Tryz.call110 rfl Tryz.ntmps110 (of_decide_eq_true (by rfl)) ?_
                repeat' (first
                  | (refine (ih (a + 1) _ (by omega) (by omega) (by omega) _).mono ?_; rw [e1, n1]; rintro v h' ⟨rfl, e'⟩; subst h'; conv => whnf)
                  | (refine (ih p _ rfl (by omega) (by omega) _).mono ?_; rw [e2, n2]; rintro v h' ⟨rfl, e'⟩; subst h'; conv => whnf)
                  | refine AW.seq ?_
                  | (refine AW.region ?_; conv => whnf)
                  | (refine AW.skip ?_; conv => whnf)
                  | (refine AW.ret ?_; conv => whnf)
                  | refine AW.cond (by rfl) ?_
                  | (refine Br.tt ?_; conv => whnf)
                  | (refine Br.ff ?_; conv => whnf)
                  | refine Br.not ?_
                  | (refine Br.dt (by omega) ?_; conv => whnf)
                  | (refine Br.df (by omega) ?_; conv => whnf)
                  | (refine Wr.i64 (by omega) ?_; conv => whnf)
                  | (refine Ck.mk (by omega) ?_; conv => whnf))
                exact ⟨rfl, rfl⟩
        · have h2 : ((s.getD ((a : Nat) : Int).toNat 0).toNat : Int) ≠ 40 := by rw [i0]; exact fun h => c40 (u8_40.2 h)
          have e : endO s (rd (k + 1) (s.drop a)) = -1 := by rw [ea, rd_no c46 c40]; rfl
          rw [e]
          refine AC.enter Tryz.func110 Tryz.call110 rfl Tryz.ntmps110 (of_decide_eq_true (by rfl)) ?_
          repeat' (first
            | refine AW.seq ?_
            | (refine AW.region ?_; conv => whnf)
            | (refine AW.skip ?_; conv => whnf)
            | (refine AW.ret ?_; conv => whnf)
            | refine AW.cond (by rfl) ?_
            | refine Br.not ?_
            | (refine Br.df (by omega) ?_; conv => whnf)
            | (refine Ck.mk (by omega) ?_; conv => whnf))
          exact ⟨rfl, rfl⟩
    · have e : endO s (rd (k + 1) (s.drop a)) = -1 := by rw [List.drop_eq_nil_of_le (by omega)]; rfl
      rw [e]
      refine AC.enter Tryz.func110 Tryz.call110 rfl Tryz.ntmps110 (of_decide_eq_true (by rfl)) ?_
      repeat' (first
        | refine AW.seq ?_
        | (refine AW.region ?_; conv => whnf)
        | (refine AW.ret ?_; conv => whnf)
        | refine AW.cond (by rfl) ?_
        | (refine Br.dt (by omega) ?_; conv => whnf))
      exact ⟨rfl, rfl⟩

/-! trees in memory -/
inductive TreeIn (h : H) : AV → BT → Prop where
  | leaf : TreeIn h .nilptr .leaf
  | node {b : Nat} {x y : AV} {l r : BT} (m : Has h b [x, y]) (hl : TreeIn h x l) (hr : TreeIn h y r) : TreeIn h (.ptr b 0) (.node l r)
theorem TreeIn.keep {h h' : H} (k : Keeps h h') {v : AV} {t : BT} (m : TreeIn h v t) : TreeIn h' v t := by
  induction m with
  | leaf => exact .leaf
  | node m _ _ ih1 ih2 => exact .node (m.keep k) ih1 ih2
theorem TreeIn.form {h : H} {v : AV} {t : BT} (m : TreeIn h v t) : (v = .nilptr ∧ t = .leaf) ∨ ∃ b, v = .ptr b 0 := by
  cases m with
  | leaf => exact .inl ⟨rfl, rfl⟩
  | node _ _ _ => exact .inr ⟨_, rfl⟩

theorem nodes_ok : ∀ (t : BT) (v : AV) (h0 : H), TreeIn h0 v t → t.size ≤ 1000000 → AC env 109 [v] h0 fun w h' => w = .int .i64 (t.size : Nat) ∧ h' = h0 := by
  intro t
  induction t with
  | leaf =>
    intro v h0 m hz
    cases m
    refine AC.enter Tryz.func109 Tryz.call109 rfl Tryz.ntmps109 (of_decide_eq_true (by rfl)) ?_
    repeat' (first
      | refine AW.seq ?_
      | (refine AW.region ?_; conv => whnf)
      | (refine AW.ret ?_; conv => whnf)
      | refine AW.cond (by rfl) ?_
      | (refine Br.tt ?_; conv => whnf))
    exact ⟨rfl, rfl⟩
  | node l r ih1 ih2 =>
    intro v h0 m hz
    cases m with
    | node m hl hr =>
      have ez : (BT.node l r).size = l.size + r.size + 1 := rfl
      rw [ez] at hz ⊢
      have i1 := ih1 _ h0 hl (by omega)
      have i2 := ih2 _ h0 hr (by omega)
      rcases hl.form with ⟨rfl, rfl⟩ | ⟨b1, rfl⟩ <;> rcases hr.form with ⟨rfl, rfl⟩ | ⟨b2, rfl⟩
      all_goals
        refine AC.enter Tryz.func109 Tryz.call109 rfl Tryz.ntmps109 (of_decide_eq_true (by rfl)) ?_
        repeat' (first
          | (refine And.intro ?_ ?_ <;> (conv => whnf))
          | (refine Has.load m rfl ?_; conv => whnf)
          | (refine i1.mono ?_; rintro w h' ⟨rfl, e'⟩; subst h'; conv => whnf)
          | (refine i2.mono ?_; rintro w h' ⟨rfl, e'⟩; subst h'; conv => whnf)
          | refine AW.seq ?_
          | (refine AW.region ?_; conv => whnf)
          | (refine AW.skip ?_; conv => whnf)
          | (refine AW.ret ?_; conv => whnf)
          | refine AW.cond (by rfl) ?_
          | (refine AW.draw (id := 3) (.p 0 (.p 1 (.p 2 (.p 5 (.p 6 (.p 7 (.r 3 [4, 9, 10, 11, 12] (.all [4, 8] fun i => bif Nat.beq i 4 then (.r 8 [9, 10, 11, 12] (.all [9] fun _ => (.p 10 (.p 11 (.p 12 .done))))) else (.all [4] fun _ => (.all [9] fun _ => (.p 10 (.p 11 (.p 12 .done))))))))))))) (by kernel_rfl) (by kernel_rfl) ?_; conv => whnf)
          | (refine Br.ff ?_; conv => whnf)
          | (refine Wr.i64 (by omega) ?_; conv => whnf))
        all_goals first
          | rfl
          | simp

/-- what reading a tree gives -/
def RdRes (s : List UInt8) (o : Option (BT × List UInt8)) (h0 : H) (w : AV) (h' : H) : Prop := Keeps h0 h' ∧ match o with
  | none => w = .tup [.nilptr, .int .i64 (-1)]
  | some p => ∃ v, w = .tup [v, .int .i64 (s.length - p.2.length : Nat)] ∧ TreeIn h' v p.1
theorem RdRes.none {s : List UInt8} {h0 h' : H} {w : AV} (r : RdRes s none h0 w h') : w = .tup [.nilptr, .int .i64 (-1)] ∧ Keeps h0 h' := ⟨r.2, r.1⟩
theorem RdRes.some {s : List UInt8} {h0 h' : H} {w : AV} {p : Nat} {t : BT} (hp : p ≤ s.length) (r : RdRes s (some (t, s.drop p)) h0 w h') : ∃ v, w = .tup [v, .int .i64 (p : Nat)] ∧ TreeIn h' v t ∧ Keeps h0 h' := by
  obtain ⟨k, v, e, m⟩ := r
  refine ⟨v, ?_, m, k⟩
  rw [e]
  simp only [List.length_drop]
  rw [show s.length - (s.length - p) = p by omega]
theorem RdRes.mkNone {s : List UInt8} {h0 h' : H} {o : Option (BT × List UInt8)} (e : o = .none) (k : Keeps h0 h') : RdRes s o h0 (.tup [.nilptr, .int .i64 (-1)]) h' := by
  subst e
  exact ⟨k, rfl⟩
theorem RdRes.mkSome {s : List UInt8} {h0 h' : H} {o : Option (BT × List UInt8)} {p : Nat} {i : Int} {t : BT} {v : AV} (e : o = .some (t, s.drop p)) (hp : p ≤ s.length) (hi : i = p) (m : TreeIn h' v t) (k : Keeps h0 h') : RdRes s o h0 (.tup [v, .int .i64 i]) h' := by
  subst e hi
  refine ⟨k, v, ?_, m⟩
  simp only [List.length_drop]
  rw [show s.length - (s.length - p) = p by omega]

set_option maxHeartbeats 2000000 in
theorem readTree_ok (s : List UInt8) (hl : s.length ≤ 1000000000) : ∀ (k a : Nat) (i : Int), i = a → a ≤ s.length → s.length - a ≤ k → ∀ h0 : H, AC env 133 [.str s, .int .i64 i] h0 (RdRes s (rd k (s.drop a)) h0) := by
  intro k
  induction k with
  | zero =>
    rintro a i rfl ha hk h0
    refine AC.enter Tryz.func133 Tryz.call133 rfl Tryz.ntmps133 (of_decide_eq_true (by rfl)) ?_
    repeat' (first
      | refine AW.seq ?_
      | (refine AW.region ?_; conv => whnf)
      | refine AW.block ?_
      | (refine AW.skip ?_; conv => whnf)
      | (refine AW.ret ?_; conv => whnf)
      | (refine AW.exit ?_; conv => whnf)
      | refine AW.cond (by rfl) ?_
      | (refine Br.tt ?_; conv => whnf)
      | (refine Br.ff ?_; conv => whnf)
      | refine Br.not ?_
      | (refine Br.t (beq_self_eq_true _) ?_; conv => whnf)
      | (refine Br.t (by assumption) ?_; conv => whnf)
      | (refine Br.f (by assumption) ?_; conv => whnf)
      | (refine Br.dt (by omega) ?_; conv => whnf)
      | (refine Br.df (by omega) ?_; conv => whnf)
      | (refine Br.it (by omega) ?_; conv => whnf)
      | (refine Br.if (by omega) ?_; conv => whnf)
      | (refine Br.nt (by omega) ?_; conv => whnf)
      | (refine Br.nf (by omega) ?_; conv => whnf)
      | (refine Br.dec (fun hc => ?_) (fun hc => ?_) <;> conv => whnf)
      | (refine Br.ieq (fun hc => ?_) (fun hc => ?_) <;> conv => whnf)
      | (refine Br.ine (fun hc => ?_) (fun hc => ?_) <;> conv => whnf)
      | (refine Br.mk (fun hc => ?_) (fun hc => ?_) <;> conv => whnf)
      | (refine Wr.i64 (by omega) ?_; conv => whnf)
      | (refine Ck.mk (by omega) ?_; conv => whnf)
      | (refine Wr.i64 (by simp only [List.length_drop, List.length_take, List.length_append, List.length_cons, List.length_nil]; omega) ?_; conv => whnf)
      | (refine Ck.mk (by simp only [List.length_drop, List.length_take, List.length_append, List.length_cons, List.length_nil]; omega) ?_; conv => whnf)
      | (refine NewG.st (by assumption) (fun bt h' hs' => ?_); conv => whnf)
      | (refine Wr.u8 (by omega) ?_; conv => whnf)
      | (refine Ck.mk (by simp; omega) ?_; conv => whnf))
    exact RdRes.mkNone (s := s) rfl (Keeps.refl _)
  | succ k ih =>
    rintro a i rfl ha hk h0
    by_cases hlt : a < s.length
    · have ea := drop_at hlt
      have i0 : ((a : Nat) : Int).toNat = a := Int.toNat_natCast a
      by_cases c46 : s.getD a 0 = 46
      · have h1 : ((s.getD ((a : Nat) : Int).toNat 0).toNat : Int) = 46 := by rw [i0]; exact u8_46.1 c46
        have e : rd (k + 1) (s.drop a) = some (.leaf, s.drop (a + 1)) := by rw [ea, rd_dot c46]
        refine AC.enter Tryz.func133 Tryz.call133 rfl Tryz.ntmps133 (of_decide_eq_true (by rfl)) ?_
        repeat' (first
          | refine AW.seq ?_
          | (refine AW.region ?_; conv => whnf)
          | refine AW.block ?_
          | (refine AW.skip ?_; conv => whnf)
          | (refine AW.ret ?_; conv => whnf)
          | (refine AW.exit ?_; conv => whnf)
          | refine AW.cond (by rfl) ?_
          | (refine Br.tt ?_; conv => whnf)
          | (refine Br.ff ?_; conv => whnf)
          | refine Br.not ?_
          | (refine Br.t (beq_self_eq_true _) ?_; conv => whnf)
          | (refine Br.t (by assumption) ?_; conv => whnf)
          | (refine Br.f (by assumption) ?_; conv => whnf)
          | (refine Br.dt (by omega) ?_; conv => whnf)
          | (refine Br.df (by omega) ?_; conv => whnf)
          | (refine Br.it (by omega) ?_; conv => whnf)
          | (refine Br.if (by omega) ?_; conv => whnf)
          | (refine Br.nt (by omega) ?_; conv => whnf)
          | (refine Br.nf (by omega) ?_; conv => whnf)
          | (refine Br.dec (fun hc => ?_) (fun hc => ?_) <;> conv => whnf)
          | (refine Br.ieq (fun hc => ?_) (fun hc => ?_) <;> conv => whnf)
          | (refine Br.ine (fun hc => ?_) (fun hc => ?_) <;> conv => whnf)
          | (refine Br.mk (fun hc => ?_) (fun hc => ?_) <;> conv => whnf)
          | (refine Wr.i64 (by omega) ?_; conv => whnf)
          | (refine Ck.mk (by omega) ?_; conv => whnf)
          | (refine Wr.i64 (by simp only [List.length_drop, List.length_take, List.length_append, List.length_cons, List.length_nil]; omega) ?_; conv => whnf)
          | (refine Ck.mk (by simp only [List.length_drop, List.length_take, List.length_append, List.length_cons, List.length_nil]; omega) ?_; conv => whnf)
          | (refine NewG.st (by assumption) (fun bt h' hs' => ?_); conv => whnf)
          | (refine Wr.u8 (by omega) ?_; conv => whnf)
          | (refine Ck.mk (by simp; omega) ?_; conv => whnf))
        exact RdRes.mkSome e (by omega) (by omega) .leaf (Keeps.refl _)
      · have h1 : ((s.getD ((a : Nat) : Int).toNat 0).toNat : Int) ≠ 46 := by rw [i0]; exact fun h => c46 (u8_46.2 h)
        by_cases c40 : s.getD a 0 = 40
        · have h2 : ((s.getD ((a : Nat) : Int).toNat 0).toNat : Int) = 40 := by rw [i0]; exact u8_40.1 c40
          cases e1 : rd k (s.drop (a + 1)) with
          | none =>
            have e : rd (k + 1) (s.drop a) = none := by rw [ea, rd_o1 c40 e1]
            refine AC.enter Tryz.func133 Tryz.call133 rfl Tryz.ntmps133 (of_decide_eq_true (by rfl)) ?_
            repeat' (first
              | (refine (ih (a + 1) _ (by omega) (by omega) (by omega) _).mono ?_; rw [e1]; rintro v h' r; obtain ⟨rfl, k1⟩ := RdRes.none r; conv => whnf)
              | refine AW.seq ?_
              | (refine AW.region ?_; conv => whnf)
              | refine AW.block ?_
              | (refine AW.skip ?_; conv => whnf)
              | (refine AW.ret ?_; conv => whnf)
              | (refine AW.exit ?_; conv => whnf)
              | refine AW.cond (by rfl) ?_
              | (refine Br.tt ?_; conv => whnf)
              | (refine Br.ff ?_; conv => whnf)
              | refine Br.not ?_
              | (refine Br.t (beq_self_eq_true _) ?_; conv => whnf)
              | (refine Br.t (by assumption) ?_; conv => whnf)
              | (refine Br.f (by assumption) ?_; conv => whnf)
              | (refine Br.dt (by omega) ?_; conv => whnf)
              | (refine Br.df (by omega) ?_; conv => whnf)
              | (refine Br.it (by omega) ?_; conv => whnf)
              | (refine Br.if (by omega) ?_; conv => whnf)
              | (refine Br.nt (by omega) ?_; conv => whnf)
              | (refine Br.nf (by omega) ?_; conv => whnf)
              | (refine Br.dec (fun hc => ?_) (fun hc => ?_) <;> conv => whnf)
              | (refine Br.ieq (fun hc => ?_) (fun hc => ?_) <;> conv => whnf)
              | (refine Br.ine (fun hc => ?_) (fun hc => ?_) <;> conv => whnf)
              | (refine Br.mk (fun hc => ?_) (fun hc => ?_) <;> conv => whnf)
              | (refine Wr.i64 (by omega) ?_; conv => whnf)
              | (refine Ck.mk (by omega) ?_; conv => whnf)
              | (refine Wr.i64 (by simp only [List.length_drop, List.length_take, List.length_append, List.length_cons, List.length_nil]; omega) ?_; conv => whnf)
              | (refine Ck.mk (by simp only [List.length_drop, List.length_take, List.length_append, List.length_cons, List.length_nil]; omega) ?_; conv => whnf)
              | (refine NewG.st (by assumption) (fun bt h' hs' => ?_); conv => whnf)
              | (refine Wr.u8 (by omega) ?_; conv => whnf)
              | (refine Ck.mk (by simp; omega) ?_; conv => whnf))
            exact RdRes.mkNone e k1
          | some p1 =>
            obtain ⟨l, s1⟩ := p1
            obtain ⟨p, hp1, hp2, rfl⟩ := rd_at e1 (by omega)
            cases e2 : rd k (s.drop p) with
            | none =>
              have e : rd (k + 1) (s.drop a) = none := by rw [ea, rd_o2 c40 e1 e2]
              refine AC.enter Tryz.func133 Tryz.call133 rfl Tryz.ntmps133 (of_decide_eq_true (by rfl)) ?_
              repeat' (first
                | (refine (ih (a + 1) _ (by omega) (by omega) (by omega) _).mono ?_; rw [e1]; rintro v h' r; obtain ⟨v1, rfl, m1, k1⟩ := RdRes.some hp2 r; rcases m1.form with ⟨rfl, rfl⟩ | ⟨b1, rfl⟩ <;> (conv => whnf))
                | (refine (ih p _ rfl (by omega) (by omega) _).mono ?_; rw [e2]; rintro v h' r; obtain ⟨rfl, k2⟩ := RdRes.none r; conv => whnf)
                | refine AW.seq ?_
                | (refine AW.region ?_; conv => whnf)
                | refine AW.block ?_
                | (refine AW.skip ?_; conv => whnf)
                | (refine AW.ret ?_; conv => whnf)
                | (refine AW.exit ?_; conv => whnf)
                | refine AW.cond (by rfl) ?_
                | (refine Br.tt ?_; conv => whnf)
                | (refine Br.ff ?_; conv => whnf)
                | refine Br.not ?_
                | (refine Br.t (beq_self_eq_true _) ?_; conv => whnf)
                | (refine Br.t (by assumption) ?_; conv => whnf)
                | (refine Br.f (by assumption) ?_; conv => whnf)
                | (refine Br.dt (by omega) ?_; conv => whnf)
                | (refine Br.df (by omega) ?_; conv => whnf)
                | (refine Br.it (by omega) ?_; conv => whnf)
                | (refine Br.if (by omega) ?_; conv => whnf)
                | (refine Br.nt (by omega) ?_; conv => whnf)
                | (refine Br.nf (by omega) ?_; conv => whnf)
                | (refine Br.dec (fun hc => ?_) (fun hc => ?_) <;> conv => whnf)
                | (refine Br.ieq (fun hc => ?_) (fun hc => ?_) <;> conv => whnf)
                | (refine Br.ine (fun hc => ?_) (fun hc => ?_) <;> conv => whnf)
                | (refine Br.mk (fun hc => ?_) (fun hc => ?_) <;> conv => whnf)
                | (refine Wr.i64 (by omega) ?_; conv => whnf)
                | (refine Ck.mk (by omega) ?_; conv => whnf)
                | (refine Wr.i64 (by simp only [List.length_drop, List.length_take, List.length_append, List.length_cons, List.length_nil]; omega) ?_; conv => whnf)
                | (refine Ck.mk (by simp only [List.length_drop, List.length_take, List.length_append, List.length_cons, List.length_nil]; omega) ?_; conv => whnf)
                | (refine NewG.st (by assumption) (fun bt h' hs' => ?_); conv => whnf)
                | (refine Wr.u8 (by omega) ?_; conv => whnf)
                | (refine Ck.mk (by simp; omega) ?_; conv => whnf))
              all_goals exact RdRes.mkNone e (k1.trans k2)
            | some p2 =>
              obtain ⟨r, s2⟩ := p2
              obtain ⟨q, hq1, hq2, rfl⟩ := rd_at e2 (by omega)
              by_cases hq : q < s.length
              · have eq := drop_at hq
                have i1 : ((q : Nat) : Int).toNat = q := Int.toNat_natCast q
                have e2' := e2
                rw [eq] at e2'
                by_cases c41 : s.getD q 0 = 41
                · have h3 : ((s.getD ((q : Nat) : Int).toNat 0).toNat : Int) = 41 := by rw [i1]; exact u8_41.1 c41
                  have e : rd (k + 1) (s.drop a) = some (.node l r, s.drop (q + 1)) := by rw [ea, rd_o5 c40 e1 e2' c41]
                  refine AC.enter Tryz.func133 Tryz.call133 rfl Tryz.ntmps133 (of_decide_eq_true (by rfl)) ?_
                  repeat' (first
                    | (refine (ih (a + 1) _ (by omega) (by omega) (by omega) _).mono ?_; rw [e1]; rintro v h1 r; obtain ⟨v1, rfl, m1, k1⟩ := RdRes.some hp2 r; have m1' := m1; rcases m1'.form with ⟨rfl, _⟩ | ⟨b1, rfl⟩ <;> (conv => whnf))
                    | (refine (ih p _ rfl (by omega) (by omega) _).mono ?_; rw [e2]; rintro v h2 r; obtain ⟨v2, rfl, m2, k2⟩ := RdRes.some hq2 r; have m2' := m2; rcases m2'.form with ⟨rfl, _⟩ | ⟨b2, rfl⟩ <;> (conv => whnf))
                    | (refine NewG.st (St.refl _) (fun bt h' hs' => ?_); conv => whnf)
                    | refine AW.seq ?_
                    | (refine AW.region ?_; conv => whnf)
                    | refine AW.block ?_
                    | (refine AW.skip ?_; conv => whnf)
                    | (refine AW.ret ?_; conv => whnf)
                    | (refine AW.exit ?_; conv => whnf)
                    | refine AW.cond (by rfl) ?_
                    | (refine Br.tt ?_; conv => whnf)
                    | (refine Br.ff ?_; conv => whnf)
                    | refine Br.not ?_
                    | (refine Br.t (beq_self_eq_true _) ?_; conv => whnf)
                    | (refine Br.t (by assumption) ?_; conv => whnf)
                    | (refine Br.f (by assumption) ?_; conv => whnf)
                    | (refine Br.dt (by omega) ?_; conv => whnf)
                    | (refine Br.df (by omega) ?_; conv => whnf)
                    | (refine Br.it (by omega) ?_; conv => whnf)
                    | (refine Br.if (by omega) ?_; conv => whnf)
                    | (refine Br.nt (by omega) ?_; conv => whnf)
                    | (refine Br.nf (by omega) ?_; conv => whnf)
                    | (refine Br.dec (fun hc => ?_) (fun hc => ?_) <;> conv => whnf)
                    | (refine Br.ieq (fun hc => ?_) (fun hc => ?_) <;> conv => whnf)
                    | (refine Br.ine (fun hc => ?_) (fun hc => ?_) <;> conv => whnf)
                    | (refine Br.mk (fun hc => ?_) (fun hc => ?_) <;> conv => whnf)
                    | (refine Wr.i64 (by omega) ?_; conv => whnf)
                    | (refine Ck.mk (by omega) ?_; conv => whnf)
                    | (refine Wr.i64 (by simp only [List.length_drop, List.length_take, List.length_append, List.length_cons, List.length_nil]; omega) ?_; conv => whnf)
                    | (refine Ck.mk (by simp only [List.length_drop, List.length_take, List.length_append, List.length_cons, List.length_nil]; omega) ?_; conv => whnf)
                    | (refine NewG.st (by assumption) (fun bt h' hs' => ?_); conv => whnf)
                    | (refine Wr.u8 (by omega) ?_; conv => whnf)
                    | (refine Ck.mk (by simp; omega) ?_; conv => whnf))
                  all_goals exact RdRes.mkSome e (by omega) (by omega) (.node (St.has hs' (.head _)) ((m1.keep k2).keep hs'.keeps) (m2.keep hs'.keeps)) ((k1.trans k2).trans hs'.keeps)
                · have h3 : ((s.getD ((q : Nat) : Int).toNat 0).toNat : Int) ≠ 41 := by rw [i1]; exact fun h => c41 (u8_41.2 h)
                  have e : rd (k + 1) (s.drop a) = none := by rw [ea, rd_o4 c40 e1 e2' c41]
                  refine AC.enter Tryz.func133 Tryz.call133 rfl Tryz.ntmps133 (of_decide_eq_true (by rfl)) ?_
                  repeat' (first
                    | (refine (ih (a + 1) _ (by omega) (by omega) (by omega) _).mono ?_; rw [e1]; rintro v h1 r; obtain ⟨v1, rfl, m1, k1⟩ := RdRes.some hp2 r; have m1' := m1; rcases m1'.form with ⟨rfl, _⟩ | ⟨b1, rfl⟩ <;> (conv => whnf))
                    | (refine (ih p _ rfl (by omega) (by omega) _).mono ?_; rw [e2]; rintro v h2 r; obtain ⟨v2, rfl, m2, k2⟩ := RdRes.some hq2 r; have m2' := m2; rcases m2'.form with ⟨rfl, _⟩ | ⟨b2, rfl⟩ <;> (conv => whnf))
                    | refine AW.seq ?_
                    | (refine AW.region ?_; conv => whnf)
                    | refine AW.block ?_
                    | (refine AW.skip ?_; conv => whnf)
                    | (refine AW.ret ?_; conv => whnf)
                    | (refine AW.exit ?_; conv => whnf)
                    | refine AW.cond (by rfl) ?_
                    | (refine Br.tt ?_; conv => whnf)
                    | (refine Br.ff ?_; conv => whnf)
                    | refine Br.not ?_
                    | (refine Br.t (beq_self_eq_true _) ?_; conv => whnf)
                    | (refine Br.t (by assumption) ?_; conv => whnf)
                    | (refine Br.f (by assumption) ?_; conv => whnf)
                    | (refine Br.dt (by omega) ?_; conv => whnf)
                    | (refine Br.df (by omega) ?_; conv => whnf)
                    | (refine Br.it (by omega) ?_; conv => whnf)
                    | (refine Br.if (by omega) ?_; conv => whnf)
                    | (refine Br.nt (by omega) ?_; conv => whnf)
                    | (refine Br.nf (by omega) ?_; conv => whnf)
                    | (refine Br.dec (fun hc => ?_) (fun hc => ?_) <;> conv => whnf)
                    | (refine Br.ieq (fun hc => ?_) (fun hc => ?_) <;> conv => whnf)
                    | (refine Br.ine (fun hc => ?_) (fun hc => ?_) <;> conv => whnf)
                    | (refine Br.mk (fun hc => ?_) (fun hc => ?_) <;> conv => whnf)
                    | (refine Wr.i64 (by omega) ?_; conv => whnf)
                    | (refine Ck.mk (by omega) ?_; conv => whnf)
                    | (refine Wr.i64 (by simp only [List.length_drop, List.length_take, List.length_append, List.length_cons, List.length_nil]; omega) ?_; conv => whnf)
                    | (refine Ck.mk (by simp only [List.length_drop, List.length_take, List.length_append, List.length_cons, List.length_nil]; omega) ?_; conv => whnf)
                    | (refine NewG.st (by assumption) (fun bt h' hs' => ?_); conv => whnf)
                    | (refine Wr.u8 (by omega) ?_; conv => whnf)
                    | (refine Ck.mk (by simp; omega) ?_; conv => whnf))
                  all_goals exact RdRes.mkNone e (k1.trans k2)
              · have eq : s.drop q = [] := List.drop_eq_nil_of_le (by omega)
                have e2' := e2
                rw [eq] at e2'
                have e : rd (k + 1) (s.drop a) = none := by rw [ea, rd_o3 c40 e1 e2']
                refine AC.enter Tryz.func133 Tryz.call133 rfl Tryz.ntmps133 (of_decide_eq_true (by rfl)) ?_
                repeat' (first
                  | (refine (ih (a + 1) _ (by omega) (by omega) (by omega) _).mono ?_; rw [e1]; rintro v h1 r; obtain ⟨v1, rfl, m1, k1⟩ := RdRes.some hp2 r; have m1' := m1; rcases m1'.form with ⟨rfl, _⟩ | ⟨b1, rfl⟩ <;> (conv => whnf))
                  | (refine (ih p _ rfl (by omega) (by omega) _).mono ?_; rw [e2]; rintro v h2 r; obtain ⟨v2, rfl, m2, k2⟩ := RdRes.some hq2 r; have m2' := m2; rcases m2'.form with ⟨rfl, _⟩ | ⟨b2, rfl⟩ <;> (conv => whnf))
                  | refine AW.seq ?_
                  | (refine AW.region ?_; conv => whnf)
                  | refine AW.block ?_
                  | (refine AW.skip ?_; conv => whnf)
                  | (refine AW.ret ?_; conv => whnf)
                  | (refine AW.exit ?_; conv => whnf)
                  | refine AW.cond (by rfl) ?_
                  | (refine Br.tt ?_; conv => whnf)
                  | (refine Br.ff ?_; conv => whnf)
                  | refine Br.not ?_
                  | (refine Br.t (beq_self_eq_true _) ?_; conv => whnf)
                  | (refine Br.t (by assumption) ?_; conv => whnf)
                  | (refine Br.f (by assumption) ?_; conv => whnf)
                  | (refine Br.dt (by omega) ?_; conv => whnf)
                  | (refine Br.df (by omega) ?_; conv => whnf)
                  | (refine Br.it (by omega) ?_; conv => whnf)
                  | (refine Br.if (by omega) ?_; conv => whnf)
                  | (refine Br.nt (by omega) ?_; conv => whnf)
                  | (refine Br.nf (by omega) ?_; conv => whnf)
                  | (refine Br.dec (fun hc => ?_) (fun hc => ?_) <;> conv => whnf)
                  | (refine Br.ieq (fun hc => ?_) (fun hc => ?_) <;> conv => whnf)
                  | (refine Br.ine (fun hc => ?_) (fun hc => ?_) <;> conv => whnf)
                  | (refine Br.mk (fun hc => ?_) (fun hc => ?_) <;> conv => whnf)
                  | (refine Wr.i64 (by omega) ?_; conv => whnf)
                  | (refine Ck.mk (by omega) ?_; conv => whnf)
                  | (refine Wr.i64 (by simp only [List.length_drop, List.length_take, List.length_append, List.length_cons, List.length_nil]; omega) ?_; conv => whnf)
                  | (refine Ck.mk (by simp only [List.length_drop, List.length_take, List.length_append, List.length_cons, List.length_nil]; omega) ?_; conv => whnf)
                  | (refine NewG.st (by assumption) (fun bt h' hs' => ?_); conv => whnf)
                  | (refine Wr.u8 (by omega) ?_; conv => whnf)
                  | (refine Ck.mk (by simp; omega) ?_; conv => whnf))
                all_goals exact RdRes.mkNone e (k1.trans k2)
        · have h2 : ((s.getD ((a : Nat) : Int).toNat 0).toNat : Int) ≠ 40 := by rw [i0]; exact fun h => c40 (u8_40.2 h)
          have e : rd (k + 1) (s.drop a) = none := by rw [ea, rd_no c46 c40]
          refine AC.enter Tryz.func133 Tryz.call133 rfl Tryz.ntmps133 (of_decide_eq_true (by rfl)) ?_
          repeat' (first
            | refine AW.seq ?_
            | (refine AW.region ?_; conv => whnf)
            | refine AW.block ?_
            | (refine AW.skip ?_; conv => whnf)
            | (refine AW.ret ?_; conv => whnf)
            | (refine AW.exit ?_; conv => whnf)
            | refine AW.cond (by rfl) ?_
            | (refine Br.tt ?_; conv => whnf)
            | (refine Br.ff ?_; conv => whnf)
            | refine Br.not ?_
            | (refine Br.t (beq_self_eq_true _) ?_; conv => whnf)
            | (refine Br.t (by assumption) ?_; conv => whnf)
            | (refine Br.f (by assumption) ?_; conv => whnf)
            | (refine Br.dt (by omega) ?_; conv => whnf)
            | (refine Br.df (by omega) ?_; conv => whnf)
            | (refine Br.it (by omega) ?_; conv => whnf)
            | (refine Br.if (by omega) ?_; conv => whnf)
            | (refine Br.nt (by omega) ?_; conv => whnf)
            | (refine Br.nf (by omega) ?_; conv => whnf)
            | (refine Br.dec (fun hc => ?_) (fun hc => ?_) <;> conv => whnf)
            | (refine Br.ieq (fun hc => ?_) (fun hc => ?_) <;> conv => whnf)
            | (refine Br.ine (fun hc => ?_) (fun hc => ?_) <;> conv => whnf)
            | (refine Br.mk (fun hc => ?_) (fun hc => ?_) <;> conv => whnf)
            | (refine Wr.i64 (by omega) ?_; conv => whnf)
            | (refine Ck.mk (by omega) ?_; conv => whnf)
            | (refine Wr.i64 (by simp only [List.length_drop, List.length_take, List.length_append, List.length_cons, List.length_nil]; omega) ?_; conv => whnf)
            | (refine Ck.mk (by simp only [List.length_drop, List.length_take, List.length_append, List.length_cons, List.length_nil]; omega) ?_; conv => whnf)
            | (refine NewG.st (by assumption) (fun bt h' hs' => ?_); conv => whnf)
            | (refine Wr.u8 (by omega) ?_; conv => whnf)
            | (refine Ck.mk (by simp; omega) ?_; conv => whnf))
          exact RdRes.mkNone e (Keeps.refl _)
    · have e : rd (k + 1) (s.drop a) = none := by rw [List.drop_eq_nil_of_le (by omega)]; rfl
      refine AC.enter Tryz.func133 Tryz.call133 rfl Tryz.ntmps133 (of_decide_eq_true (by rfl)) ?_
      repeat' (first
        | refine AW.seq ?_
        | (refine AW.region ?_; conv => whnf)
        | refine AW.block ?_
        | (refine AW.skip ?_; conv => whnf)
        | (refine AW.ret ?_; conv => whnf)
        | (refine AW.exit ?_; conv => whnf)
        | refine AW.cond (by rfl) ?_
        | (refine Br.tt ?_; conv => whnf)
        | (refine Br.ff ?_; conv => whnf)
        | refine Br.not ?_
        | (refine Br.t (beq_self_eq_true _) ?_; conv => whnf)
        | (refine Br.t (by assumption) ?_; conv => whnf)
        | (refine Br.f (by assumption) ?_; conv => whnf)
        | (refine Br.dt (by omega) ?_; conv => whnf)
        | (refine Br.df (by omega) ?_; conv => whnf)
        | (refine Br.it (by omega) ?_; conv => whnf)
        | (refine Br.if (by omega) ?_; conv => whnf)
        | (refine Br.nt (by omega) ?_; conv => whnf)
        | (refine Br.nf (by omega) ?_; conv => whnf)
        | (refine Br.dec (fun hc => ?_) (fun hc => ?_) <;> conv => whnf)
        | (refine Br.ieq (fun hc => ?_) (fun hc => ?_) <;> conv => whnf)
        | (refine Br.ine (fun hc => ?_) (fun hc => ?_) <;> conv => whnf)
        | (refine Br.mk (fun hc => ?_) (fun hc => ?_) <;> conv => whnf)
        | (refine Wr.i64 (by omega) ?_; conv => whnf)
        | (refine Ck.mk (by omega) ?_; conv => whnf)
        | (refine Wr.i64 (by simp only [List.length_drop, List.length_take, List.length_append, List.length_cons, List.length_nil]; omega) ?_; conv => whnf)
        | (refine Ck.mk (by simp only [List.length_drop, List.length_take, List.length_append, List.length_cons, List.length_nil]; omega) ?_; conv => whnf)
        | (refine NewG.st (by assumption) (fun bt h' hs' => ?_); conv => whnf)
        | (refine Wr.u8 (by omega) ?_; conv => whnf)
        | (refine Ck.mk (by simp; omega) ?_; conv => whnf))
      exact RdRes.mkNone e (Keeps.refl _)

/-! texts that are trees -/
theorem treeOf_eq {s : List UInt8} (h : s.length ≤ 25) : treeOf s = match rd s.length s with
  | some (t, []) => some t
  | _ => none := if_pos h
theorem treeOf_len {s : List UInt8} (h : ¬ s.length ≤ 25) : treeOf s = none := if_neg h

def PsRes (o : Option BT) (h0 : H) (w : AV) (h' : H) : Prop := Keeps h0 h' ∧ match o with
  | none => w = .tup [.nilptr, .bool false]
  | some t => ∃ v, w = .tup [v, .bool true] ∧ TreeIn h' v t
set_option maxHeartbeats 1000000 in
theorem parseTree_ok (s : List UInt8) (h0 : H) : AC env 107 [.str s] h0 (PsRes (treeOf s) h0) := by
  by_cases hl : s.length ≤ 25
  · have te := treeOf_eq hl
    have rt := readTree_ok s (by omega) s.length 0 0 rfl (by omega) (by omega) h0
    rw [List.drop_zero] at rt
    cases e1 : rd s.length s with
    | none =>
      rw [e1] at rt te
      have te : treeOf s = none := te
      rw [te]
      refine AC.enter Tryz.func107 Tryz.call107 rfl Tryz.ntmps107 (of_decide_eq_true (by rfl)) ?_
      repeat' (first
        | (refine rt.mono ?_; rintro v h' r; obtain ⟨rfl, k1⟩ := RdRes.none r; conv => whnf)
        | refine AW.seq ?_
        | (refine AW.region ?_; conv => whnf)
        | refine AW.block ?_
        | (refine AW.skip ?_; conv => whnf)
        | (refine AW.ret ?_; conv => whnf)
        | (refine AW.exit ?_; conv => whnf)
        | refine AW.cond (by rfl) ?_
        | (refine (nodes_ok _ _ _ (by first | assumption | exact TreeIn.keep (by assumption) (by assumption)) (by omega)).mono ?_; rintro v h' ⟨rfl, e'⟩; subst h'; conv => whnf)
        | (refine Br.tt ?_; conv => whnf)
        | (refine Br.ff ?_; conv => whnf)
        | refine Br.not ?_
        | (refine Br.t (beq_self_eq_true _) ?_; conv => whnf)
        | (refine Br.t (by assumption) ?_; conv => whnf)
        | (refine Br.f (by assumption) ?_; conv => whnf)
        | (refine Br.dt (by omega) ?_; conv => whnf)
        | (refine Br.df (by omega) ?_; conv => whnf)
        | (refine Br.it (by omega) ?_; conv => whnf)
        | (refine Br.if (by omega) ?_; conv => whnf)
        | (refine Br.nt (by omega) ?_; conv => whnf)
        | (refine Br.nf (by omega) ?_; conv => whnf)
        | (refine Br.dec (fun hc => ?_) (fun hc => ?_) <;> conv => whnf)
        | (refine Br.ieq (fun hc => ?_) (fun hc => ?_) <;> conv => whnf)
        | (refine Br.ine (fun hc => ?_) (fun hc => ?_) <;> conv => whnf)
        | (refine Br.mk (fun hc => ?_) (fun hc => ?_) <;> conv => whnf)
        | (refine Wr.i64 (by omega) ?_; conv => whnf)
        | (refine Ck.mk (by omega) ?_; conv => whnf)
        | (refine Wr.i64 (by simp only [List.length_drop, List.length_take, List.length_append, List.length_cons, List.length_nil]; omega) ?_; conv => whnf)
        | (refine Ck.mk (by simp only [List.length_drop, List.length_take, List.length_append, List.length_cons, List.length_nil]; omega) ?_; conv => whnf)
        | (refine Ck.mk (by simp; omega) ?_; conv => whnf))
      exact ⟨k1, rfl⟩
    | some p1 =>
      obtain ⟨t, s1⟩ := p1
      have e1' := e1
      rw [← List.drop_zero (l := s), List.drop_zero (l := s)] at e1'
      obtain ⟨p, hp1, hp2, rfl⟩ := rd_at (a := 0) (by rw [List.drop_zero]; exact e1) (by omega)
      rw [e1] at rt te
      have st := rd_sound _ _ _ _ e1
      have tl := t.txt_length
      have sl := congrArg List.length st
      rw [List.length_append, List.length_drop] at sl
      by_cases hp : p = s.length
      · have ep : s.drop p = [] := List.drop_eq_nil_of_le (by omega)
        have te : treeOf s = some t := by rw [te, ep]
        rw [te]
        refine AC.enter Tryz.func107 Tryz.call107 rfl Tryz.ntmps107 (of_decide_eq_true (by rfl)) ?_
        repeat' (first
          | (refine rt.mono ?_; rintro v h1 r; obtain ⟨v1, rfl, m1, k1⟩ := RdRes.some hp2 r; have m1' := m1; rcases m1'.form with ⟨rfl, _⟩ | ⟨b1, rfl⟩ <;> (conv => whnf))
          | (refine (nodes_ok t _ _ m1 (by omega)).mono ?_; rintro w h' ⟨rfl, e'⟩; subst h'; conv => whnf)
          | refine AW.seq ?_
          | (refine AW.region ?_; conv => whnf)
          | refine AW.block ?_
          | (refine AW.skip ?_; conv => whnf)
          | (refine AW.ret ?_; conv => whnf)
          | (refine AW.exit ?_; conv => whnf)
          | refine AW.cond (by rfl) ?_
          | (refine (nodes_ok _ _ _ (by first | assumption | exact TreeIn.keep (by assumption) (by assumption)) (by omega)).mono ?_; rintro v h' ⟨rfl, e'⟩; subst h'; conv => whnf)
          | (refine Br.tt ?_; conv => whnf)
          | (refine Br.ff ?_; conv => whnf)
          | refine Br.not ?_
          | (refine Br.t (beq_self_eq_true _) ?_; conv => whnf)
          | (refine Br.t (by assumption) ?_; conv => whnf)
          | (refine Br.f (by assumption) ?_; conv => whnf)
          | (refine Br.dt (by omega) ?_; conv => whnf)
          | (refine Br.df (by omega) ?_; conv => whnf)
          | (refine Br.it (by omega) ?_; conv => whnf)
          | (refine Br.if (by omega) ?_; conv => whnf)
          | (refine Br.nt (by omega) ?_; conv => whnf)
          | (refine Br.nf (by omega) ?_; conv => whnf)
          | (refine Br.dec (fun hc => ?_) (fun hc => ?_) <;> conv => whnf)
          | (refine Br.ieq (fun hc => ?_) (fun hc => ?_) <;> conv => whnf)
          | (refine Br.ine (fun hc => ?_) (fun hc => ?_) <;> conv => whnf)
          | (refine Br.mk (fun hc => ?_) (fun hc => ?_) <;> conv => whnf)
          | (refine Wr.i64 (by omega) ?_; conv => whnf)
          | (refine Ck.mk (by omega) ?_; conv => whnf)
          | (refine Wr.i64 (by simp only [List.length_drop, List.length_take, List.length_append, List.length_cons, List.length_nil]; omega) ?_; conv => whnf)
          | (refine Ck.mk (by simp only [List.length_drop, List.length_take, List.length_append, List.length_cons, List.length_nil]; omega) ?_; conv => whnf)
          | (refine Ck.mk (by simp; omega) ?_; conv => whnf))
        all_goals exact ⟨k1, _, rfl, m1⟩
      · have te : treeOf s = none := by
          rw [te]
          have ea := drop_at (s := s) (a := p) (by omega)
          rw [ea]
        rw [te]
        refine AC.enter Tryz.func107 Tryz.call107 rfl Tryz.ntmps107 (of_decide_eq_true (by rfl)) ?_
        repeat' (first
          | (refine rt.mono ?_; rintro v h1 r; obtain ⟨v1, rfl, m1, k1⟩ := RdRes.some hp2 r; have m1' := m1; rcases m1'.form with ⟨rfl, _⟩ | ⟨b1, rfl⟩ <;> (conv => whnf))
          | refine AW.seq ?_
          | (refine AW.region ?_; conv => whnf)
          | refine AW.block ?_
          | (refine AW.skip ?_; conv => whnf)
          | (refine AW.ret ?_; conv => whnf)
          | (refine AW.exit ?_; conv => whnf)
          | refine AW.cond (by rfl) ?_
          | (refine (nodes_ok _ _ _ (by first | assumption | exact TreeIn.keep (by assumption) (by assumption)) (by omega)).mono ?_; rintro v h' ⟨rfl, e'⟩; subst h'; conv => whnf)
          | (refine Br.tt ?_; conv => whnf)
          | (refine Br.ff ?_; conv => whnf)
          | refine Br.not ?_
          | (refine Br.t (beq_self_eq_true _) ?_; conv => whnf)
          | (refine Br.t (by assumption) ?_; conv => whnf)
          | (refine Br.f (by assumption) ?_; conv => whnf)
          | (refine Br.dt (by omega) ?_; conv => whnf)
          | (refine Br.df (by omega) ?_; conv => whnf)
          | (refine Br.it (by omega) ?_; conv => whnf)
          | (refine Br.if (by omega) ?_; conv => whnf)
          | (refine Br.nt (by omega) ?_; conv => whnf)
          | (refine Br.nf (by omega) ?_; conv => whnf)
          | (refine Br.dec (fun hc => ?_) (fun hc => ?_) <;> conv => whnf)
          | (refine Br.ieq (fun hc => ?_) (fun hc => ?_) <;> conv => whnf)
          | (refine Br.ine (fun hc => ?_) (fun hc => ?_) <;> conv => whnf)
          | (refine Br.mk (fun hc => ?_) (fun hc => ?_) <;> conv => whnf)
          | (refine Wr.i64 (by omega) ?_; conv => whnf)
          | (refine Ck.mk (by omega) ?_; conv => whnf)
          | (refine Wr.i64 (by simp only [List.length_drop, List.length_take, List.length_append, List.length_cons, List.length_nil]; omega) ?_; conv => whnf)
          | (refine Ck.mk (by simp only [List.length_drop, List.length_take, List.length_append, List.length_cons, List.length_nil]; omega) ?_; conv => whnf)
          | (refine Ck.mk (by simp; omega) ?_; conv => whnf))
        all_goals exact ⟨k1, rfl⟩
  · rw [treeOf_len hl]
    refine AC.enter Tryz.func107 Tryz.call107 rfl Tryz.ntmps107 (of_decide_eq_true (by rfl)) ?_
    repeat' (first
      | refine AW.seq ?_
      | (refine AW.region ?_; conv => whnf)
      | refine AW.block ?_
      | (refine AW.skip ?_; conv => whnf)
      | (refine AW.ret ?_; conv => whnf)
      | (refine AW.exit ?_; conv => whnf)
      | refine AW.cond (by rfl) ?_
      | (refine (nodes_ok _ _ _ (by first | assumption | exact TreeIn.keep (by assumption) (by assumption)) (by omega)).mono ?_; rintro v h' ⟨rfl, e'⟩; subst h'; conv => whnf)
      | (refine Br.tt ?_; conv => whnf)
      | (refine Br.ff ?_; conv => whnf)
      | refine Br.not ?_
      | (refine Br.t (beq_self_eq_true _) ?_; conv => whnf)
      | (refine Br.t (by assumption) ?_; conv => whnf)
      | (refine Br.f (by assumption) ?_; conv => whnf)
      | (refine Br.dt (by omega) ?_; conv => whnf)
      | (refine Br.df (by omega) ?_; conv => whnf)
      | (refine Br.it (by omega) ?_; conv => whnf)
      | (refine Br.if (by omega) ?_; conv => whnf)
      | (refine Br.nt (by omega) ?_; conv => whnf)
      | (refine Br.nf (by omega) ?_; conv => whnf)
      | (refine Br.dec (fun hc => ?_) (fun hc => ?_) <;> conv => whnf)
      | (refine Br.ieq (fun hc => ?_) (fun hc => ?_) <;> conv => whnf)
      | (refine Br.ine (fun hc => ?_) (fun hc => ?_) <;> conv => whnf)
      | (refine Br.mk (fun hc => ?_) (fun hc => ?_) <;> conv => whnf)
      | (refine Wr.i64 (by omega) ?_; conv => whnf)
      | (refine Ck.mk (by omega) ?_; conv => whnf)
      | (refine Wr.i64 (by simp only [List.length_drop, List.length_take, List.length_append, List.length_cons, List.length_nil]; omega) ?_; conv => whnf)
      | (refine Ck.mk (by simp only [List.length_drop, List.length_take, List.length_append, List.length_cons, List.length_nil]; omega) ?_; conv => whnf)
      | (refine Ck.mk (by simp; omega) ?_; conv => whnf))
    exact ⟨Keeps.refl _, rfl⟩

def sizeO (o : Option BT) : Int := match o with
  | none => -1
  | some t => (t.size : Nat)
theorem iNodesOf_ok (s : List UInt8) (h0 : H) : AC env 99 [.str s] h0 fun v h' => v = .int .i64 (sizeO (treeOf s)) ∧ Keeps h0 h' := by
  cases e : treeOf s with
  | none =>
    refine AC.enter Tryz.func99 Tryz.call99 rfl Tryz.ntmps99 (of_decide_eq_true (by rfl)) ?_
    repeat' (first
      | (refine (parseTree_ok s _).mono ?_; rw [e]; rintro v h' ⟨k1, rfl⟩; conv => whnf)
      | refine AW.seq ?_
      | (refine AW.region ?_; conv => whnf)
      | refine AW.block ?_
      | (refine AW.skip ?_; conv => whnf)
      | (refine AW.ret ?_; conv => whnf)
      | (refine AW.exit ?_; conv => whnf)
      | refine AW.cond (by rfl) ?_
      | (refine (nodes_ok _ _ _ (by first | assumption | exact TreeIn.keep (by assumption) (by assumption)) (by omega)).mono ?_; rintro v h' ⟨rfl, e'⟩; subst h'; conv => whnf)
      | (refine Br.tt ?_; conv => whnf)
      | (refine Br.ff ?_; conv => whnf)
      | refine Br.not ?_
      | (refine Br.t (beq_self_eq_true _) ?_; conv => whnf)
      | (refine Br.t (by assumption) ?_; conv => whnf)
      | (refine Br.f (by assumption) ?_; conv => whnf)
      | (refine Br.dt (by omega) ?_; conv => whnf)
      | (refine Br.df (by omega) ?_; conv => whnf)
      | (refine Br.it (by omega) ?_; conv => whnf)
      | (refine Br.if (by omega) ?_; conv => whnf)
      | (refine Br.nt (by omega) ?_; conv => whnf)
      | (refine Br.nf (by omega) ?_; conv => whnf)
      | (refine Br.dec (fun hc => ?_) (fun hc => ?_) <;> conv => whnf)
      | (refine Br.ieq (fun hc => ?_) (fun hc => ?_) <;> conv => whnf)
      | (refine Br.ine (fun hc => ?_) (fun hc => ?_) <;> conv => whnf)
      | (refine Br.mk (fun hc => ?_) (fun hc => ?_) <;> conv => whnf)
      | (refine Wr.i64 (by omega) ?_; conv => whnf)
      | (refine Ck.mk (by omega) ?_; conv => whnf)
      | (refine Wr.i64 (by simp only [List.length_drop, List.length_take, List.length_append, List.length_cons, List.length_nil]; omega) ?_; conv => whnf)
      | (refine Ck.mk (by simp only [List.length_drop, List.length_take, List.length_append, List.length_cons, List.length_nil]; omega) ?_; conv => whnf)
      | (refine Ck.mk (by simp; omega) ?_; conv => whnf))
    exact ⟨rfl, k1⟩
  | some t =>
    have := (treeOf_some e).2
    refine AC.enter Tryz.func99 Tryz.call99 rfl Tryz.ntmps99 (of_decide_eq_true (by rfl)) ?_
    repeat' (first
      | (refine (parseTree_ok s _).mono ?_; rw [e]; rintro v h1 ⟨k1, v1, rfl, m1⟩; have m1' := m1; rcases m1'.form with ⟨rfl, _⟩ | ⟨b1, rfl⟩ <;> (conv => whnf))
      | (refine (nodes_ok t _ _ m1 (by omega)).mono ?_; rintro w h' ⟨rfl, e'⟩; subst h'; conv => whnf)
      | refine AW.seq ?_
      | (refine AW.region ?_; conv => whnf)
      | refine AW.block ?_
      | (refine AW.skip ?_; conv => whnf)
      | (refine AW.ret ?_; conv => whnf)
      | (refine AW.exit ?_; conv => whnf)
      | refine AW.cond (by rfl) ?_
      | (refine (nodes_ok _ _ _ (by first | assumption | exact TreeIn.keep (by assumption) (by assumption)) (by omega)).mono ?_; rintro v h' ⟨rfl, e'⟩; subst h'; conv => whnf)
      | (refine Br.tt ?_; conv => whnf)
      | (refine Br.ff ?_; conv => whnf)
      | refine Br.not ?_
      | (refine Br.t (beq_self_eq_true _) ?_; conv => whnf)
      | (refine Br.t (by assumption) ?_; conv => whnf)
      | (refine Br.f (by assumption) ?_; conv => whnf)
      | (refine Br.dt (by omega) ?_; conv => whnf)
      | (refine Br.df (by omega) ?_; conv => whnf)
      | (refine Br.it (by omega) ?_; conv => whnf)
      | (refine Br.if (by omega) ?_; conv => whnf)
      | (refine Br.nt (by omega) ?_; conv => whnf)
      | (refine Br.nf (by omega) ?_; conv => whnf)
      | (refine Br.dec (fun hc => ?_) (fun hc => ?_) <;> conv => whnf)
      | (refine Br.ieq (fun hc => ?_) (fun hc => ?_) <;> conv => whnf)
      | (refine Br.ine (fun hc => ?_) (fun hc => ?_) <;> conv => whnf)
      | (refine Br.mk (fun hc => ?_) (fun hc => ?_) <;> conv => whnf)
      | (refine Wr.i64 (by omega) ?_; conv => whnf)
      | (refine Ck.mk (by omega) ?_; conv => whnf)
      | (refine Wr.i64 (by simp only [List.length_drop, List.length_take, List.length_append, List.length_cons, List.length_nil]; omega) ?_; conv => whnf)
      | (refine Ck.mk (by simp only [List.length_drop, List.length_take, List.length_append, List.length_cons, List.length_nil]; omega) ?_; conv => whnf)
      | (refine Ck.mk (by simp; omega) ?_; conv => whnf))
    all_goals exact ⟨rfl, k1⟩

theorem rd_nil (k : Nat) : rd k [] = none := by
  cases k <;> rfl
theorem sIsBinary_ok (s : List UInt8) (h0 : H) : AC env 78 [.str s] h0 fun v h' => v = .bool (treeOf s).isSome ∧ h' = h0 := by
  by_cases hl : s.length ≤ 25
  · have te := treeOf_eq hl
    have rt := l6End_ok s (by omega) s.length 0 0 rfl (by omega) (by omega) h0
    rw [List.drop_zero] at rt
    cases e1 : rd s.length s with
    | none =>
      rw [e1] at rt te
      have te : treeOf s = none := te
      have ee : endO s none = -1 := rfl
      rw [ee] at rt
      refine AC.enter Tryz.func78 Tryz.call78 rfl Tryz.ntmps78 (of_decide_eq_true (by rfl)) ?_
      repeat' (first
        | (refine rt.mono ?_; rintro v h' ⟨rfl, e'⟩; subst h'; conv => whnf)
        | refine AW.seq ?_
        | (refine AW.region ?_; conv => whnf)
        | (refine AW.ret ?_; conv => whnf)
        | (refine Br.ff ?_; conv => whnf)
        | (refine Br.dt (by omega) ?_; conv => whnf))
      all_goals exact ⟨by rw [te]; rfl, rfl⟩
    | some p1 =>
      obtain ⟨t, s1⟩ := p1
      obtain ⟨p, hp1, hp2, rfl⟩ := rd_at (a := 0) (by rw [List.drop_zero]; exact e1) (by omega)
      have ne : s ≠ [] := fun h => by rw [h] at hp2; simp at hp2; omega
      rw [e1] at rt te
      rw [endO_at hp2] at rt
      by_cases hp : p = s.length
      · have ep : s.drop p = [] := List.drop_eq_nil_of_le (by omega)
        have te : treeOf s = some t := by rw [te, ep]
        have nb : (!(s == [])) = true := by simpa using ne
        refine AC.enter Tryz.func78 Tryz.call78 rfl Tryz.ntmps78 (of_decide_eq_true (by rfl)) ?_
        repeat' (first
          | (refine rt.mono ?_; rintro v h' ⟨rfl, e'⟩; subst h'; conv => whnf)
          | refine AW.seq ?_
          | (refine AW.region ?_; conv => whnf)
          | (refine AW.ret ?_; conv => whnf)
          | (refine Br.dt (by omega) ?_; conv => whnf))
        all_goals exact ⟨by rw [te]; simpa using ne, rfl⟩
      · have te : treeOf s = none := by
          rw [te]
          have ea := drop_at (s := s) (a := p) (by omega)
          rw [ea]
        refine AC.enter Tryz.func78 Tryz.call78 rfl Tryz.ntmps78 (of_decide_eq_true (by rfl)) ?_
        repeat' (first
          | (refine rt.mono ?_; rintro v h' ⟨rfl, e'⟩; subst h'; conv => whnf)
          | refine AW.seq ?_
          | (refine AW.region ?_; conv => whnf)
          | (refine AW.ret ?_; conv => whnf)
          | (refine Br.dt (by omega) ?_; conv => whnf)
          | (refine Br.df (by omega) ?_; conv => whnf))
        all_goals exact ⟨by rw [te]; rfl, rfl⟩
  · have te := treeOf_len hl
    refine AC.enter Tryz.func78 Tryz.call78 rfl Tryz.ntmps78 (of_decide_eq_true (by rfl)) ?_
    repeat' (first
      | refine AW.seq ?_
      | (refine AW.region ?_; conv => whnf)
      | (refine AW.ret ?_; conv => whnf)
      | (refine Br.ff ?_; conv => whnf)
      | (refine Br.df (by omega) ?_; conv => whnf))
    all_goals exact ⟨by rw [te]; rfl, rfl⟩

theorem sNodesOf_ok (s : List UInt8) (h0 : H) : AC env 34 [.str s] h0 fun v h' => v = .int .i64 (sizeO (treeOf s)) ∧ h' = h0 := by
  cases e : treeOf s with
  | none =>
    refine AC.enter Tryz.func34 Tryz.call34 rfl Tryz.ntmps34 (of_decide_eq_true (by rfl)) ?_
    repeat' (first
      | (refine (sIsBinary_ok s _).mono ?_; rw [e]; rintro v h' ⟨rfl, e'⟩; subst h'; conv => whnf)
      | refine AW.seq ?_
      | (refine AW.region ?_; conv => whnf)
      | (refine AW.ret ?_; conv => whnf)
      | refine AW.cond (by rfl) ?_
      | (refine Br.tt ?_; conv => whnf))
    exact ⟨rfl, rfl⟩
  | some t =>
    obtain ⟨es, hz⟩ := treeOf_some e
    have tl := t.txt_length
    have sl := congrArg List.length es
    have td : ((s.length : Int) - 1).tdiv 3 = t.size := by
      have e3 : (s.length : Int) - 1 = t.size * 3 := by omega
      rw [e3, Int.mul_tdiv_cancel _ (by decide)]
    refine AC.enter Tryz.func34 Tryz.call34 rfl Tryz.ntmps34 (of_decide_eq_true (by rfl)) ?_
    repeat' (first
      | (refine (sIsBinary_ok s _).mono ?_; rw [e]; rintro v h' ⟨rfl, e'⟩; subst h'; conv => whnf)
      | refine AW.seq ?_
      | (refine AW.region ?_; conv => whnf)
      | (refine AW.skip ?_; conv => whnf)
      | (refine AW.ret ?_; conv => whnf)
      | refine AW.cond (by rfl) ?_
      | (refine Br.ff ?_; conv => whnf)
      | (refine Wr.i64 (by omega) ?_; conv => whnf)
      | (refine Ck.mk (by omega) ?_; conv => whnf))
    exact ⟨by rw [td]; rfl, rfl⟩

end Go.Proofs.YtbicfognbbeigaaGreat
