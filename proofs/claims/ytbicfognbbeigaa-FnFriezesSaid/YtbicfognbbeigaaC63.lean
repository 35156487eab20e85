/-
  The law of the numbers of triangles at corners is proved.
  It holds for all rows of rows.
-/
import Derived.Test.YtbicfognbbeigaaC62
import Derived.Test.YtbicfognbbeigaaC65
set_option linter.unusedVariables false
set_option linter.unusedSimpArgs false
namespace Go.Proofs.Ytbicfognbbeigaa
open Go.Proofs.Ytbicfognbbeigaa.Ab Go.Proofs.Ytbicfognbbeigaa.Pl

/-! triangles have three corners -/
def Tri3 (N : Nat) (x : List Int) : Prop := ∃ a b c : Nat, x = [(a : Int), (b : Int), (c : Int)] ∧ a < b ∧ b < c ∧ c < N
theorem triR_three {N : Nat} {f : List (List Int)} : ∀ x ∈ triR N f, Tri3 N x := fun x hx => by
  unfold triR triOut at hx
  obtain ⟨a, ha, hx⟩ := List.mem_flatMap.1 hx
  unfold triMid at hx
  obtain ⟨b, hb, hx⟩ := List.mem_flatMap.1 hx
  split at hx
  · rename_i hab
    unfold triIn at hx
    obtain ⟨c, hc, rfl⟩ := List.mem_map.1 hx
    obtain ⟨hc, hp⟩ := List.mem_filter.1 hc
    unfold inP at hp
    have := (Bool.and_eq_true_iff.1 hp).1
    exact ⟨a, b, c, rfl, hab, of_decide_eq_true this, List.mem_range.1 hc⟩
  · cases hx
def hasV (v : Int) (x : List Int) : Bool := decide (x.getD 0 0 = v ∨ x.getD 1 0 = v ∨ x.getD 2 0 = v)
def cntT (T : List (List Int)) (v : Int) : Nat := T.countP (hasV v)
theorem cntT_le (T : List (List Int)) (v : Int) : cntT T v ≤ T.length := List.countP_le_length
theorem cntT_take {T : List (List Int)} {i : Nat} (v : Int) (h : i < T.length) : cntT (T.take (i + 1)) v = cntT (T.take i) v + if hasV v (T.getD i []) = true then 1 else 0 := by
  have e : T.getD i [] = T[i] := by simp [List.getD, h]
  rw [List.take_succ_eq_append_getElem h, e]
  unfold cntT
  rw [List.countP_append]
  simp [List.countP_cons]
theorem cntT_part (T : List (List Int)) (v : Int) (i : Nat) : cntT (T.take i) v ≤ cntT T v := by
  unfold cntT
  exact List.Sublist.countP_le (List.take_sublist _ _)
/-- how often a corner is among the first ones of a triangle -/
def parV (x : List Int) (k : Nat) (v : Int) : Nat := (x.take k).countP fun y => decide (y = v)
theorem parV_le (x : List Int) (k : Nat) (v : Int) : parV x k v ≤ k := Nat.le_trans List.countP_le_length (List.length_take_le _ _)
theorem parV_succ {x : List Int} {k : Nat} (v : Int) (h : k < x.length) : parV x (k + 1) v = parV x k v + if x.getD k 0 = v then 1 else 0 := by
  have e : x.getD k 0 = x[k] := by simp [List.getD, h]
  rw [e]
  unfold parV
  rw [List.take_succ_eq_append_getElem h, List.countP_append]
  simp [List.countP_cons]
theorem parV_all {N : Nat} {x : List Int} (h : Tri3 N x) (v : Int) : parV x 3 v = if hasV v x = true then 1 else 0 := by
  obtain ⟨a, b, c, rfl, h1, h2, h3⟩ := h
  unfold parV hasV
  simp only [List.take_succ_cons, List.take_zero, List.countP_cons, List.countP_nil, List.getD_cons_zero, List.getD_cons_succ, decide_eq_true_eq]
  repeat' split
  all_goals omega
def quidF (n : Int) (f : List (List Int)) : List Int := if 3 ≤ n ∧ isTri n f = true then tab n.toNat fun v => (cntT (triR n.toNat f) (v : Nat) : Nat) else []
theorem quidF_len (n : Int) (f : List (List Int)) : (quidF n f).length ≤ 10 := by
  unfold quidF
  split
  · rename_i h
    have := (isTri_spec h.2).1.1
    rw [tab_length]
    omega
  · simp
def RowRet (l : List Int) (h0 : H) (v : AV) (h' : H) : Prop := ∃ b, v = .slice b 0 l.length l.length ∧ New h0 h' b (ints l)
theorem RowRet.mk' {l m : List Int} {h0 h' : H} {L : List (Nat × Blk)} {b N : Nat} (e : l = m) (hN : N = m.length) (s : St h0 h' ((b, row (ints m)) :: L)) : RowRet l h0 (.slice b 0 N N) h' := by
  subst e hN
  exact ⟨b, rfl, s.toNew⟩
theorem three_of {x : List Int} {N : Nat} (h : Tri3 N x) : x.length = 3 := by
  obtain ⟨a, b, c, rfl, _⟩ := h
  rfl
theorem three_at {x : List Int} {N : Nat} (h : Tri3 N x) : ∀ k, k < 3 → 0 ≤ x.getD k 0 ∧ x.getD k 0 < N := by
  obtain ⟨a, b, c, rfl, h1, h2, h3⟩ := h
  intro k hk
  match k, hk with
  | 0, _ => simp only [List.getD_cons_zero]; omega
  | 1, _ => simp only [List.getD_cons_zero, List.getD_cons_succ]; omega
  | 2, _ => simp only [List.getD_cons_zero, List.getD_cons_succ]; omega

set_option maxHeartbeats 4000000 in
theorem iQuid_ok (n : Int) (R : RL) (f : List (List Int)) (b M C : Nat) (h0 : H) (hb : Grid h0 b R) (hR : rws R = f) (hM : M = f.length) (hl : M ≤ 1000000000) (hC : M ≤ C) (hn : -9223372036854775808 ≤ n ∧ n ≤ 9223372036854775807) :
    AC env 6 [.int .i64 n, .slice b 0 M C] h0 (RowRet (quidF n f) h0) := by
  have hs := St.refl h0
  by_cases h3 : 3 ≤ n
  · by_cases ht : isTri n f = true
    · have e : quidF n f = tab n.toNat fun v => (cntT (triR n.toNat f) (v : Nat) : Nat) := if_pos ⟨h3, ht⟩
      have te : trisF n f = (triR n.toNat f, true) := if_pos ht
      obtain ⟨N, rfl⟩ := isTri_int ht
      rw [Int.toNat_natCast] at e te
      have sz := tri_size ht
      obtain ⟨_, z2, _, _⟩ := tri_tree ht
      have t3 := triR_three (N := N) (f := f)
      generalize triR N f = T at *
      refine AC.enter Try.func6 Try.call6 rfl Try.ntmps6 (of_decide_eq_true (by rfl)) ?_
      repeat' (first
        | (refine (iIsTri_ok (N : Int) R f _ _ _ _ (hb.arg (by assumption)) hR hM (by omega) hC (by omega)).mono ?_; rw [ht]; rintro v h' ⟨rfl, e'⟩; subst h'; conv => whnf)
        | (refine (iTris_ok (N : Int) R f _ _ _ _ (hb.arg (by assumption)) hR hM (by omega) hC (by omega)).mono ?_; rw [te]; rintro v h2 ⟨bT, CT, RT, rfl, hRT, lRT, hsT⟩; have hs2 := St.callR (by assumption) hsT; clear hsT; have hRT : rws RT = T := hRT; have lRT : List.length RT = T.length := lRT; conv => whnf)
        | refine AW.seq ?_
        | (refine AW.region ?_; conv => whnf)
        | refine AW.block ?_
        | (refine AW.skip ?_; conv => whnf)
        | refine AW.cond (by rfl) ?_
        | (refine Br.ff ?_; conv => whnf)
        | (refine Br.df (by omega) ?_; conv => whnf)
        | (refine NewG.stZ (by assumption) rfl (fun bt h' hs' => ?_); conv => whnf)
        | (refine Ck.slice (by omega) (by omega) (by omega) (by decide) ?_; conv => whnf))
      have hs2 : St h0 h2 ((bT, row (slcs RT)) :: (blks RT ++ [(bt, row (ints (tab N fun _ => 0)))])) := by
        have e0 : tab N (fun _ => 0) = List.replicate ((N : Nat) : Int).toNat 0 := by rw [Int.toNat_natCast, tab_replicate]
        rw [e0]
        exact hs2
      refine AW.loop1 (fun (i : Nat) => [(5, .slice bt 0 N N), (29, .slice bT 0 T.length CT), (30, .int .i64 T.length), (31, .int .i64 i)]) (fun i h' => i ≤ T.length ∧ St h0 h' ((bT, row (slcs RT)) :: (blks RT ++ [(bt, row (ints (tab N fun v => (cntT (T.take i) (v : Nat) : Nat))))]))) (fun i => T.length - i) 0
        (Less.cons rfl (Less.cons rfl (Less.cons rfl (Less.cons rfl (Less.nil _))))) ⟨by omega, hs2⟩ ?_
      rintro i h3 ⟨hi, hs3⟩
      clear hs2
      by_cases hlt : i < T.length
      · have gT := St.gridAt hs3 .here
        have hm : Tri3 N (T.getD i []) := t3 _ (by rw [show T.getD i [] = T[i] by simp [List.getD, hlt]]; exact List.getElem_mem hlt)
        have ll := three_of hm
        have la := three_at hm
        have pa := parV_all hm
        repeat' (first
          | (refine Grid.rowAt gT hRT i rfl (by omega) (by omega) ll ?_; conv => whnf)
          | refine AW.seq ?_
          | (refine AW.region ?_; conv => whnf)
          | refine AW.block ?_
          | (refine AW.skip ?_; conv => whnf)
          | refine AW.cond (by rfl) ?_
          | (refine Br.dt (by omega) ?_; conv => whnf)
          | (refine Ck.mk (by omega) ?_; conv => whnf))
        refine AW.loop1 (fun (k : Nat) => [(5, .slice bt 0 N N), (29, .slice bT 0 T.length CT), (30, .int .i64 T.length), (31, .int .i64 i), (35, .slice (rb RT i) 0 3 3), (36, .int .i64 3), (37, .int .i64 k)]) (fun k h' => k ≤ 3 ∧ St h0 h' ((bT, row (slcs RT)) :: (blks RT ++ [(bt, row (ints (tab N fun v => (cntT (T.take i) (v : Nat) + parV (T.getD i []) k (v : Nat) : Nat))))]))) (fun k => 3 - k) 0
          (Less.cons rfl (Less.cons rfl (Less.cons rfl (Less.cons rfl (Less.cons rfl (Less.cons rfl (Less.cons rfl (Less.nil _)))))))) ⟨by omega, hs3⟩ ?_
        rintro k h4 ⟨hk, hs4⟩
        clear hs3 gT
        by_cases hlt2 : k < 3
        · have gT := St.gridAt hs4 .here
          have lk := la k hlt2
          have el : ent T i k = (T.getD i []).getD k 0 := rfl
          obtain ⟨y, hy⟩ := Int.eq_ofNat_of_zero_le lk.1
          have hy2 : ent T i k = (y : Nat) := by rw [el]; exact hy
          have yN : y < N := by omega
          have cl := cntT_le (T.take i) (y : Nat)
          have tl : (T.take i).length ≤ T.length := List.length_take_le' _ _
          have pl := parV_le (T.getD i []) k (y : Nat)
          have tg := tab_getD (fun v => (cntT (T.take i) (v : Nat) + parV (T.getD i []) k (v : Nat) : Nat)) yN
          repeat' (first
            | (refine Grid.numAt gT hRT i k rfl (by omega) (by omega) (by omega) ?_; rw [hy2]; conv => whnf)
            | (refine Has.loadZ (St.has hs4 (List.mem_cons_of_mem _ (List.mem_append_right _ (.head _)))) rfl (by rw [tab_length]; omega) ?_; rw [show ((y : Nat) : Int).toNat = y from Int.toNat_natCast y, tg]; conv => whnf)
            | (refine StoreG.stZ hs4 (.there (Spot.app .here)) rfl (by rw [tab_length]; omega) (fun h' hs' => ?_); conv => whnf)
            | refine AW.seq ?_
            | (refine AW.region ?_; conv => whnf)
            | refine AW.block ?_
            | (refine AW.skip ?_; conv => whnf)
            | refine AW.cond (by rfl) ?_
            | (refine Br.dt (by omega) ?_; conv => whnf)
            | (refine Wr.i64 (by omega) ?_; conv => whnf)
            | (refine Ck.mk (by omega) ?_; conv => whnf))
          refine ⟨k + 1, (Less.cons rfl (Less.cons rfl (Less.cons rfl (Less.cons rfl (Less.cons rfl (Less.cons rfl (Less.cons rfl (Less.nil _)))))))), ⟨by omega, ?_⟩, by omega⟩
          have et : (tab N fun v => (cntT (T.take i) (v : Nat) + parV (T.getD i []) k (v : Nat) : Nat)).set ((y : Nat) : Int).toNat (((cntT (T.take i) (y : Nat) + parV (T.getD i []) k (y : Nat) : Nat) : Int) + 1) = tab N fun v => (cntT (T.take i) (v : Nat) + parV (T.getD i []) (k + 1) (v : Nat) : Nat) := by
            rw [Int.toNat_natCast, tab_set]
            refine tab_congr fun v hv => ?_
            have ps := parV_succ (x := T.getD i []) (k := k) (v : Nat) (by omega)
            rw [hy] at ps
            by_cases c : v = y
            · rw [if_pos c]
              subst c
              rw [if_pos rfl] at ps
              omega
            · rw [if_neg c]
              rw [if_neg (by omega)] at ps
              omega
          rw [et] at hs'
          exact hs'
        · obtain rfl : k = 3 := by omega
          repeat' (first
            | refine AW.seq ?_
            | (refine AW.region ?_; conv => whnf)
            | (refine AW.exit ?_; conv => whnf)
            | refine AW.cond (by rfl) ?_
            | (refine Br.ff ?_; conv => whnf)
            | (refine Wr.i64 (by omega) ?_; conv => whnf))
          refine ⟨i + 1, (Less.cons rfl (Less.cons rfl (Less.cons rfl (Less.cons rfl (Less.nil _))))), ⟨by omega, ?_⟩, by omega⟩
          have et : (tab N fun v => (cntT (T.take i) (v : Nat) + parV (T.getD i []) 3 (v : Nat) : Nat)) = tab N fun v => (cntT (T.take (i + 1)) (v : Nat) : Nat) := by
            refine tab_congr fun v hv => ?_
            rw [cntT_take _ hlt, pa]
          rw [et] at hs4
          exact hs4
      · obtain rfl : i = T.length := by omega
        rw [List.take_length] at hs3
        repeat' (first
          | refine AW.seq ?_
          | (refine AW.region ?_; conv => whnf)
          | (refine AW.ret ?_; conv => whnf)
          | (refine AW.exit ?_; conv => whnf)
          | refine AW.cond (by rfl) ?_
          | (refine Br.df (by omega) ?_; conv => whnf))
        refine RowRet.mk' e (tab_length _ _).symm (L := []) ?_
        exact hs3.tail.sub (List.sublist_append_right _ _)
    · have e : quidF n f = [] := if_neg fun a => ht a.2
      have ht : isTri n f = false := by simpa using ht
      refine AC.enter Try.func6 Try.call6 rfl Try.ntmps6 (of_decide_eq_true (by rfl)) ?_
      repeat' (first
        | (refine (iIsTri_ok n R f _ _ _ _ (hb.arg (by assumption)) hR hM (by omega) hC (by omega)).mono ?_; rw [ht]; rintro v h' ⟨rfl, e'⟩; subst h'; conv => whnf)
        | refine AW.seq ?_
        | (refine AW.region ?_; conv => whnf)
        | (refine AW.ret ?_; conv => whnf)
        | refine AW.cond (by rfl) ?_
        | (refine Br.tt ?_; conv => whnf)
        | (refine Br.df (by omega) ?_; conv => whnf)
        | (refine NewG.st (by assumption) (fun bt h' hs' => ?_); conv => whnf))
      all_goals exact RowRet.mk' (m := []) e rfl hs'
  · have e : quidF n f = [] := if_neg fun a => h3 a.1
    refine AC.enter Try.func6 Try.call6 rfl Try.ntmps6 (of_decide_eq_true (by rfl)) ?_
    repeat' (first
      | refine AW.seq ?_
      | (refine AW.region ?_; conv => whnf)
      | (refine AW.ret ?_; conv => whnf)
      | refine AW.cond (by rfl) ?_
      | (refine Br.tt ?_; conv => whnf)
      | (refine Br.dt (by omega) ?_; conv => whnf)
      | (refine NewG.st (by assumption) (fun bt h' hs' => ?_); conv => whnf))
    all_goals exact RowRet.mk' (m := []) e rfl hs'

set_option maxHeartbeats 4000000 in
theorem sQuid_ok (n : Int) (R : RL) (f : List (List Int)) (b M C : Nat) (h0 : H) (hb : Grid h0 b R) (hR : rws R = f) (hM : M = f.length) (hl : M ≤ 1000000000) (hn : -9223372036854775808 ≤ n ∧ n ≤ 9223372036854775807) :
    AC env 8 [.int .i64 n, .slice b 0 M C] h0 (RowRet (quidF n f) h0) := by
  have hs := St.refl h0
  by_cases h3 : 3 ≤ n
  · by_cases ht : isTri n f = true
    · have e : quidF n f = tab n.toNat fun v => (cntT (triR n.toNat f) (v : Nat) : Nat) := if_pos ⟨h3, ht⟩
      have te : trisF n f = (triR n.toNat f, true) := if_pos ht
      obtain ⟨N, rfl⟩ := isTri_int ht
      rw [Int.toNat_natCast] at e te
      have sz := tri_size ht
      obtain ⟨_, z2, _, _⟩ := tri_tree ht
      have t3 := triR_three (N := N) (f := f)
      generalize triR N f = T at *
      refine AC.enter Try.func8 Try.call8 rfl Try.ntmps8 (of_decide_eq_true (by rfl)) ?_
      repeat' (first
        | (refine (sTris_ok (N : Int) R f _ _ _ _ (hb.arg (by assumption)) hR hM (by omega) (by omega)).mono ?_; rw [te]; rintro v h2 ⟨bT, CT, RT, rfl, hRT, lRT, hsT⟩; have hs2 := St.callR (by assumption) hsT; clear hsT; have hRT : rws RT = T := hRT; have lRT : List.length RT = T.length := lRT; conv => whnf)
        | refine AW.seq ?_
        | (refine AW.region ?_; conv => whnf)
        | refine AW.block ?_
        | (refine AW.skip ?_; conv => whnf)
        | refine AW.cond (by rfl) ?_
        | (refine Br.df (by omega) ?_; conv => whnf)
        | (refine NewG.st (by assumption) (fun bt h' hs' => ?_); conv => whnf))
      refine AW.loop2 (fun (v bo : Nat) => [(0, .int .i64 N), (5, .slice bo 0 v v), (6, .slice bT 0 T.length CT), (7, .bool true), (8, .int .i64 v)]) (fun v bo h' => v ≤ N ∧ St h0 h' ((bT, row (slcs RT)) :: (blks RT ++ [(bo, row (ints (tab v fun v => (cntT T (v : Nat) : Nat))))]))) (fun v _ => N - v) 0 bt
        (Less.cons rfl (Less.cons rfl (Less.cons rfl (Less.cons rfl (Less.cons rfl (Less.nil _)))))) ⟨by omega, hs2⟩ ?_
      rintro v bo h3 ⟨hv, hs3⟩
      clear hs2
      by_cases hlt : v < N
      · have gT := St.gridAt hs3 .here
        repeat' (first
          | refine AW.seq ?_
          | (refine AW.region ?_; conv => whnf)
          | refine AW.block ?_
          | (refine AW.skip ?_; conv => whnf)
          | refine AW.cond (by rfl) ?_
          | (refine Br.tt ?_; conv => whnf)
          | (refine Br.dt (by omega) ?_; conv => whnf))
        refine AW.loop2 (fun (i c : Nat) => [(0, .int .i64 N), (5, .slice bo 0 v v), (6, .slice bT 0 T.length CT), (7, .bool true), (8, .int .i64 v), (9, .int .i64 c), (10, .int .i64 i)]) (fun i c h' => i ≤ T.length ∧ c = cntT (T.take i) (v : Nat) ∧ h' = h3) (fun i _ => T.length - i) 0 0
          (Less.cons rfl (Less.cons rfl (Less.cons rfl (Less.cons rfl (Less.cons rfl (Less.cons rfl (Less.cons rfl (Less.nil _)))))))) ⟨by omega, rfl, rfl⟩ ?_
        rintro i c h4 ⟨hi, hc0, rfl⟩
        have cl := cntT_part T (v : Nat) i
        have cm := cntT_le T (v : Nat)
        by_cases hlt2 : i < T.length
        · have hm : Tri3 N (T.getD i []) := t3 _ (by rw [show T.getD i [] = T[i] by simp [List.getD, hlt2]]; exact List.getElem_mem hlt2)
          have ll := three_of hm
          have ct := cntT_take (T := T) (v : Nat) hlt2
          have hd : hasV (v : Nat) (T.getD i []) = decide (ent T i 0 = (v : Nat) ∨ ent T i 1 = (v : Nat) ∨ ent T i 2 = (v : Nat)) := rfl
          by_cases q : ent T i 0 = (v : Nat) ∨ ent T i 1 = (v : Nat) ∨ ent T i 2 = (v : Nat)
          · rw [decide_eq_true q] at hd
            rw [if_pos hd] at ct
            repeat' (first
              | (refine Grid.rowAt gT hRT i rfl rfl (by omega) ll ?_; conv => whnf)
              | (refine Grid.numAt gT hRT i 0 rfl rfl (by omega) (by omega) ?_; conv => whnf)
              | (refine Grid.numAt gT hRT i 1 rfl rfl (by omega) (by omega) ?_; conv => whnf)
              | (refine Grid.numAt gT hRT i 2 rfl rfl (by omega) (by omega) ?_; conv => whnf)
              | refine AW.seq ?_
              | (refine AW.region ?_; conv => whnf)
              | refine AW.block ?_
              | (refine AW.skip ?_; conv => whnf)
              | refine AW.cond (by rfl) ?_
              | (refine Br.tt ?_; conv => whnf)
              | (refine Br.dt (by omega) ?_; conv => whnf)
              | (refine Br.df (by omega) ?_; conv => whnf)
              | (refine Br.dec (fun hc => ?_) (fun hc => ?_) <;> conv => whnf)
              | (refine Wr.i64 (by omega) ?_; conv => whnf)
              | (refine Ck.mk (by omega) ?_; conv => whnf))
            all_goals exact ⟨i + 1, c + 1, (Less.cons rfl (Less.cons rfl (Less.cons rfl (Less.cons rfl (Less.cons rfl (Less.cons rfl (Less.cons rfl (Less.nil _)))))))), ⟨by omega, by omega, rfl⟩, by omega⟩
          · rw [decide_eq_false q] at hd
            rw [hd, if_neg (by decide)] at ct
            repeat' (first
              | (refine Grid.rowAt gT hRT i rfl rfl (by omega) ll ?_; conv => whnf)
              | (refine Grid.numAt gT hRT i 0 rfl rfl (by omega) (by omega) ?_; conv => whnf)
              | (refine Grid.numAt gT hRT i 1 rfl rfl (by omega) (by omega) ?_; conv => whnf)
              | (refine Grid.numAt gT hRT i 2 rfl rfl (by omega) (by omega) ?_; conv => whnf)
              | refine AW.seq ?_
              | (refine AW.region ?_; conv => whnf)
              | refine AW.block ?_
              | (refine AW.skip ?_; conv => whnf)
              | refine AW.cond (by rfl) ?_
              | (refine Br.dt (by omega) ?_; conv => whnf)
              | (refine Br.df (by omega) ?_; conv => whnf)
              | (refine Wr.i64 (by omega) ?_; conv => whnf)
              | (refine Ck.mk (by omega) ?_; conv => whnf))
            all_goals exact ⟨i + 1, c, (Less.cons rfl (Less.cons rfl (Less.cons rfl (Less.cons rfl (Less.cons rfl (Less.cons rfl (Less.cons rfl (Less.nil _)))))))), ⟨by omega, by omega, rfl⟩, by omega⟩
        · obtain rfl : i = T.length := by omega
          rw [List.take_length] at hc0
          repeat' (first
            | (refine AppG.stZ (by assumption) (by intro b'; repeat first | exact .here | apply Spot.there | apply Spot.app) (by rw [tab_length]) (by rw [tab_length]; omega) (by decide) (fun b' h' hs' => ?_); conv => whnf)
            | refine AW.seq ?_
            | (refine AW.region ?_; conv => whnf)
            | (refine AW.exit ?_; conv => whnf)
            | refine AW.cond (by rfl) ?_
            | (refine Br.df (by omega) ?_; conv => whnf)
            | (refine Wr.i64 (by omega) ?_; conv => whnf)
            | (refine NewG.st (by assumption) (fun bt h' hs' => ?_); conv => whnf)
            | (refine LoadsG.has (by first | assumption | exact St.has (by assumption) (by repeat first | exact .head _ | apply List.Mem.tail) | exact St.arg (by assumption) (by assumption)) (by simp) ?_; conv => whnf))
          refine ⟨v + 1, b', (Less.cons rfl (Less.cons rfl (Less.cons rfl (Less.cons rfl (Less.cons rfl (Less.nil _)))))), ⟨by omega, ?_⟩, by omega⟩
          rw [tab_succ, ← hc0]
          exact hs'.tail
      · obtain rfl : v = N := by omega
        repeat' (first
          | refine AW.seq ?_
          | (refine AW.region ?_; conv => whnf)
          | (refine AW.ret ?_; conv => whnf)
          | (refine AW.exit ?_; conv => whnf)
          | refine AW.cond (by rfl) ?_
          | (refine Br.ff ?_; conv => whnf)
          | (refine Br.df (by omega) ?_; conv => whnf))
        refine RowRet.mk' e (tab_length _ _).symm (L := []) ?_
        exact hs3.tail.sub (List.sublist_append_right _ _)
    · have e : quidF n f = [] := if_neg fun a => ht a.2
      have te : trisF n f = ([], false) := if_neg ht
      refine AC.enter Try.func8 Try.call8 rfl Try.ntmps8 (of_decide_eq_true (by rfl)) ?_
      repeat' (first
        | (refine (sTris_ok n R f _ _ _ _ (hb.arg (by assumption)) hR hM (by omega) (by omega)).mono ?_; rw [te]; rintro v h2 ⟨bT, CT, RT, rfl, hRT, lRT, hsT⟩; have hs2 := St.callR (by assumption) hsT; clear hsT; conv => whnf)
        | refine AW.seq ?_
        | (refine AW.region ?_; conv => whnf)
        | refine AW.block ?_
        | (refine AW.skip ?_; conv => whnf)
        | refine AW.cond (by rfl) ?_
        | (refine Br.df (by omega) ?_; conv => whnf)
        | (refine NewG.st (by assumption) (fun bt h' hs' => ?_); conv => whnf))
      refine AW.once ?_
      repeat' (first
        | refine AW.seq ?_
        | (refine AW.region ?_; conv => whnf)
        | (refine AW.ret ?_; conv => whnf)
        | (refine AW.exit ?_; conv => whnf)
        | refine AW.cond (by rfl) ?_
        | (refine Br.ff ?_; conv => whnf)
        | (refine Br.dt (by omega) ?_; conv => whnf))
      all_goals exact RowRet.mk' (m := []) (L := []) e rfl (hs2.tail.sub (List.sublist_append_right _ _))
  · have e : quidF n f = [] := if_neg fun a => h3 a.1
    refine AC.enter Try.func8 Try.call8 rfl Try.ntmps8 (of_decide_eq_true (by rfl)) ?_
    repeat' (first
      | refine AW.seq ?_
      | (refine AW.region ?_; conv => whnf)
      | (refine AW.ret ?_; conv => whnf)
      | refine AW.cond (by rfl) ?_
      | (refine Br.dt (by omega) ?_; conv => whnf)
      | (refine NewG.st (by assumption) (fun bt h' hs' => ?_); conv => whnf))
    all_goals exact RowRet.mk' (m := []) e rfl hs'


end Go.Proofs.Ytbicfognbbeigaa
