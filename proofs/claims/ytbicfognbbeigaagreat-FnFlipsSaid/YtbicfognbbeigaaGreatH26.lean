/-
  The law of the way to a fan is proved.
  It holds for all rows of rows.
-/
import Derived.Test.YtbicfognbbeigaaGreatC56
import Derived.Test.YtbicfognbbeigaaGreatC62
import Derived.Test.YtbicfognbbeigaaGreatH23
set_option linter.unusedVariables false
set_option linter.unusedSimpArgs false
namespace Go.Proofs.YtbicfognbbeigaaGreat
open Go.Proofs.YtbicfognbbeigaaGreat.Ab Go.Proofs.YtbicfognbbeigaaGreat.Pl

theorem rb3_last (S : RL3) (p : Nat × RL) (m : Nat) (h : S.length = m) : p.1 = rb3 (S ++ [p]) (m + 1 - 1) := by
  subst h
  rw [Nat.add_sub_cancel]
  unfold rb3
  rw [rl3_mid]
theorem way_same {N : Nat} {v : Int} {f : List (List Int)} {j : Nat} (h : upAt N v ((wayN N v f j).getLast?.getD []) = none) : wayN N v f (j + 1) = wayN N v f j := by
  rw [wayN, growW, h]

set_option maxHeartbeats 4000000 in
theorem sFanWay_ok (n : Int) (R : RL) (f : List (List Int)) (b M C : Nat) (v : Int) (h0 : H) (hb : Grid h0 b R) (hR : rws R = f) (hM : M = f.length) (hl : M ≤ 1000000000) (hn : (-9223372036854775808 ≤ n ∧ n ≤ 9223372036854775807) ∧ -9223372036854775808 ≤ v ∧ v ≤ 9223372036854775807) :
    AC env 17 [.int .i64 n, .slice b 0 M C, .int .i64 v] h0 (Ret3 (fanWay n f v) h0) := by
  have hs := St.refl h0
  have lR : R.length = M := by rw [hM, ← hR, rws_length]
  by_cases ok : isTri n f = true ∧ 0 ≤ v ∧ v ≤ n - 1
  · have e : fanWay n f v = (wayN n.toNat v f f.length, true) := if_pos ok
    obtain ⟨ht, hv⟩ := ok
    obtain ⟨N, rfl⟩ := isTri_nat ht
    rw [Int.toNat_natCast] at e
    have sz := tri_sz ht
    have two := tri_two ht
    refine AC.enter Tryz.func17 Tryz.call17 rfl Tryz.ntmps17 (of_decide_eq_true (by rfl)) ?_
    repeat' (first
      | (refine (sIsTri_ok (N : Int) R f _ _ _ _ (hb.arg (by assumption)) hR hM (by omega) (by omega)).mono ?_; rw [ht]; rintro w h' ⟨rfl, e'⟩; subst h'; conv => whnf)
      | (refine NewG.st (by assumption) (fun bt h1 hs1 => ?_); conv => whnf)
      | refine AW.seq ?_
      | (refine AW.region ?_; conv => whnf)
      | refine AW.block ?_
      | (refine AW.skip ?_; conv => whnf)
      | refine AW.cond (by rfl) ?_
      | (refine (l1In_ok _ _ _ _).mono ?_; rintro v h' ⟨rfl, e'⟩; subst h'; conv => whnf)
      | (refine Br.ff ?_; conv => whnf)
      | refine Br.not ?_
      | (refine Br.dt (by omega) ?_; conv => whnf)
      | (refine Wr.i64 (by omega) ?_; conv => whnf))
    rename_i bo h2 hs2
    refine AW.loop3 (fun (i bn : Nat) (T : RL) => [(0, .int .i64 N), (1, .slice b 0 M C), (2, .int .i64 v), (8, .slice bo 0 0 0), (9, .slice bn 0 i i), (10, .int .i64 i)]) (fun i bn T h' => i ≤ M ∧ T.length = i ∧ rws T = f.take i ∧ St h0 h' ((bn, row (slcs T)) :: (blks T ++ [(bo, row [])]))) (fun i _ _ => M - i) 0 bt []
      (Less.cons rfl (Less.cons rfl (Less.cons rfl (Less.cons rfl (Less.cons rfl (Less.cons rfl (Less.nil _))))))) ⟨by omega, rfl, rfl, hs1⟩ ?_
    rintro i bn T h3 ⟨hi, lT, hT, hs3⟩
    clear hs1 hs2 hs
    by_cases hlt : i < M
    · have hg := hb.arg hs3
      have er : f.getD i [] = rl R i := rws_at hR i
      have l3 : (f.getD i []).length = 2 := two i (by omega)
      have l4 : (rl R i).length = 2 := by rw [← er]; exact l3
      have ef : f.take (i + 1) = f.take i ++ [rl R i] := by
        rw [List.take_succ_eq_append_getElem (by omega), ← er]
        congr 2
        simp [List.getD, show i < f.length by omega]
      repeat' (first
        | (refine NewG.st hs3 (fun bx h2 hs2 => ?_); have hg2 := hb.arg hs2; conv => whnf)
        | (refine Grid.rowAt hg2 hR i rfl rfl (by omega) l3 ?_; conv => whnf)
        | (refine LoadsG.has (hg2.at (by omega)) (by rw [ints_length, l4]) ?_; conv => whnf)
        | (refine AppG.stZs (l := []) hs2 (by intro b'; exact .here) rfl (by simp) (by decide) (fun bl h4 hs4 => ?_); rw [List.nil_append] at hs4; conv => whnf)
        | (refine NewG.st hs4 (fun by_ h5 hs5 => ?_); conv => whnf)
        | (refine AppG.stR (l := rl R i) hs5.tail lT.symm (by rw [l4]) (by omega) (by decide) (fun b2 h' hs6 => ?_); conv => whnf)
        | refine AW.seq ?_
        | (refine AW.region ?_; conv => whnf)
        | refine AW.block ?_
        | (refine AW.skip ?_; conv => whnf)
        | refine AW.cond (by rfl) ?_
        | (refine Br.dt (by omega) ?_; conv => whnf)
        | (refine Wr.i64 (by omega) ?_; conv => whnf)
        | (refine Ck.mk (by omega) ?_; conv => whnf)
        | (refine LoadsG.has (by first | assumption | exact St.has (by assumption) (by repeat first | exact .head _ | apply List.Mem.tail) | exact St.arg (by assumption) (by assumption)) (by simp) ?_; conv => whnf))
      exact ⟨i + 1, b2, _, (Less.cons rfl (Less.cons rfl (Less.cons rfl (Less.cons rfl (Less.cons rfl (Less.cons rfl (Less.nil _))))))), ⟨by omega, by simp [lT], by rw [rws_append, hT, ef]; rfl, hs6⟩, by omega⟩
    · obtain rfl : i = M := by omega
      have hT : rws T = f := by rw [hT, hM, List.take_length]
      repeat' (first
        | (refine NewG.st hs3 (fun by_ h5 hs5 => ?_); conv => whnf)
        | (refine AppG.st3 (S := []) (L := []) hs5.tail rfl lT.symm (by decide) (by decide) (fun b2 h' hs6 => ?_); conv => whnf)
        | refine AW.seq ?_
        | (refine AW.region ?_; conv => whnf)
        | refine AW.block ?_
        | (refine AW.exit ?_; conv => whnf)
        | refine AW.cond (by rfl) ?_
        | (refine Br.df (by omega) ?_; conv => whnf)
        | (refine LoadsG.has (by first | assumption | exact St.has (by assumption) (by repeat first | exact .head _ | apply List.Mem.tail) | exact St.arg (by assumption) (by assumption)) (by simp) ?_; conv => whnf))
      refine AW.loop5 (fun (bo m s c : Nat) (S : RL3) => [(0, .int .i64 N), (1, .slice b 0 i C), (2, .int .i64 v), (8, .slice bo 0 m m), (9, .slice c 0 i i), (11, .int .i64 s)]) (fun bo m s c S h' => s ≤ i ∧ S.length = m ∧ c = rb3 S (m - 1) ∧ rw3 S = wayN N v f s ∧ St h0 h' ((bo, row (slc3 S)) :: (blk3 S ++ []))) (fun _ _ s _ _ => i - s) b2 1 0 bn [(bn, T)]
        (Less.cons rfl (Less.cons rfl (Less.cons rfl (Less.cons rfl (Less.cons rfl (Less.cons rfl (Less.nil _))))))) ⟨by omega, rfl, rfl, by simp [rw3, hT, wayN], hs6⟩ ?_
      rintro bo m s c S h1 ⟨hs_, lS, hc, hS, hs1⟩
      clear hs6 hs5 hs3
      have wo := way_ok (v := v) ht s
      have m1 : 1 ≤ m := by have := wo.pos; rw [← hS, rw3_length] at this; omega
      have wl := way_len (N := N) (v := v) (f := f) s
      have wm : (wayN N v f s).length = m := by rw [← hS, rw3_length, lS]
      by_cases hlt2 : s < i
      · have cb := St.cubeAt hs1 .here
        have le := (lastRows cb hS lS m1).2
        have lt := wo.tri _ (last_mem wo.pos)
        have wn : ∀ k, upAt N v ((wayN N v f s).getLast?.getD []) = some k → _ := fun k => way_next (N := N) (v := v) (f := f) (j := s) (k := k)
        have ws : upAt N v ((wayN N v f s).getLast?.getD []) = none → _ := way_same (N := N) (v := v) (f := f) (j := s)
        generalize eg : (wayN N v f s).getLast?.getD [] = g at *
        have sz2 := tri_sz lt
        have gM : g.length = i := by omega
        have gtwo := tri_two lt
        have dg := degR_le g v
        have lRL : (rl3 S (m - 1)).length = i := by rw [← rws_length, le, gM]
        clear cb
        repeat' (first
          | refine AW.seq ?_
          | (refine AW.region ?_; conv => whnf)
          | refine AW.block ?_
          | (refine AW.skip ?_; conv => whnf)
          | refine AW.cond (by rfl) ?_
          | (refine Br.dt (by omega) ?_; conv => whnf))
        refine AW.loop1 (fun (k : Nat) => [(0, .int .i64 N), (1, .slice b 0 i C), (2, .int .i64 v), (8, .slice bo 0 m m), (9, .slice c 0 i i), (11, .int .i64 s), (12, .int .i64 k)]) (fun k h' => k ≤ i ∧ (∀ q, q < k → upP N v g q = false) ∧ St h0 h' ((bo, row (slc3 S)) :: (blk3 S ++ []))) (fun k => i - k) 0
          (Less.cons rfl (Less.cons rfl (Less.cons rfl (Less.cons rfl (Less.cons rfl (Less.cons rfl (Less.cons rfl (Less.nil _)))))))) ⟨by omega, fun q hq => by omega, hs1⟩ ?_
        rintro k h2 ⟨hk, hno, hs2⟩
        clear hs1
        have cb := St.cubeAt hs2 .here
        obtain ⟨lg, _⟩ := lastRows cb hS lS m1
        rw [← hc] at lg
        by_cases hlt : k < i
        · have l2 : (g.getD k []).length = 2 := gtwo k (by omega)
          have ai := atV_iff v g k
          have ud : upP N v g k = (!(atV v (g.getD k [])) && decide (degR g v < degR (flipR N g k) v)) := rfl
          by_cases q : ent g k 0 = v ∨ ent g k 1 = v
          · rw [ai.2 q] at ud
            repeat' (first
              | (refine Grid.rowAt lg le k rfl rfl (by omega) l2 ?_; conv => whnf)
              | (refine Grid.num2 lg le k 0 rfl (by omega) l2 (by omega) ?_; conv => whnf)
              | (refine Grid.num2 lg le k 1 rfl (by omega) l2 (by omega) ?_; conv => whnf)
              | refine AW.seq ?_
              | (refine AW.region ?_; conv => whnf)
              | refine AW.block ?_
              | (refine AW.skip ?_; conv => whnf)
              | (refine AW.exit ?_; conv => whnf)
              | refine AW.cond (by rfl) ?_
              | (refine Br.tt ?_; conv => whnf)
              | (refine Br.dt (by omega) ?_; conv => whnf)
              | (refine Br.df (by omega) ?_; conv => whnf)
              | (refine Br.dec (fun hc => ?_) (fun hc => ?_) <;> conv => whnf)
              | (refine Wr.i64 (by omega) ?_; conv => whnf)
              | (refine Ck.mk (by omega) ?_; conv => whnf))
            all_goals
              refine ⟨k + 1, (Less.cons rfl (Less.cons rfl (Less.cons rfl (Less.cons rfl (Less.cons rfl (Less.cons rfl (Less.cons rfl (Less.nil _)))))))), ⟨by omega, fun q hq => ?_, hs2⟩, by omega⟩
              by_cases c : q = k
              · rw [c]; exact ud
              · exact hno q (by omega)
          · have av : atV v (g.getD k []) = false := by rw [Bool.eq_false_iff]; exact fun a => q (ai.1 a)
            rw [av] at ud
            have ft := (flip_fine lt (k := k) (by omega)).2
            have ftwo := tri_two ft
            have fl := flipR_len lt (k := k) (by omega)
            have dg2 := degR_le (flipR N g k) v
            by_cases up : degR g v < degR (flipR N g k) v
            · rw [decide_eq_true up] at ud
              have ua : upAt N v g = some k := find_first (by omega) ud hno
              have wn := wn k ua
              repeat' (first
                | (refine Grid.rowAt lg le k rfl rfl (by omega) l2 ?_; conv => whnf)
                | (refine Grid.num2 lg le k 0 rfl (by omega) l2 (by omega) ?_; conv => whnf)
                | (refine Grid.num2 lg le k 1 rfl (by omega) l2 (by omega) ?_; conv => whnf)
                | (refine (l21Flip_ok N _ g _ _ _ k _ lg le gM.symm lt (by omega)).mono ?_; rintro w h3 ⟨bF, RF, rfl, hRF, hLF, hsF⟩; have kF := St.keeps hsF; have hs3 := St.callR hs2 hsF; clear hsF; have gF := St.gridAt hs3 .here; have lg3 := lg.keep kF; conv => whnf)
                | (refine (sDeg_ok v RF (flipR N g k) _ _ _ _ gF hRF (by omega) (by omega) ftwo).mono ?_; rintro w h' ⟨rfl, e'⟩; subst h'; conv => whnf)
                | (refine (sDeg_ok v _ g _ _ _ _ lg3 le gM.symm (by omega) gtwo).mono ?_; rintro w h' ⟨rfl, e'⟩; subst h'; conv => whnf)
                | (refine NewG.st hs3 (fun by_ h5 hs5 => ?_); conv => whnf)
                | (refine AppG.st3 hs5.tail lS.symm hLF.symm (by omega) (by decide) (fun b2 h' hs6 => ?_); conv => whnf)
                | refine AW.seq ?_
                | (refine AW.region ?_; conv => whnf)
                | refine AW.block ?_
                | (refine AW.skip ?_; conv => whnf)
                | (refine AW.exit ?_; conv => whnf)
                | refine AW.cond (by rfl) ?_
                | (refine Br.dt (by omega) ?_; conv => whnf)
                | (refine Br.df (by omega) ?_; conv => whnf)
                | (refine Wr.i64 (by omega) ?_; conv => whnf)
                | (refine Ck.mk (by omega) ?_; conv => whnf)
                | (refine LoadsG.has (by first | assumption | exact St.has (by assumption) (by repeat first | exact .head _ | apply List.Mem.tail) | exact St.arg (by assumption) (by assumption)) (by simp) ?_; conv => whnf))
              refine ⟨b2, m + 1, s + 1, bF, _, (Less.cons rfl (Less.cons rfl (Less.cons rfl (Less.cons rfl (Less.cons rfl (Less.cons rfl (Less.nil _))))))), ⟨by omega, by simp [lS], rb3_last S (bF, RF) m lS, ?_, hs6⟩, by omega⟩
              rw [wn, rw3_append, hS]
              exact congrArg (fun x => wayN N v f s ++ [x]) hRF
            · rw [decide_eq_false up] at ud
              repeat' (first
                | (refine Grid.rowAt lg le k rfl rfl (by omega) l2 ?_; conv => whnf)
                | (refine Grid.num2 lg le k 0 rfl (by omega) l2 (by omega) ?_; conv => whnf)
                | (refine Grid.num2 lg le k 1 rfl (by omega) l2 (by omega) ?_; conv => whnf)
                | (refine (l21Flip_ok N _ g _ _ _ k _ lg le gM.symm lt (by omega)).mono ?_; rintro w h3 ⟨bF, RF, rfl, hRF, hLF, hsF⟩; have kF := St.keeps hsF; have hs3 := St.callR hs2 hsF; clear hsF; have gF := St.gridAt hs3 .here; have lg3 := lg.keep kF; conv => whnf)
                | (refine (sDeg_ok v RF (flipR N g k) _ _ _ _ gF hRF (by omega) (by omega) ftwo).mono ?_; rintro w h' ⟨rfl, e'⟩; subst h'; conv => whnf)
                | (refine (sDeg_ok v _ g _ _ _ _ lg3 le gM.symm (by omega) gtwo).mono ?_; rintro w h' ⟨rfl, e'⟩; subst h'; conv => whnf)
                | refine AW.seq ?_
                | (refine AW.region ?_; conv => whnf)
                | refine AW.block ?_
                | (refine AW.skip ?_; conv => whnf)
                | refine AW.cond (by rfl) ?_
                | (refine Br.dt (by omega) ?_; conv => whnf)
                | (refine Br.df (by omega) ?_; conv => whnf)
                | (refine Wr.i64 (by omega) ?_; conv => whnf)
                | (refine Ck.mk (by omega) ?_; conv => whnf))
              refine ⟨k + 1, (Less.cons rfl (Less.cons rfl (Less.cons rfl (Less.cons rfl (Less.cons rfl (Less.cons rfl (Less.cons rfl (Less.nil _)))))))), ⟨by omega, fun q hq => ?_, (hs3.tail).sub (List.sublist_append_right _ _)⟩, by omega⟩
              by_cases c : q = k
              · rw [c]; exact ud
              · exact hno q (by omega)
        · obtain rfl : k = i := by omega
          have ua : upAt N v g = none := find_none fun q hq => hno q (by omega)
          have ws := ws ua
          repeat' (first
            | refine AW.seq ?_
            | (refine AW.region ?_; conv => whnf)
            | (refine AW.exit ?_; conv => whnf)
            | refine AW.cond (by rfl) ?_
            | (refine Br.df (by omega) ?_; conv => whnf)
            | (refine Wr.i64 (by omega) ?_; conv => whnf))
          exact ⟨bo, m, s + 1, c, S, (Less.cons rfl (Less.cons rfl (Less.cons rfl (Less.cons rfl (Less.cons rfl (Less.cons rfl (Less.nil _))))))), ⟨by omega, lS, hc, by rw [ws]; exact hS, hs2⟩, by omega⟩
      · obtain rfl : s = i := by omega
        repeat' (first
          | refine AW.seq ?_
          | (refine AW.region ?_; conv => whnf)
          | (refine AW.ret ?_; conv => whnf)
          | (refine AW.exit ?_; conv => whnf)
          | refine AW.cond (by rfl) ?_
          | (refine Br.df (by omega) ?_; conv => whnf))
        exact Ret3.mk' (by rw [e, hS, ← hM]) lS.symm hs1
  · have e : fanWay n f v = ([], false) := if_neg ok
    by_cases ht : isTri n f = true
    · have hv : ¬ (0 ≤ v ∧ v ≤ n - 1) := fun a => ok ⟨ht, a⟩
      have sz := (isTri_spec ht).1.1
      refine AC.enter Tryz.func17 Tryz.call17 rfl Tryz.ntmps17 (of_decide_eq_true (by rfl)) ?_
      repeat' (first
        | (refine (sIsTri_ok n R f _ _ _ _ (hb.arg (by assumption)) hR hM (by omega) (by omega)).mono ?_; rw [ht]; rintro w h' ⟨rfl, e'⟩; subst h'; conv => whnf)
        | refine AW.seq ?_
        | (refine AW.region ?_; conv => whnf)
        | (refine AW.ret ?_; conv => whnf)
        | refine AW.cond (by rfl) ?_
        | (refine (l1In_ok _ _ _ _).mono ?_; rintro v h' ⟨rfl, e'⟩; subst h'; conv => whnf)
        | (refine Br.ff ?_; conv => whnf)
        | refine Br.not ?_
        | (refine Br.df (by omega) ?_; conv => whnf)
        | (refine Wr.i64 (by omega) ?_; conv => whnf)
        | (refine NewG.st (by assumption) (fun bt h' hs' => ?_); conv => whnf))
      all_goals exact Ret3.mk' (S := []) e rfl (nil3 hs')
    · have ht : isTri n f = false := by simpa using ht
      refine AC.enter Tryz.func17 Tryz.call17 rfl Tryz.ntmps17 (of_decide_eq_true (by rfl)) ?_
      repeat' (first
        | (refine (sIsTri_ok n R f _ _ _ _ (hb.arg (by assumption)) hR hM (by omega) (by omega)).mono ?_; rw [ht]; rintro w h' ⟨rfl, e'⟩; subst h'; conv => whnf)
        | refine AW.seq ?_
        | (refine AW.region ?_; conv => whnf)
        | (refine AW.ret ?_; conv => whnf)
        | refine AW.cond (by rfl) ?_
        | (refine Br.tt ?_; conv => whnf)
        | (refine NewG.st (by assumption) (fun bt h' hs' => ?_); conv => whnf))
      all_goals exact Ret3.mk' (S := []) e rfl (nil3 hs')


end Go.Proofs.YtbicfognbbeigaaGreat

/-
  The law of the numbers of triangles at corners is proved.
  It holds for all rows of rows.
-/
set_option linter.unusedVariables false
set_option linter.unusedSimpArgs false
namespace Go.Proofs.YtbicfognbbeigaaGreat
open Go.Proofs.YtbicfognbbeigaaGreat.Ab Go.Proofs.YtbicfognbbeigaaGreat.Pl

/-! triangles have three corners -/
def Tri3 (N : Nat) (x : List Int) : Prop := ∃ a b c : Nat, x = [(a : Int), (b : Int), (c : Int)] ∧ a < b ∧ b < c ∧ c < N
theorem triR_three {N : Nat} {f : List (List Int)} : ∀ x ∈ triR N f, Tri3 N x := fun x hx => by
  unfold triR triOut at hx
  obtain ⟨a, ha, hx⟩ := List.mem_flatMap.1 hx
  unfold triMid at hx
  obtain ⟨b, hb, hx⟩ := List.mem_flatMap.1 hx
  split at hx
  · rename_i hab
    unfold triIn at hx
    obtain ⟨c, hc, rfl⟩ := List.mem_map.1 hx
    obtain ⟨hc, hp⟩ := List.mem_filter.1 hc
    unfold inP at hp
    have := (Bool.and_eq_true_iff.1 hp).1
    exact ⟨a, b, c, rfl, hab, of_decide_eq_true this, List.mem_range.1 hc⟩
  · cases hx
def hasV (v : Int) (x : List Int) : Bool := decide (x.getD 0 0 = v ∨ x.getD 1 0 = v ∨ x.getD 2 0 = v)
def cntT (T : List (List Int)) (v : Int) : Nat := T.countP (hasV v)
theorem cntT_le (T : List (List Int)) (v : Int) : cntT T v ≤ T.length := List.countP_le_length
theorem cntT_take {T : List (List Int)} {i : Nat} (v : Int) (h : i < T.length) : cntT (T.take (i + 1)) v = cntT (T.take i) v + if hasV v (T.getD i []) = true then 1 else 0 := by
  have e : T.getD i [] = T[i] := by simp [List.getD, h]
  rw [List.take_succ_eq_append_getElem h, e]
  unfold cntT
  rw [List.countP_append]
  simp [List.countP_cons]
theorem cntT_part (T : List (List Int)) (v : Int) (i : Nat) : cntT (T.take i) v ≤ cntT T v := by
  unfold cntT
  exact List.Sublist.countP_le (List.take_sublist _ _)
/-- how often a corner is among the first ones of a triangle -/
def parV (x : List Int) (k : Nat) (v : Int) : Nat := (x.take k).countP fun y => decide (y = v)
theorem parV_le (x : List Int) (k : Nat) (v : Int) : parV x k v ≤ k := Nat.le_trans List.countP_le_length (List.length_take_le _ _)
theorem parV_succ {x : List Int} {k : Nat} (v : Int) (h : k < x.length) : parV x (k + 1) v = parV x k v + if x.getD k 0 = v then 1 else 0 := by
  have e : x.getD k 0 = x[k] := by simp [List.getD, h]
  rw [e]
  unfold parV
  rw [List.take_succ_eq_append_getElem h, List.countP_append]
  simp [List.countP_cons]
theorem parV_all {N : Nat} {x : List Int} (h : Tri3 N x) (v : Int) : parV x 3 v = if hasV v x = true then 1 else 0 := by
  obtain ⟨a, b, c, rfl, h1, h2, h3⟩ := h
  unfold parV hasV
  simp only [List.take_succ_cons, List.take_zero, List.countP_cons, List.countP_nil, List.getD_cons_zero, List.getD_cons_succ, decide_eq_true_eq]
  repeat' split
  all_goals omega
def quidF (n : Int) (f : List (List Int)) : List Int := if 3 ≤ n ∧ isTri n f = true then tab n.toNat fun v => (cntT (triR n.toNat f) (v : Nat) : Nat) else []
theorem quidF_len (n : Int) (f : List (List Int)) : (quidF n f).length ≤ 10 := by
  unfold quidF
  split
  · rename_i h
    have := (isTri_spec h.2).1.1
    rw [tab_length]
    omega
  · simp
def RowRet (l : List Int) (h0 : H) (v : AV) (h' : H) : Prop := ∃ b, v = .slice b 0 l.length l.length ∧ New h0 h' b (ints l)
theorem RowRet.mk' {l m : List Int} {h0 h' : H} {L : List (Nat × Blk)} {b N : Nat} (e : l = m) (hN : N = m.length) (s : St h0 h' ((b, row (ints m)) :: L)) : RowRet l h0 (.slice b 0 N N) h' := by
  subst e hN
  exact ⟨b, rfl, s.toNew⟩
theorem three_of {x : List Int} {N : Nat} (h : Tri3 N x) : x.length = 3 := by
  obtain ⟨a, b, c, rfl, _⟩ := h
  rfl
theorem three_at {x : List Int} {N : Nat} (h : Tri3 N x) : ∀ k, k < 3 → 0 ≤ x.getD k 0 ∧ x.getD k 0 < N := by
  obtain ⟨a, b, c, rfl, h1, h2, h3⟩ := h
  intro k hk
  match k, hk with
  | 0, _ => simp only [List.getD_cons_zero]; omega
  | 1, _ => simp only [List.getD_cons_zero, List.getD_cons_succ]; omega
  | 2, _ => simp only [List.getD_cons_zero, List.getD_cons_succ]; omega


set_option maxHeartbeats 4000000 in
theorem sQuid_ok (n : Int) (R : RL) (f : List (List Int)) (b M C : Nat) (h0 : H) (hb : Grid h0 b R) (hR : rws R = f) (hM : M = f.length) (hl : M ≤ 1000000000) (hn : -9223372036854775808 ≤ n ∧ n ≤ 9223372036854775807) :
    AC env 19 [.int .i64 n, .slice b 0 M C] h0 (RowRet (quidF n f) h0) := by
  have hs := St.refl h0
  by_cases h3 : 3 ≤ n
  · by_cases ht : isTri n f = true
    · have e : quidF n f = tab n.toNat fun v => (cntT (triR n.toNat f) (v : Nat) : Nat) := if_pos ⟨h3, ht⟩
      have te : trisF n f = (triR n.toNat f, true) := if_pos ht
      obtain ⟨N, rfl⟩ := isTri_int ht
      rw [Int.toNat_natCast] at e te
      have sz := tri_size ht
      obtain ⟨_, z2, _, _⟩ := tri_tree ht
      have t3 := triR_three (N := N) (f := f)
      generalize triR N f = T at *
      refine AC.enter Tryz.func19 Tryz.call19 rfl Tryz.ntmps19 (of_decide_eq_true (by rfl)) ?_
      repeat' (first
        | (refine (sTris_ok (N : Int) R f _ _ _ _ (hb.arg (by assumption)) hR hM (by omega) (by omega)).mono ?_; rw [te]; rintro v h2 ⟨bT, CT, RT, rfl, hRT, lRT, hsT⟩; have hs2 := St.callR (by assumption) hsT; clear hsT; have hRT : rws RT = T := hRT; have lRT : List.length RT = T.length := lRT; conv => whnf)
        | refine AW.seq ?_
        | (refine AW.region ?_; conv => whnf)
        | refine AW.block ?_
        | (refine AW.skip ?_; conv => whnf)
        | refine AW.cond (by rfl) ?_
        | (refine Br.df (by omega) ?_; conv => whnf)
        | (refine NewG.st (by assumption) (fun bt h' hs' => ?_); conv => whnf))
      refine AW.loop2 (fun (v bo : Nat) => [(0, .int .i64 N), (5, .slice bo 0 v v), (6, .slice bT 0 T.length CT), (7, .bool true), (8, .int .i64 v)]) (fun v bo h' => v ≤ N ∧ St h0 h' ((bT, row (slcs RT)) :: (blks RT ++ [(bo, row (ints (tab v fun v => (cntT T (v : Nat) : Nat))))]))) (fun v _ => N - v) 0 bt
        (Less.cons rfl (Less.cons rfl (Less.cons rfl (Less.cons rfl (Less.cons rfl (Less.nil _)))))) ⟨by omega, hs2⟩ ?_
      rintro v bo h3 ⟨hv, hs3⟩
      clear hs2
      by_cases hlt : v < N
      · have gT := St.gridAt hs3 .here
        repeat' (first
          | refine AW.seq ?_
          | (refine AW.region ?_; conv => whnf)
          | refine AW.block ?_
          | (refine AW.skip ?_; conv => whnf)
          | refine AW.cond (by rfl) ?_
          | (refine Br.tt ?_; conv => whnf)
          | (refine Br.dt (by omega) ?_; conv => whnf))
        refine AW.loop2 (fun (i c : Nat) => [(0, .int .i64 N), (5, .slice bo 0 v v), (6, .slice bT 0 T.length CT), (7, .bool true), (8, .int .i64 v), (9, .int .i64 c), (10, .int .i64 i)]) (fun i c h' => i ≤ T.length ∧ c = cntT (T.take i) (v : Nat) ∧ h' = h3) (fun i _ => T.length - i) 0 0
          (Less.cons rfl (Less.cons rfl (Less.cons rfl (Less.cons rfl (Less.cons rfl (Less.cons rfl (Less.cons rfl (Less.nil _)))))))) ⟨by omega, rfl, rfl⟩ ?_
        rintro i c h4 ⟨hi, hc0, rfl⟩
        have cl := cntT_part T (v : Nat) i
        have cm := cntT_le T (v : Nat)
        by_cases hlt2 : i < T.length
        · have hm : Tri3 N (T.getD i []) := t3 _ (by rw [show T.getD i [] = T[i] by simp [List.getD, hlt2]]; exact List.getElem_mem hlt2)
          have ll := three_of hm
          have ct := cntT_take (T := T) (v : Nat) hlt2
          have hd : hasV (v : Nat) (T.getD i []) = decide (ent T i 0 = (v : Nat) ∨ ent T i 1 = (v : Nat) ∨ ent T i 2 = (v : Nat)) := rfl
          by_cases q : ent T i 0 = (v : Nat) ∨ ent T i 1 = (v : Nat) ∨ ent T i 2 = (v : Nat)
          · rw [decide_eq_true q] at hd
            rw [if_pos hd] at ct
            repeat' (first
              | (refine Grid.rowAt gT hRT i rfl rfl (by omega) ll ?_; conv => whnf)
              | (refine Grid.numAt gT hRT i 0 rfl rfl (by omega) (by omega) ?_; conv => whnf)
              | (refine Grid.numAt gT hRT i 1 rfl rfl (by omega) (by omega) ?_; conv => whnf)
              | (refine Grid.numAt gT hRT i 2 rfl rfl (by omega) (by omega) ?_; conv => whnf)
              | refine AW.seq ?_
              | (refine AW.region ?_; conv => whnf)
              | refine AW.block ?_
              | (refine AW.skip ?_; conv => whnf)
              | refine AW.cond (by rfl) ?_
              | (refine Br.tt ?_; conv => whnf)
              | (refine Br.dt (by omega) ?_; conv => whnf)
              | (refine Br.df (by omega) ?_; conv => whnf)
              | (refine Br.dec (fun hc => ?_) (fun hc => ?_) <;> conv => whnf)
              | (refine Wr.i64 (by omega) ?_; conv => whnf)
              | (refine Ck.mk (by omega) ?_; conv => whnf))
            all_goals exact ⟨i + 1, c + 1, (Less.cons rfl (Less.cons rfl (Less.cons rfl (Less.cons rfl (Less.cons rfl (Less.cons rfl (Less.cons rfl (Less.nil _)))))))), ⟨by omega, by omega, rfl⟩, by omega⟩
          · rw [decide_eq_false q] at hd
            rw [hd, if_neg (by decide)] at ct
            repeat' (first
              | (refine Grid.rowAt gT hRT i rfl rfl (by omega) ll ?_; conv => whnf)
              | (refine Grid.numAt gT hRT i 0 rfl rfl (by omega) (by omega) ?_; conv => whnf)
              | (refine Grid.numAt gT hRT i 1 rfl rfl (by omega) (by omega) ?_; conv => whnf)
              | (refine Grid.numAt gT hRT i 2 rfl rfl (by omega) (by omega) ?_; conv => whnf)
              | refine AW.seq ?_
              | (refine AW.region ?_; conv => whnf)
              | refine AW.block ?_
              | (refine AW.skip ?_; conv => whnf)
              | refine AW.cond (by rfl) ?_
              | (refine Br.dt (by omega) ?_; conv => whnf)
              | (refine Br.df (by omega) ?_; conv => whnf)
              | (refine Wr.i64 (by omega) ?_; conv => whnf)
              | (refine Ck.mk (by omega) ?_; conv => whnf))
            all_goals exact ⟨i + 1, c, (Less.cons rfl (Less.cons rfl (Less.cons rfl (Less.cons rfl (Less.cons rfl (Less.cons rfl (Less.cons rfl (Less.nil _)))))))), ⟨by omega, by omega, rfl⟩, by omega⟩
        · obtain rfl : i = T.length := by omega
          rw [List.take_length] at hc0
          repeat' (first
            | (refine AppG.stZ (by assumption) (by intro b'; repeat first | exact .here | apply Spot.there | apply Spot.app) (by rw [tab_length]) (by rw [tab_length]; omega) (by decide) (fun b' h' hs' => ?_); conv => whnf)
            | refine AW.seq ?_
            | (refine AW.region ?_; conv => whnf)
            | (refine AW.exit ?_; conv => whnf)
            | refine AW.cond (by rfl) ?_
            | (refine Br.df (by omega) ?_; conv => whnf)
            | (refine Wr.i64 (by omega) ?_; conv => whnf)
            | (refine NewG.st (by assumption) (fun bt h' hs' => ?_); conv => whnf)
            | (refine LoadsG.has (by first | assumption | exact St.has (by assumption) (by repeat first | exact .head _ | apply List.Mem.tail) | exact St.arg (by assumption) (by assumption)) (by simp) ?_; conv => whnf))
          refine ⟨v + 1, b', (Less.cons rfl (Less.cons rfl (Less.cons rfl (Less.cons rfl (Less.cons rfl (Less.nil _)))))), ⟨by omega, ?_⟩, by omega⟩
          rw [tab_succ, ← hc0]
          exact hs'.tail
      · obtain rfl : v = N := by omega
        repeat' (first
          | refine AW.seq ?_
          | (refine AW.region ?_; conv => whnf)
          | (refine AW.ret ?_; conv => whnf)
          | (refine AW.exit ?_; conv => whnf)
          | refine AW.cond (by rfl) ?_
          | (refine Br.ff ?_; conv => whnf)
          | (refine Br.df (by omega) ?_; conv => whnf))
        refine RowRet.mk' e (tab_length _ _).symm (L := []) ?_
        exact hs3.tail.sub (List.sublist_append_right _ _)
    · have e : quidF n f = [] := if_neg fun a => ht a.2
      have te : trisF n f = ([], false) := if_neg ht
      refine AC.enter Tryz.func19 Tryz.call19 rfl Tryz.ntmps19 (of_decide_eq_true (by rfl)) ?_
      repeat' (first
        | (refine (sTris_ok n R f _ _ _ _ (hb.arg (by assumption)) hR hM (by omega) (by omega)).mono ?_; rw [te]; rintro v h2 ⟨bT, CT, RT, rfl, hRT, lRT, hsT⟩; have hs2 := St.callR (by assumption) hsT; clear hsT; conv => whnf)
        | refine AW.seq ?_
        | (refine AW.region ?_; conv => whnf)
        | refine AW.block ?_
        | (refine AW.skip ?_; conv => whnf)
        | refine AW.cond (by rfl) ?_
        | (refine Br.df (by omega) ?_; conv => whnf)
        | (refine NewG.st (by assumption) (fun bt h' hs' => ?_); conv => whnf))
      refine AW.once ?_
      repeat' (first
        | refine AW.seq ?_
        | (refine AW.region ?_; conv => whnf)
        | (refine AW.ret ?_; conv => whnf)
        | (refine AW.exit ?_; conv => whnf)
        | refine AW.cond (by rfl) ?_
        | (refine Br.ff ?_; conv => whnf)
        | (refine Br.dt (by omega) ?_; conv => whnf))
      all_goals exact RowRet.mk' (m := []) (L := []) e rfl (hs2.tail.sub (List.sublist_append_right _ _))
  · have e : quidF n f = [] := if_neg fun a => h3 a.1
    refine AC.enter Tryz.func19 Tryz.call19 rfl Tryz.ntmps19 (of_decide_eq_true (by rfl)) ?_
    repeat' (first
      | refine AW.seq ?_
      | (refine AW.region ?_; conv => whnf)
      | (refine AW.ret ?_; conv => whnf)
      | refine AW.cond (by rfl) ?_
      | (refine Br.dt (by omega) ?_; conv => whnf)
      | (refine NewG.st (by assumption) (fun bt h' hs' => ?_); conv => whnf))
    all_goals exact RowRet.mk' (m := []) e rfl hs'


end Go.Proofs.YtbicfognbbeigaaGreat
