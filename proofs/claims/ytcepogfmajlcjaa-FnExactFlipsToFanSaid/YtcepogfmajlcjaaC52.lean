/-
  Contracts of the reference's flips of diagonals are proved.
  They hold for all rows of rows.
-/
import Derived.Test.YtcepogfmajlcjaaC51
set_option linter.unusedVariables false
set_option linter.unusedSimpArgs false
namespace Go.Proofs.Ytcepogfmajlcjaa
open Go.Proofs.Ytcepogfmajlcjaa.Ab Go.Proofs.Ytcepogfmajlcjaa.Pl

theorem erase_take {f : List (List Int)} {i k : Nat} (h : i < f.length) : (f.take (i + 1)).eraseIdx k = if i = k then (f.take i).eraseIdx k else (f.take i).eraseIdx k ++ [f.getD i []] := by
  have e : f.getD i [] = f[i] := by simp [List.getD, h]
  have hl : (f.take i).length = i := by simp; omega
  rw [List.take_succ_eq_append_getElem h, e]
  split
  · rename_i c
    subst c
    rw [List.eraseIdx_append_of_length_le (by omega), hl, Nat.sub_self]
    simp [List.eraseIdx_of_length_le, hl]
  · rename_i c
    by_cases d : i < k
    · rw [List.eraseIdx_append_of_length_le (by omega), List.eraseIdx_of_length_le (l := f.take i) (by omega), List.eraseIdx_of_length_le (by simp; omega)]
    · rw [List.eraseIdx_append_of_lt_length (by omega)]

set_option maxHeartbeats 4000000 in
theorem l21Flip_ok (N : Nat) (R : RL) (f : List (List Int)) (b M C k : Nat) (h0 : H) (hb : Grid h0 b R) (hR : rws R = f) (hM : M = f.length) (ht : isTri N f = true) (hk : k < f.length) :
    AC env 71 [.int .i64 N, .slice b 0 M C, .int .i64 k] h0 fun v h' => ∃ b' R', v = .slice b' 0 M M ∧ rws R' = flipR N f k ∧ R'.length = M ∧ St h0 h' ((b', row (slcs R')) :: (blks R' ++ [])) := by
  have hs := St.refl h0
  have lR : R.length = M := by rw [hM, ← hR, rws_length]
  have sz := tri_sz ht
  have te := tri_ent ht hk
  have two := tri_two ht
  have l2 : (f.getD k []).length = 2 := two k hk
  have fl := flip_fine ht hk
  refine AC.enter Try.func71 Try.call71 rfl Try.ntmps71 (of_decide_eq_true (by rfl)) ?_
  repeat' (first
    | refine AW.seq ?_
    | (refine AW.region ?_; conv => whnf)
    | refine AW.block ?_
    | (refine AW.skip ?_; conv => whnf)
    | (refine AW.ret ?_; conv => whnf)
    | (refine AW.exit ?_; conv => whnf)
    | refine AW.cond (by rfl) ?_
    | (refine AW.draw (id := 15) (.p 0 (.p 1 (.p 2 (.p 4 (.p 5 (.r 3 [7, 8, 9] (.r 6 [7, 8, 9] (.all [7] fun _ => (.all [8] fun _ => (.p 9 .done)))))))))) (by kernel_rfl) (by kernel_rfl) ?_; conv => whnf)
    | (refine (l7Side_ok _ _ _ _ _ _ _ _ _ (St.gridAt (by assumption) (by repeat first | exact RSpot.here | apply RSpot.there | apply RSpot.app)) (by assumption) (by first | rfl | omega) (by omega) (by assumption) (by omega) (by omega)).mono ?_; rintro v h' ⟨rfl, e'⟩; subst h'; conv => whnf)
    | (refine Br.tt ?_; conv => whnf)
    | (refine Br.ff ?_; conv => whnf)
    | refine Br.not ?_
    | (refine Br.t (beq_self_eq_true _) ?_; conv => whnf)
    | (refine Br.t (by assumption) ?_; conv => whnf)
    | (refine Br.f (by assumption) ?_; conv => whnf)
    | (refine Br.dt (by omega) ?_; conv => whnf)
    | (refine Br.df (by omega) ?_; conv => whnf)
    | (refine Br.it (by omega) ?_; conv => whnf)
    | (refine Br.if (by omega) ?_; conv => whnf)
    | (refine Br.nt (by omega) ?_; conv => whnf)
    | (refine Br.nf (by omega) ?_; conv => whnf)
    | (refine Br.dec (fun hc => ?_) (fun hc => ?_) <;> conv => whnf)
    | (refine Br.ieq (fun hc => ?_) (fun hc => ?_) <;> conv => whnf)
    | (refine Br.ine (fun hc => ?_) (fun hc => ?_) <;> conv => whnf)
    | (refine Br.mk (fun hc => ?_) (fun hc => ?_) <;> conv => whnf)
    | (refine Wr.i64 (by omega) ?_; conv => whnf)
    | (refine Ck.mk (by omega) ?_; conv => whnf)
    | (refine Wr.i64 (by simp only [List.length_drop, List.length_take, List.length_append, List.length_cons, List.length_nil]; omega) ?_; conv => whnf)
    | (refine Ck.mk (by simp only [List.length_drop, List.length_take, List.length_append, List.length_cons, List.length_nil]; omega) ?_; conv => whnf)
    | (refine NewG.st (by assumption) (fun bt h' hs' => ?_); conv => whnf)
    | (refine Has.load1 (by first | assumption | exact St.has (by assumption) (by repeat first | exact .head _ | apply List.Mem.tail) | exact St.arg (by assumption) (by assumption)) ?_; conv => whnf)
    | (refine Has.loadZ (by first | assumption | exact St.has (by assumption) (by repeat first | exact .head _ | apply List.Mem.tail) | exact St.arg (by assumption) (by assumption)) rfl (by first | (simp; done) | omega | (simp only [List.length_set, List.length_append, List.length_cons, List.length_nil, List.length_replicate, tab_length]; omega) | (simp; omega)) ?_; conv => whnf)
    | (refine LoadsG.has (by first | assumption | exact St.has (by assumption) (by repeat first | exact .head _ | apply List.Mem.tail) | exact St.arg (by assumption) (by assumption)) (by simp) ?_; conv => whnf)
    | (refine AppG.stZ (by assumption) (by intro b'; repeat first | exact .here | apply Spot.there) (by first | (simp; done) | omega | (simp only [List.length_set, List.length_append, List.length_cons, List.length_nil, List.length_replicate, tab_length]; omega) | (simp; omega)) (by first | (simp; done) | omega | (simp only [List.length_set, List.length_append, List.length_cons, List.length_nil, List.length_replicate, tab_length]; omega) | (simp; omega)) (by decide) (fun b' h' hs' => ?_); conv => whnf)
    | (refine AppG.stZs (by assumption) (by intro b'; repeat first | exact .here | apply Spot.there) (by first | (simp; done) | omega | (simp only [List.length_set, List.length_append, List.length_cons, List.length_nil, List.length_replicate, tab_length]; omega) | (simp; omega)) (by first | (simp; done) | omega | (simp only [List.length_set, List.length_append, List.length_cons, List.length_nil, List.length_replicate, tab_length]; omega) | (simp; omega)) (by decide) (fun b' h' hs' => ?_); conv => whnf)
    | (refine Ck.mk (by simp; omega) ?_; conv => whnf))
  refine AW.loop4 (fun (i bo m : Nat) (S : RL) => [(0, .int .i64 N), (1, .slice b 0 M C), (2, .int .i64 k), (7, .slice bo 0 m m), (8, .int .i64 i)]) (fun i bo m S h' => i ≤ M ∧ S.length = m ∧ m ≤ i ∧ rws S = (f.take i).eraseIdx k ∧ St h0 h' ((bo, row (slcs S)) :: (blks S ++ []))) (fun i _ _ _ => M - i) 0 bt 0 []
    (Less.cons rfl (Less.cons rfl (Less.cons rfl (Less.cons rfl (Less.cons rfl (Less.nil _)))))) ⟨by omega, rfl, by omega, rfl, nilRows hs'⟩ ?_
  rintro i bo m S h1 ⟨hi, lS, hm, hS, hs1⟩
  clear hs' hs
  by_cases hlt : i < M
  · have et := erase_take (f := f) (i := i) (k := k) (by omega)
    by_cases q : i = k
    · rw [if_pos q] at et
      repeat' (first
        | refine AW.seq ?_
        | (refine AW.region ?_; conv => whnf)
        | refine AW.block ?_
        | (refine AW.skip ?_; conv => whnf)
        | (refine AW.ret ?_; conv => whnf)
        | (refine AW.exit ?_; conv => whnf)
        | refine AW.cond (by rfl) ?_
        | (refine AW.draw (id := 15) (.p 0 (.p 1 (.p 2 (.p 4 (.p 5 (.r 3 [7, 8, 9] (.r 6 [7, 8, 9] (.all [7] fun _ => (.all [8] fun _ => (.p 9 .done)))))))))) (by kernel_rfl) (by kernel_rfl) ?_; conv => whnf)
        | (refine (l7Side_ok _ _ _ _ _ _ _ _ _ (St.gridAt (by assumption) (by repeat first | exact RSpot.here | apply RSpot.there | apply RSpot.app)) (by assumption) (by first | rfl | omega) (by omega) (by assumption) (by omega) (by omega)).mono ?_; rintro v h' ⟨rfl, e'⟩; subst h'; conv => whnf)
        | (refine Br.tt ?_; conv => whnf)
        | (refine Br.ff ?_; conv => whnf)
        | refine Br.not ?_
        | (refine Br.t (beq_self_eq_true _) ?_; conv => whnf)
        | (refine Br.t (by assumption) ?_; conv => whnf)
        | (refine Br.f (by assumption) ?_; conv => whnf)
        | (refine Br.dt (by omega) ?_; conv => whnf)
        | (refine Br.df (by omega) ?_; conv => whnf)
        | (refine Br.it (by omega) ?_; conv => whnf)
        | (refine Br.if (by omega) ?_; conv => whnf)
        | (refine Br.nt (by omega) ?_; conv => whnf)
        | (refine Br.nf (by omega) ?_; conv => whnf)
        | (refine Br.dec (fun hc => ?_) (fun hc => ?_) <;> conv => whnf)
        | (refine Br.ieq (fun hc => ?_) (fun hc => ?_) <;> conv => whnf)
        | (refine Br.ine (fun hc => ?_) (fun hc => ?_) <;> conv => whnf)
        | (refine Br.mk (fun hc => ?_) (fun hc => ?_) <;> conv => whnf)
        | (refine Wr.i64 (by omega) ?_; conv => whnf)
        | (refine Ck.mk (by omega) ?_; conv => whnf)
        | (refine Wr.i64 (by simp only [List.length_drop, List.length_take, List.length_append, List.length_cons, List.length_nil]; omega) ?_; conv => whnf)
        | (refine Ck.mk (by simp only [List.length_drop, List.length_take, List.length_append, List.length_cons, List.length_nil]; omega) ?_; conv => whnf)
        | (refine NewG.st (by assumption) (fun bt h' hs' => ?_); conv => whnf)
        | (refine Has.load1 (by first | assumption | exact St.has (by assumption) (by repeat first | exact .head _ | apply List.Mem.tail) | exact St.arg (by assumption) (by assumption)) ?_; conv => whnf)
        | (refine Has.loadZ (by first | assumption | exact St.has (by assumption) (by repeat first | exact .head _ | apply List.Mem.tail) | exact St.arg (by assumption) (by assumption)) rfl (by first | (simp; done) | omega | (simp only [List.length_set, List.length_append, List.length_cons, List.length_nil, List.length_replicate, tab_length]; omega) | (simp; omega)) ?_; conv => whnf)
        | (refine LoadsG.has (by first | assumption | exact St.has (by assumption) (by repeat first | exact .head _ | apply List.Mem.tail) | exact St.arg (by assumption) (by assumption)) (by simp) ?_; conv => whnf)
        | (refine AppG.stZ (by assumption) (by intro b'; repeat first | exact .here | apply Spot.there) (by first | (simp; done) | omega | (simp only [List.length_set, List.length_append, List.length_cons, List.length_nil, List.length_replicate, tab_length]; omega) | (simp; omega)) (by first | (simp; done) | omega | (simp only [List.length_set, List.length_append, List.length_cons, List.length_nil, List.length_replicate, tab_length]; omega) | (simp; omega)) (by decide) (fun b' h' hs' => ?_); conv => whnf)
        | (refine AppG.stZs (by assumption) (by intro b'; repeat first | exact .here | apply Spot.there) (by first | (simp; done) | omega | (simp only [List.length_set, List.length_append, List.length_cons, List.length_nil, List.length_replicate, tab_length]; omega) | (simp; omega)) (by first | (simp; done) | omega | (simp only [List.length_set, List.length_append, List.length_cons, List.length_nil, List.length_replicate, tab_length]; omega) | (simp; omega)) (by decide) (fun b' h' hs' => ?_); conv => whnf)
        | (refine Ck.mk (by simp; omega) ?_; conv => whnf))
      exact ⟨i + 1, bo, m, S, (Less.cons rfl (Less.cons rfl (Less.cons rfl (Less.cons rfl (Less.cons rfl (Less.nil _)))))), ⟨by omega, lS, by omega, by rw [et]; exact hS, hs1⟩, by omega⟩
    · rw [if_neg q] at et
      have hg := hb.arg hs1
      have er : f.getD i [] = rl R i := rws_at hR i
      have l3 : (f.getD i []).length = 2 := two i (by omega)
      have l4 : (rl R i).length = 2 := by rw [← er]; exact l3
      repeat' (first
        | (refine NewG.st hs1 (fun bx h2 hs2 => ?_); have hg2 := hb.arg hs2; conv => whnf)
        | (refine Grid.rowAt hg2 hR i rfl rfl (by omega) l3 ?_; conv => whnf)
        | (refine LoadsG.has (hg2.at (by omega)) (by rw [ints_length, l4]) ?_; conv => whnf)
        | (refine AppG.stZs (l := []) hs2 (by intro b'; exact .here) rfl (by simp) (by decide) (fun bl h3 hs3 => ?_); rw [List.nil_append] at hs3; conv => whnf)
        | (refine NewG.st hs3 (fun by_ h4 hs4 => ?_); conv => whnf)
        | (refine AppG.stR (l := rl R i) hs4.tail lS.symm (by rw [l4]) (by omega) (by decide) (fun b2 h' hs5 => ?_); conv => whnf)
        | refine AW.seq ?_
        | (refine AW.region ?_; conv => whnf)
        | refine AW.block ?_
        | (refine AW.skip ?_; conv => whnf)
        | (refine AW.ret ?_; conv => whnf)
        | (refine AW.exit ?_; conv => whnf)
        | refine AW.cond (by rfl) ?_
        | (refine AW.draw (id := 15) (.p 0 (.p 1 (.p 2 (.p 4 (.p 5 (.r 3 [7, 8, 9] (.r 6 [7, 8, 9] (.all [7] fun _ => (.all [8] fun _ => (.p 9 .done)))))))))) (by kernel_rfl) (by kernel_rfl) ?_; conv => whnf)
        | (refine (l7Side_ok _ _ _ _ _ _ _ _ _ (St.gridAt (by assumption) (by repeat first | exact RSpot.here | apply RSpot.there | apply RSpot.app)) (by assumption) (by first | rfl | omega) (by omega) (by assumption) (by omega) (by omega)).mono ?_; rintro v h' ⟨rfl, e'⟩; subst h'; conv => whnf)
        | (refine Br.tt ?_; conv => whnf)
        | (refine Br.ff ?_; conv => whnf)
        | refine Br.not ?_
        | (refine Br.t (beq_self_eq_true _) ?_; conv => whnf)
        | (refine Br.t (by assumption) ?_; conv => whnf)
        | (refine Br.f (by assumption) ?_; conv => whnf)
        | (refine Br.dt (by omega) ?_; conv => whnf)
        | (refine Br.df (by omega) ?_; conv => whnf)
        | (refine Br.it (by omega) ?_; conv => whnf)
        | (refine Br.if (by omega) ?_; conv => whnf)
        | (refine Br.nt (by omega) ?_; conv => whnf)
        | (refine Br.nf (by omega) ?_; conv => whnf)
        | (refine Br.dec (fun hc => ?_) (fun hc => ?_) <;> conv => whnf)
        | (refine Br.ieq (fun hc => ?_) (fun hc => ?_) <;> conv => whnf)
        | (refine Br.ine (fun hc => ?_) (fun hc => ?_) <;> conv => whnf)
        | (refine Br.mk (fun hc => ?_) (fun hc => ?_) <;> conv => whnf)
        | (refine Wr.i64 (by omega) ?_; conv => whnf)
        | (refine Ck.mk (by omega) ?_; conv => whnf)
        | (refine Wr.i64 (by simp only [List.length_drop, List.length_take, List.length_append, List.length_cons, List.length_nil]; omega) ?_; conv => whnf)
        | (refine Ck.mk (by simp only [List.length_drop, List.length_take, List.length_append, List.length_cons, List.length_nil]; omega) ?_; conv => whnf)
        | (refine NewG.st (by assumption) (fun bt h' hs' => ?_); conv => whnf)
        | (refine Has.load1 (by first | assumption | exact St.has (by assumption) (by repeat first | exact .head _ | apply List.Mem.tail) | exact St.arg (by assumption) (by assumption)) ?_; conv => whnf)
        | (refine Has.loadZ (by first | assumption | exact St.has (by assumption) (by repeat first | exact .head _ | apply List.Mem.tail) | exact St.arg (by assumption) (by assumption)) rfl (by first | (simp; done) | omega | (simp only [List.length_set, List.length_append, List.length_cons, List.length_nil, List.length_replicate, tab_length]; omega) | (simp; omega)) ?_; conv => whnf)
        | (refine LoadsG.has (by first | assumption | exact St.has (by assumption) (by repeat first | exact .head _ | apply List.Mem.tail) | exact St.arg (by assumption) (by assumption)) (by simp) ?_; conv => whnf)
        | (refine AppG.stZ (by assumption) (by intro b'; repeat first | exact .here | apply Spot.there) (by first | (simp; done) | omega | (simp only [List.length_set, List.length_append, List.length_cons, List.length_nil, List.length_replicate, tab_length]; omega) | (simp; omega)) (by first | (simp; done) | omega | (simp only [List.length_set, List.length_append, List.length_cons, List.length_nil, List.length_replicate, tab_length]; omega) | (simp; omega)) (by decide) (fun b' h' hs' => ?_); conv => whnf)
        | (refine AppG.stZs (by assumption) (by intro b'; repeat first | exact .here | apply Spot.there) (by first | (simp; done) | omega | (simp only [List.length_set, List.length_append, List.length_cons, List.length_nil, List.length_replicate, tab_length]; omega) | (simp; omega)) (by first | (simp; done) | omega | (simp only [List.length_set, List.length_append, List.length_cons, List.length_nil, List.length_replicate, tab_length]; omega) | (simp; omega)) (by decide) (fun b' h' hs' => ?_); conv => whnf)
        | (refine Ck.mk (by simp; omega) ?_; conv => whnf))
      exact ⟨i + 1, b2, m + 1, _, (Less.cons rfl (Less.cons rfl (Less.cons rfl (Less.cons rfl (Less.cons rfl (Less.nil _)))))), ⟨by omega, by simp [lS], by omega, by rw [et, rws_append, hS, er]; rfl, hs5⟩, by omega⟩
  · obtain rfl : i = M := by omega
    have hS : rws S = f.eraseIdx k := by rw [hS, hM, List.take_length]
    have em : m + 1 = i := by
      rw [← lS, ← rws_length S, hS, List.length_eraseIdx, if_pos hk]
      omega
    repeat' (first
      | (refine NewG.st hs1 (fun be h2 hs2 => ?_); conv => whnf)
      | refine AW.seq ?_
      | (refine AW.region ?_; conv => whnf)
      | refine AW.block ?_
      | (refine AW.skip ?_; conv => whnf)
      | (refine AW.ret ?_; conv => whnf)
      | (refine AW.exit ?_; conv => whnf)
      | refine AW.cond (by rfl) ?_
      | (refine AW.draw (id := 15) (.p 0 (.p 1 (.p 2 (.p 4 (.p 5 (.r 3 [7, 8, 9] (.r 6 [7, 8, 9] (.all [7] fun _ => (.all [8] fun _ => (.p 9 .done)))))))))) (by kernel_rfl) (by kernel_rfl) ?_; conv => whnf)
      | (refine (l7Side_ok _ _ _ _ _ _ _ _ _ (St.gridAt (by assumption) (by repeat first | exact RSpot.here | apply RSpot.there | apply RSpot.app)) (by assumption) (by first | rfl | omega) (by omega) (by assumption) (by omega) (by omega)).mono ?_; rintro v h' ⟨rfl, e'⟩; subst h'; conv => whnf)
      | (refine Br.tt ?_; conv => whnf)
      | (refine Br.ff ?_; conv => whnf)
      | refine Br.not ?_
      | (refine Br.t (beq_self_eq_true _) ?_; conv => whnf)
      | (refine Br.t (by assumption) ?_; conv => whnf)
      | (refine Br.f (by assumption) ?_; conv => whnf)
      | (refine Br.dt (by omega) ?_; conv => whnf)
      | (refine Br.df (by omega) ?_; conv => whnf)
      | (refine Br.it (by omega) ?_; conv => whnf)
      | (refine Br.if (by omega) ?_; conv => whnf)
      | (refine Br.nt (by omega) ?_; conv => whnf)
      | (refine Br.nf (by omega) ?_; conv => whnf)
      | (refine Br.dec (fun hc => ?_) (fun hc => ?_) <;> conv => whnf)
      | (refine Br.ieq (fun hc => ?_) (fun hc => ?_) <;> conv => whnf)
      | (refine Br.ine (fun hc => ?_) (fun hc => ?_) <;> conv => whnf)
      | (refine Br.mk (fun hc => ?_) (fun hc => ?_) <;> conv => whnf)
      | (refine Wr.i64 (by omega) ?_; conv => whnf)
      | (refine Ck.mk (by omega) ?_; conv => whnf)
      | (refine Wr.i64 (by simp only [List.length_drop, List.length_take, List.length_append, List.length_cons, List.length_nil]; omega) ?_; conv => whnf)
      | (refine Ck.mk (by simp only [List.length_drop, List.length_take, List.length_append, List.length_cons, List.length_nil]; omega) ?_; conv => whnf)
      | (refine NewG.st (by assumption) (fun bt h' hs' => ?_); conv => whnf)
      | (refine Has.load1 (by first | assumption | exact St.has (by assumption) (by repeat first | exact .head _ | apply List.Mem.tail) | exact St.arg (by assumption) (by assumption)) ?_; conv => whnf)
      | (refine Has.loadZ (by first | assumption | exact St.has (by assumption) (by repeat first | exact .head _ | apply List.Mem.tail) | exact St.arg (by assumption) (by assumption)) rfl (by first | (simp; done) | omega | (simp only [List.length_set, List.length_append, List.length_cons, List.length_nil, List.length_replicate, tab_length]; omega) | (simp; omega)) ?_; conv => whnf)
      | (refine LoadsG.has (by first | assumption | exact St.has (by assumption) (by repeat first | exact .head _ | apply List.Mem.tail) | exact St.arg (by assumption) (by assumption)) (by simp) ?_; conv => whnf)
      | (refine AppG.stZ (by assumption) (by intro b'; repeat first | exact .here | apply Spot.there) (by first | (simp; done) | omega | (simp only [List.length_set, List.length_append, List.length_cons, List.length_nil, List.length_replicate, tab_length]; omega) | (simp; omega)) (by first | (simp; done) | omega | (simp only [List.length_set, List.length_append, List.length_cons, List.length_nil, List.length_replicate, tab_length]; omega) | (simp; omega)) (by decide) (fun b' h' hs' => ?_); conv => whnf)
      | (refine AppG.stZs (by assumption) (by intro b'; repeat first | exact .here | apply Spot.there) (by first | (simp; done) | omega | (simp only [List.length_set, List.length_append, List.length_cons, List.length_nil, List.length_replicate, tab_length]; omega) | (simp; omega)) (by first | (simp; done) | omega | (simp only [List.length_set, List.length_append, List.length_cons, List.length_nil, List.length_replicate, tab_length]; omega) | (simp; omega)) (by decide) (fun b' h' hs' => ?_); conv => whnf)
      | (refine Ck.mk (by simp; omega) ?_; conv => whnf))
    refine AW.loop3 (fun (c be p : Nat) => [(0, .int .i64 N), (1, .slice b 0 i C), (2, .int .i64 k), (7, .slice bo 0 m m), (9, .slice be 0 p p), (10, .int .i64 c)]) (fun c be p h' => c ≤ N ∧ (thU N f k c).length = p ∧ St h0 h' ((be, row (ints (thU N f k c))) :: (bo, row (slcs S)) :: (blks S ++ []))) (fun c _ _ => N - c) 0 be 0
      (Less.cons rfl (Less.cons rfl (Less.cons rfl (Less.cons rfl (Less.cons rfl (Less.cons rfl (Less.nil _))))))) ⟨by omega, rfl, hs2⟩ ?_
    rintro c be p h3 ⟨hc, hp, hs3⟩
    clear hs2 hs1
    have hg := hb.arg hs3
    have tl := thU_le N f k c
    by_cases hlt2 : c < N
    · have sc := thU_succ N f k c
      have pe : thP N f k c = (decide ((c : Int) ≠ ent f k 0) && decide ((c : Int) ≠ ent f k 1) && jnR N f (min (c : Int) (ent f k 0)) (max (c : Int) (ent f k 0)) && jnR N f (min (c : Int) (ent f k 1)) (max (c : Int) (ent f k 1))) := rfl
      by_cases q : (c : Int) = ent f k 0 ∨ (c : Int) = ent f k 1
      · have pf : thP N f k c = false := by
          rw [pe]
          rcases q with q | q
          · rw [decide_eq_false (by omega)]; rfl
          · rw [decide_eq_false (p := (c : Int) ≠ ent f k 1) (by omega), Bool.and_false]; rfl
        rw [pf] at sc
        repeat' (first
          | (refine Grid.rowAt hg hR k rfl rfl (by omega) l2 ?_; conv => whnf)
          | (refine Grid.num2 hg hR k 0 rfl (by omega) l2 (by omega) ?_; conv => whnf)
          | (refine Grid.num2 hg hR k 1 rfl (by omega) l2 (by omega) ?_; conv => whnf)
          | refine AW.seq ?_
          | (refine AW.region ?_; conv => whnf)
          | refine AW.block ?_
          | (refine AW.skip ?_; conv => whnf)
          | (refine AW.ret ?_; conv => whnf)
          | (refine AW.exit ?_; conv => whnf)
          | refine AW.cond (by rfl) ?_
          | (refine AW.draw (id := 15) (.p 0 (.p 1 (.p 2 (.p 4 (.p 5 (.r 3 [7, 8, 9] (.r 6 [7, 8, 9] (.all [7] fun _ => (.all [8] fun _ => (.p 9 .done)))))))))) (by kernel_rfl) (by kernel_rfl) ?_; conv => whnf)
          | (refine (l7Side_ok _ _ _ _ _ _ _ _ _ (St.gridAt (by assumption) (by repeat first | exact RSpot.here | apply RSpot.there | apply RSpot.app)) (by assumption) (by first | rfl | omega) (by omega) (by assumption) (by omega) (by omega)).mono ?_; rintro v h' ⟨rfl, e'⟩; subst h'; conv => whnf)
          | (refine Br.tt ?_; conv => whnf)
          | (refine Br.ff ?_; conv => whnf)
          | refine Br.not ?_
          | (refine Br.t (beq_self_eq_true _) ?_; conv => whnf)
          | (refine Br.t (by assumption) ?_; conv => whnf)
          | (refine Br.f (by assumption) ?_; conv => whnf)
          | (refine Br.dt (by omega) ?_; conv => whnf)
          | (refine Br.df (by omega) ?_; conv => whnf)
          | (refine Br.it (by omega) ?_; conv => whnf)
          | (refine Br.if (by omega) ?_; conv => whnf)
          | (refine Br.nt (by omega) ?_; conv => whnf)
          | (refine Br.nf (by omega) ?_; conv => whnf)
          | (refine Br.dec (fun hc => ?_) (fun hc => ?_) <;> conv => whnf)
          | (refine Br.ieq (fun hc => ?_) (fun hc => ?_) <;> conv => whnf)
          | (refine Br.ine (fun hc => ?_) (fun hc => ?_) <;> conv => whnf)
          | (refine Br.mk (fun hc => ?_) (fun hc => ?_) <;> conv => whnf)
          | (refine Wr.i64 (by omega) ?_; conv => whnf)
          | (refine Ck.mk (by omega) ?_; conv => whnf)
          | (refine Wr.i64 (by simp only [List.length_drop, List.length_take, List.length_append, List.length_cons, List.length_nil]; omega) ?_; conv => whnf)
          | (refine Ck.mk (by simp only [List.length_drop, List.length_take, List.length_append, List.length_cons, List.length_nil]; omega) ?_; conv => whnf)
          | (refine NewG.st (by assumption) (fun bt h' hs' => ?_); conv => whnf)
          | (refine Has.load1 (by first | assumption | exact St.has (by assumption) (by repeat first | exact .head _ | apply List.Mem.tail) | exact St.arg (by assumption) (by assumption)) ?_; conv => whnf)
          | (refine Has.loadZ (by first | assumption | exact St.has (by assumption) (by repeat first | exact .head _ | apply List.Mem.tail) | exact St.arg (by assumption) (by assumption)) rfl (by first | (simp; done) | omega | (simp only [List.length_set, List.length_append, List.length_cons, List.length_nil, List.length_replicate, tab_length]; omega) | (simp; omega)) ?_; conv => whnf)
          | (refine LoadsG.has (by first | assumption | exact St.has (by assumption) (by repeat first | exact .head _ | apply List.Mem.tail) | exact St.arg (by assumption) (by assumption)) (by simp) ?_; conv => whnf)
          | (refine AppG.stZ (by assumption) (by intro b'; repeat first | exact .here | apply Spot.there) (by first | (simp; done) | omega | (simp only [List.length_set, List.length_append, List.length_cons, List.length_nil, List.length_replicate, tab_length]; omega) | (simp; omega)) (by first | (simp; done) | omega | (simp only [List.length_set, List.length_append, List.length_cons, List.length_nil, List.length_replicate, tab_length]; omega) | (simp; omega)) (by decide) (fun b' h' hs' => ?_); conv => whnf)
          | (refine AppG.stZs (by assumption) (by intro b'; repeat first | exact .here | apply Spot.there) (by first | (simp; done) | omega | (simp only [List.length_set, List.length_append, List.length_cons, List.length_nil, List.length_replicate, tab_length]; omega) | (simp; omega)) (by first | (simp; done) | omega | (simp only [List.length_set, List.length_append, List.length_cons, List.length_nil, List.length_replicate, tab_length]; omega) | (simp; omega)) (by decide) (fun b' h' hs' => ?_); conv => whnf)
          | (refine Ck.mk (by simp; omega) ?_; conv => whnf))
        all_goals exact ⟨c + 1, be, p, (Less.cons rfl (Less.cons rfl (Less.cons rfl (Less.cons rfl (Less.cons rfl (Less.cons rfl (Less.nil _))))))), ⟨by omega, by rw [sc]; exact hp, by rw [sc]; exact hs3⟩, by omega⟩
      · rw [decide_eq_true (by omega), decide_eq_true (by omega), Bool.true_and, Bool.true_and] at pe
        cases j1 : jnR N f (min (c : Int) (ent f k 0)) (max (c : Int) (ent f k 0)) with
        | false =>
          rw [j1, Bool.false_and] at pe
          rw [pe] at sc
          repeat' (first
            | (refine Grid.rowAt hg hR k rfl rfl (by omega) l2 ?_; conv => whnf)
            | (refine Grid.num2 hg hR k 0 rfl (by omega) l2 (by omega) ?_; conv => whnf)
            | (refine Grid.num2 hg hR k 1 rfl (by omega) l2 (by omega) ?_; conv => whnf)
            | (refine (l7Side_ok (N : Int) R f _ _ _ (min (c : Int) (ent f k 0)) (max (c : Int) (ent f k 0)) _ hg hR hM (by omega) two (by omega) (by omega)).mono ?_; rw [j1]; rintro v h' ⟨rfl, e'⟩; subst h'; conv => whnf)
            | refine AW.seq ?_
            | (refine AW.region ?_; conv => whnf)
            | refine AW.block ?_
            | (refine AW.skip ?_; conv => whnf)
            | (refine AW.ret ?_; conv => whnf)
            | (refine AW.exit ?_; conv => whnf)
            | refine AW.cond (by rfl) ?_
            | (refine AW.draw (id := 15) (.p 0 (.p 1 (.p 2 (.p 4 (.p 5 (.r 3 [7, 8, 9] (.r 6 [7, 8, 9] (.all [7] fun _ => (.all [8] fun _ => (.p 9 .done)))))))))) (by kernel_rfl) (by kernel_rfl) ?_; conv => whnf)
            | (refine (l7Side_ok _ _ _ _ _ _ _ _ _ (St.gridAt (by assumption) (by repeat first | exact RSpot.here | apply RSpot.there | apply RSpot.app)) (by assumption) (by first | rfl | omega) (by omega) (by assumption) (by omega) (by omega)).mono ?_; rintro v h' ⟨rfl, e'⟩; subst h'; conv => whnf)
            | (refine Br.tt ?_; conv => whnf)
            | (refine Br.ff ?_; conv => whnf)
            | refine Br.not ?_
            | (refine Br.t (beq_self_eq_true _) ?_; conv => whnf)
            | (refine Br.t (by assumption) ?_; conv => whnf)
            | (refine Br.f (by assumption) ?_; conv => whnf)
            | (refine Br.dt (by omega) ?_; conv => whnf)
            | (refine Br.df (by omega) ?_; conv => whnf)
            | (refine Br.it (by omega) ?_; conv => whnf)
            | (refine Br.if (by omega) ?_; conv => whnf)
            | (refine Br.nt (by omega) ?_; conv => whnf)
            | (refine Br.nf (by omega) ?_; conv => whnf)
            | (refine Br.dec (fun hc => ?_) (fun hc => ?_) <;> conv => whnf)
            | (refine Br.ieq (fun hc => ?_) (fun hc => ?_) <;> conv => whnf)
            | (refine Br.ine (fun hc => ?_) (fun hc => ?_) <;> conv => whnf)
            | (refine Br.mk (fun hc => ?_) (fun hc => ?_) <;> conv => whnf)
            | (refine Wr.i64 (by omega) ?_; conv => whnf)
            | (refine Ck.mk (by omega) ?_; conv => whnf)
            | (refine Wr.i64 (by simp only [List.length_drop, List.length_take, List.length_append, List.length_cons, List.length_nil]; omega) ?_; conv => whnf)
            | (refine Ck.mk (by simp only [List.length_drop, List.length_take, List.length_append, List.length_cons, List.length_nil]; omega) ?_; conv => whnf)
            | (refine NewG.st (by assumption) (fun bt h' hs' => ?_); conv => whnf)
            | (refine Has.load1 (by first | assumption | exact St.has (by assumption) (by repeat first | exact .head _ | apply List.Mem.tail) | exact St.arg (by assumption) (by assumption)) ?_; conv => whnf)
            | (refine Has.loadZ (by first | assumption | exact St.has (by assumption) (by repeat first | exact .head _ | apply List.Mem.tail) | exact St.arg (by assumption) (by assumption)) rfl (by first | (simp; done) | omega | (simp only [List.length_set, List.length_append, List.length_cons, List.length_nil, List.length_replicate, tab_length]; omega) | (simp; omega)) ?_; conv => whnf)
            | (refine LoadsG.has (by first | assumption | exact St.has (by assumption) (by repeat first | exact .head _ | apply List.Mem.tail) | exact St.arg (by assumption) (by assumption)) (by simp) ?_; conv => whnf)
            | (refine AppG.stZ (by assumption) (by intro b'; repeat first | exact .here | apply Spot.there) (by first | (simp; done) | omega | (simp only [List.length_set, List.length_append, List.length_cons, List.length_nil, List.length_replicate, tab_length]; omega) | (simp; omega)) (by first | (simp; done) | omega | (simp only [List.length_set, List.length_append, List.length_cons, List.length_nil, List.length_replicate, tab_length]; omega) | (simp; omega)) (by decide) (fun b' h' hs' => ?_); conv => whnf)
            | (refine AppG.stZs (by assumption) (by intro b'; repeat first | exact .here | apply Spot.there) (by first | (simp; done) | omega | (simp only [List.length_set, List.length_append, List.length_cons, List.length_nil, List.length_replicate, tab_length]; omega) | (simp; omega)) (by first | (simp; done) | omega | (simp only [List.length_set, List.length_append, List.length_cons, List.length_nil, List.length_replicate, tab_length]; omega) | (simp; omega)) (by decide) (fun b' h' hs' => ?_); conv => whnf)
            | (refine Ck.mk (by simp; omega) ?_; conv => whnf))
          all_goals exact ⟨c + 1, be, p, (Less.cons rfl (Less.cons rfl (Less.cons rfl (Less.cons rfl (Less.cons rfl (Less.cons rfl (Less.nil _))))))), ⟨by omega, by rw [sc]; exact hp, by rw [sc]; exact hs3⟩, by omega⟩
        | true =>
          rw [j1, Bool.true_and] at pe
          cases j2 : jnR N f (min (c : Int) (ent f k 1)) (max (c : Int) (ent f k 1)) with
          | false =>
            rw [j2] at pe
            rw [pe] at sc
            repeat' (first
              | (refine Grid.rowAt hg hR k rfl rfl (by omega) l2 ?_; conv => whnf)
              | (refine Grid.num2 hg hR k 0 rfl (by omega) l2 (by omega) ?_; conv => whnf)
              | (refine Grid.num2 hg hR k 1 rfl (by omega) l2 (by omega) ?_; conv => whnf)
              | (refine (l7Side_ok (N : Int) R f _ _ _ (min (c : Int) (ent f k 0)) (max (c : Int) (ent f k 0)) _ hg hR hM (by omega) two (by omega) (by omega)).mono ?_; rw [j1]; rintro v h' ⟨rfl, e'⟩; subst h'; conv => whnf)
              | (refine (l7Side_ok (N : Int) R f _ _ _ (min (c : Int) (ent f k 1)) (max (c : Int) (ent f k 1)) _ hg hR hM (by omega) two (by omega) (by omega)).mono ?_; rw [j2]; rintro v h' ⟨rfl, e'⟩; subst h'; conv => whnf)
              | refine AW.seq ?_
              | (refine AW.region ?_; conv => whnf)
              | refine AW.block ?_
              | (refine AW.skip ?_; conv => whnf)
              | (refine AW.ret ?_; conv => whnf)
              | (refine AW.exit ?_; conv => whnf)
              | refine AW.cond (by rfl) ?_
              | (refine AW.draw (id := 15) (.p 0 (.p 1 (.p 2 (.p 4 (.p 5 (.r 3 [7, 8, 9] (.r 6 [7, 8, 9] (.all [7] fun _ => (.all [8] fun _ => (.p 9 .done)))))))))) (by kernel_rfl) (by kernel_rfl) ?_; conv => whnf)
              | (refine (l7Side_ok _ _ _ _ _ _ _ _ _ (St.gridAt (by assumption) (by repeat first | exact RSpot.here | apply RSpot.there | apply RSpot.app)) (by assumption) (by first | rfl | omega) (by omega) (by assumption) (by omega) (by omega)).mono ?_; rintro v h' ⟨rfl, e'⟩; subst h'; conv => whnf)
              | (refine Br.tt ?_; conv => whnf)
              | (refine Br.ff ?_; conv => whnf)
              | refine Br.not ?_
              | (refine Br.t (beq_self_eq_true _) ?_; conv => whnf)
              | (refine Br.t (by assumption) ?_; conv => whnf)
              | (refine Br.f (by assumption) ?_; conv => whnf)
              | (refine Br.dt (by omega) ?_; conv => whnf)
              | (refine Br.df (by omega) ?_; conv => whnf)
              | (refine Br.it (by omega) ?_; conv => whnf)
              | (refine Br.if (by omega) ?_; conv => whnf)
              | (refine Br.nt (by omega) ?_; conv => whnf)
              | (refine Br.nf (by omega) ?_; conv => whnf)
              | (refine Br.dec (fun hc => ?_) (fun hc => ?_) <;> conv => whnf)
              | (refine Br.ieq (fun hc => ?_) (fun hc => ?_) <;> conv => whnf)
              | (refine Br.ine (fun hc => ?_) (fun hc => ?_) <;> conv => whnf)
              | (refine Br.mk (fun hc => ?_) (fun hc => ?_) <;> conv => whnf)
              | (refine Wr.i64 (by omega) ?_; conv => whnf)
              | (refine Ck.mk (by omega) ?_; conv => whnf)
              | (refine Wr.i64 (by simp only [List.length_drop, List.length_take, List.length_append, List.length_cons, List.length_nil]; omega) ?_; conv => whnf)
              | (refine Ck.mk (by simp only [List.length_drop, List.length_take, List.length_append, List.length_cons, List.length_nil]; omega) ?_; conv => whnf)
              | (refine NewG.st (by assumption) (fun bt h' hs' => ?_); conv => whnf)
              | (refine Has.load1 (by first | assumption | exact St.has (by assumption) (by repeat first | exact .head _ | apply List.Mem.tail) | exact St.arg (by assumption) (by assumption)) ?_; conv => whnf)
              | (refine Has.loadZ (by first | assumption | exact St.has (by assumption) (by repeat first | exact .head _ | apply List.Mem.tail) | exact St.arg (by assumption) (by assumption)) rfl (by first | (simp; done) | omega | (simp only [List.length_set, List.length_append, List.length_cons, List.length_nil, List.length_replicate, tab_length]; omega) | (simp; omega)) ?_; conv => whnf)
              | (refine LoadsG.has (by first | assumption | exact St.has (by assumption) (by repeat first | exact .head _ | apply List.Mem.tail) | exact St.arg (by assumption) (by assumption)) (by simp) ?_; conv => whnf)
              | (refine AppG.stZ (by assumption) (by intro b'; repeat first | exact .here | apply Spot.there) (by first | (simp; done) | omega | (simp only [List.length_set, List.length_append, List.length_cons, List.length_nil, List.length_replicate, tab_length]; omega) | (simp; omega)) (by first | (simp; done) | omega | (simp only [List.length_set, List.length_append, List.length_cons, List.length_nil, List.length_replicate, tab_length]; omega) | (simp; omega)) (by decide) (fun b' h' hs' => ?_); conv => whnf)
              | (refine AppG.stZs (by assumption) (by intro b'; repeat first | exact .here | apply Spot.there) (by first | (simp; done) | omega | (simp only [List.length_set, List.length_append, List.length_cons, List.length_nil, List.length_replicate, tab_length]; omega) | (simp; omega)) (by first | (simp; done) | omega | (simp only [List.length_set, List.length_append, List.length_cons, List.length_nil, List.length_replicate, tab_length]; omega) | (simp; omega)) (by decide) (fun b' h' hs' => ?_); conv => whnf)
              | (refine Ck.mk (by simp; omega) ?_; conv => whnf))
            all_goals exact ⟨c + 1, be, p, (Less.cons rfl (Less.cons rfl (Less.cons rfl (Less.cons rfl (Less.cons rfl (Less.cons rfl (Less.nil _))))))), ⟨by omega, by rw [sc]; exact hp, by rw [sc]; exact hs3⟩, by omega⟩
          | true =>
            rw [j2] at pe
            rw [if_pos pe] at sc
            repeat' (first
              | (refine Grid.rowAt hg hR k rfl rfl (by omega) l2 ?_; conv => whnf)
              | (refine Grid.num2 hg hR k 0 rfl (by omega) l2 (by omega) ?_; conv => whnf)
              | (refine Grid.num2 hg hR k 1 rfl (by omega) l2 (by omega) ?_; conv => whnf)
              | (refine (l7Side_ok (N : Int) R f _ _ _ (min (c : Int) (ent f k 0)) (max (c : Int) (ent f k 0)) _ hg hR hM (by omega) two (by omega) (by omega)).mono ?_; rw [j1]; rintro v h' ⟨rfl, e'⟩; subst h'; conv => whnf)
              | (refine (l7Side_ok (N : Int) R f _ _ _ (min (c : Int) (ent f k 1)) (max (c : Int) (ent f k 1)) _ hg hR hM (by omega) two (by omega) (by omega)).mono ?_; rw [j2]; rintro v h' ⟨rfl, e'⟩; subst h'; conv => whnf)
              | refine AW.seq ?_
              | (refine AW.region ?_; conv => whnf)
              | refine AW.block ?_
              | (refine AW.skip ?_; conv => whnf)
              | (refine AW.ret ?_; conv => whnf)
              | (refine AW.exit ?_; conv => whnf)
              | refine AW.cond (by rfl) ?_
              | (refine AW.draw (id := 15) (.p 0 (.p 1 (.p 2 (.p 4 (.p 5 (.r 3 [7, 8, 9] (.r 6 [7, 8, 9] (.all [7] fun _ => (.all [8] fun _ => (.p 9 .done)))))))))) (by kernel_rfl) (by kernel_rfl) ?_; conv => whnf)
              | (refine (l7Side_ok _ _ _ _ _ _ _ _ _ (St.gridAt (by assumption) (by repeat first | exact RSpot.here | apply RSpot.there | apply RSpot.app)) (by assumption) (by first | rfl | omega) (by omega) (by assumption) (by omega) (by omega)).mono ?_; rintro v h' ⟨rfl, e'⟩; subst h'; conv => whnf)
              | (refine Br.tt ?_; conv => whnf)
              | (refine Br.ff ?_; conv => whnf)
              | refine Br.not ?_
              | (refine Br.t (beq_self_eq_true _) ?_; conv => whnf)
              | (refine Br.t (by assumption) ?_; conv => whnf)
              | (refine Br.f (by assumption) ?_; conv => whnf)
              | (refine Br.dt (by omega) ?_; conv => whnf)
              | (refine Br.df (by omega) ?_; conv => whnf)
              | (refine Br.it (by omega) ?_; conv => whnf)
              | (refine Br.if (by omega) ?_; conv => whnf)
              | (refine Br.nt (by omega) ?_; conv => whnf)
              | (refine Br.nf (by omega) ?_; conv => whnf)
              | (refine Br.dec (fun hc => ?_) (fun hc => ?_) <;> conv => whnf)
              | (refine Br.ieq (fun hc => ?_) (fun hc => ?_) <;> conv => whnf)
              | (refine Br.ine (fun hc => ?_) (fun hc => ?_) <;> conv => whnf)
              | (refine Br.mk (fun hc => ?_) (fun hc => ?_) <;> conv => whnf)
              | (refine Wr.i64 (by omega) ?_; conv => whnf)
              | (refine Ck.mk (by omega) ?_; conv => whnf)
              | (refine Wr.i64 (by simp only [List.length_drop, List.length_take, List.length_append, List.length_cons, List.length_nil]; omega) ?_; conv => whnf)
              | (refine Ck.mk (by simp only [List.length_drop, List.length_take, List.length_append, List.length_cons, List.length_nil]; omega) ?_; conv => whnf)
              | (refine NewG.st (by assumption) (fun bt h' hs' => ?_); conv => whnf)
              | (refine Has.load1 (by first | assumption | exact St.has (by assumption) (by repeat first | exact .head _ | apply List.Mem.tail) | exact St.arg (by assumption) (by assumption)) ?_; conv => whnf)
              | (refine Has.loadZ (by first | assumption | exact St.has (by assumption) (by repeat first | exact .head _ | apply List.Mem.tail) | exact St.arg (by assumption) (by assumption)) rfl (by first | (simp; done) | omega | (simp only [List.length_set, List.length_append, List.length_cons, List.length_nil, List.length_replicate, tab_length]; omega) | (simp; omega)) ?_; conv => whnf)
              | (refine LoadsG.has (by first | assumption | exact St.has (by assumption) (by repeat first | exact .head _ | apply List.Mem.tail) | exact St.arg (by assumption) (by assumption)) (by simp) ?_; conv => whnf)
              | (refine AppG.stZ (by assumption) (by intro b'; repeat first | exact .here | apply Spot.there) (by first | (simp; done) | omega | (simp only [List.length_set, List.length_append, List.length_cons, List.length_nil, List.length_replicate, tab_length]; omega) | (simp; omega)) (by first | (simp; done) | omega | (simp only [List.length_set, List.length_append, List.length_cons, List.length_nil, List.length_replicate, tab_length]; omega) | (simp; omega)) (by decide) (fun b' h' hs' => ?_); conv => whnf)
              | (refine AppG.stZs (by assumption) (by intro b'; repeat first | exact .here | apply Spot.there) (by first | (simp; done) | omega | (simp only [List.length_set, List.length_append, List.length_cons, List.length_nil, List.length_replicate, tab_length]; omega) | (simp; omega)) (by first | (simp; done) | omega | (simp only [List.length_set, List.length_append, List.length_cons, List.length_nil, List.length_replicate, tab_length]; omega) | (simp; omega)) (by decide) (fun b' h' hs' => ?_); conv => whnf)
              | (refine Ck.mk (by simp; omega) ?_; conv => whnf))
            all_goals exact ⟨c + 1, _, p + 1, (Less.cons rfl (Less.cons rfl (Less.cons rfl (Less.cons rfl (Less.cons rfl (Less.cons rfl (Less.nil _))))))), ⟨by omega, by rw [sc, List.length_append, hp]; rfl, by rw [sc]; exact hs'.tail⟩, by omega⟩
    · obtain rfl : c = N := by omega
      have p2 : p = 2 := by
        rw [← hp, thU_all, List.length_map]
        exact fl.1
      have g0 : (thU c f k c).getD (Int.toNat 0) 0 = ((thR c f k).getD 0 0 : Nat) := thU_get c f k 0
      have g1 : (thU c f k c).getD (Int.toNat 1) 0 = ((thR c f k).getD 1 0 : Nat) := thU_get c f k 1
      have hbo := St.has hs3 (.head _)
      have r2 : ∀ r ∈ S, r.2.length = 2 := rws_two hS fun x hx => by
        obtain ⟨i, hi, rfl⟩ := List.getElem_of_mem ((List.eraseIdx_sublist f k).subset hx)
        have := two i hi
        have e2 : f.getD i [] = f[i] := by simp [List.getD, hi]
        rwa [e2] at this
      repeat' (first
        | (refine Has.loadZ hbo rfl (by omega) ?_; conv => whnf)
        | (refine NewG.st hs3 (fun bx h5 hs5 => ?_); rw [g0, g1] at hs5; have hs6 := St.sub hs5 (List.Sublist.cons_cons _ (List.sublist_cons_self _ _)); conv => whnf)
        | (refine (put_ok S [(((thR c f k).getD 0 0 : Nat) : Int), (((thR c f k).getD 1 0 : Nat) : Int)] _ bo bx _ _ h0 _ hs6 lS.symm (by omega) (by omega) rfl r2).mono ?_; rintro v h' ⟨b', rfl, hs7⟩; conv => whnf)
        | refine AW.seq ?_
        | (refine AW.region ?_; conv => whnf)
        | refine AW.block ?_
        | (refine AW.skip ?_; conv => whnf)
        | (refine AW.ret ?_; conv => whnf)
        | (refine AW.exit ?_; conv => whnf)
        | refine AW.cond (by rfl) ?_
        | (refine AW.draw (id := 15) (.p 0 (.p 1 (.p 2 (.p 4 (.p 5 (.r 3 [7, 8, 9] (.r 6 [7, 8, 9] (.all [7] fun _ => (.all [8] fun _ => (.p 9 .done)))))))))) (by kernel_rfl) (by kernel_rfl) ?_; conv => whnf)
        | (refine (l7Side_ok _ _ _ _ _ _ _ _ _ (St.gridAt (by assumption) (by repeat first | exact RSpot.here | apply RSpot.there | apply RSpot.app)) (by assumption) (by first | rfl | omega) (by omega) (by assumption) (by omega) (by omega)).mono ?_; rintro v h' ⟨rfl, e'⟩; subst h'; conv => whnf)
        | (refine Br.tt ?_; conv => whnf)
        | (refine Br.ff ?_; conv => whnf)
        | refine Br.not ?_
        | (refine Br.t (beq_self_eq_true _) ?_; conv => whnf)
        | (refine Br.t (by assumption) ?_; conv => whnf)
        | (refine Br.f (by assumption) ?_; conv => whnf)
        | (refine Br.dt (by omega) ?_; conv => whnf)
        | (refine Br.df (by omega) ?_; conv => whnf)
        | (refine Br.it (by omega) ?_; conv => whnf)
        | (refine Br.if (by omega) ?_; conv => whnf)
        | (refine Br.nt (by omega) ?_; conv => whnf)
        | (refine Br.nf (by omega) ?_; conv => whnf)
        | (refine Br.dec (fun hc => ?_) (fun hc => ?_) <;> conv => whnf)
        | (refine Br.ieq (fun hc => ?_) (fun hc => ?_) <;> conv => whnf)
        | (refine Br.ine (fun hc => ?_) (fun hc => ?_) <;> conv => whnf)
        | (refine Br.mk (fun hc => ?_) (fun hc => ?_) <;> conv => whnf)
        | (refine Wr.i64 (by omega) ?_; conv => whnf)
        | (refine Ck.mk (by omega) ?_; conv => whnf)
        | (refine Wr.i64 (by simp only [List.length_drop, List.length_take, List.length_append, List.length_cons, List.length_nil]; omega) ?_; conv => whnf)
        | (refine Ck.mk (by simp only [List.length_drop, List.length_take, List.length_append, List.length_cons, List.length_nil]; omega) ?_; conv => whnf)
        | (refine NewG.st (by assumption) (fun bt h' hs' => ?_); conv => whnf)
        | (refine Has.load1 (by first | assumption | exact St.has (by assumption) (by repeat first | exact .head _ | apply List.Mem.tail) | exact St.arg (by assumption) (by assumption)) ?_; conv => whnf)
        | (refine Has.loadZ (by first | assumption | exact St.has (by assumption) (by repeat first | exact .head _ | apply List.Mem.tail) | exact St.arg (by assumption) (by assumption)) rfl (by first | (simp; done) | omega | (simp only [List.length_set, List.length_append, List.length_cons, List.length_nil, List.length_replicate, tab_length]; omega) | (simp; omega)) ?_; conv => whnf)
        | (refine LoadsG.has (by first | assumption | exact St.has (by assumption) (by repeat first | exact .head _ | apply List.Mem.tail) | exact St.arg (by assumption) (by assumption)) (by simp) ?_; conv => whnf)
        | (refine AppG.stZ (by assumption) (by intro b'; repeat first | exact .here | apply Spot.there) (by first | (simp; done) | omega | (simp only [List.length_set, List.length_append, List.length_cons, List.length_nil, List.length_replicate, tab_length]; omega) | (simp; omega)) (by first | (simp; done) | omega | (simp only [List.length_set, List.length_append, List.length_cons, List.length_nil, List.length_replicate, tab_length]; omega) | (simp; omega)) (by decide) (fun b' h' hs' => ?_); conv => whnf)
        | (refine AppG.stZs (by assumption) (by intro b'; repeat first | exact .here | apply Spot.there) (by first | (simp; done) | omega | (simp only [List.length_set, List.length_append, List.length_cons, List.length_nil, List.length_replicate, tab_length]; omega) | (simp; omega)) (by first | (simp; done) | omega | (simp only [List.length_set, List.length_append, List.length_cons, List.length_nil, List.length_replicate, tab_length]; omega) | (simp; omega)) (by decide) (fun b' h' hs' => ?_); conv => whnf)
        | (refine Ck.mk (by simp; omega) ?_; conv => whnf))
      refine ⟨b', _, ?_, by rw [putP_rws, hS]; rfl, by rw [putP_len, lS]; exact em, hs7⟩
      rw [em]

set_option maxHeartbeats 4000000 in
theorem sFlip_ok (n : Int) (R : RL) (f : List (List Int)) (b M C : Nat) (k : Int) (h0 : H) (hb : Grid h0 b R) (hR : rws R = f) (hM : M = f.length) (hl : M ≤ 1000000000) (hn : (-9223372036854775808 ≤ n ∧ n ≤ 9223372036854775807) ∧ -9223372036854775808 ≤ k ∧ k ≤ 9223372036854775807) :
    AC env 34 [.int .i64 n, .slice b 0 M C, .int .i64 k] h0 (RetR (flipF n f k) h0) := by
  have hs := St.refl h0
  have lR : R.length = M := by rw [hM, ← hR, rws_length]
  by_cases ok : isTri n f = true ∧ 0 ≤ k ∧ k < f.length
  · have e : flipF n f k = (flipR n.toNat f k.toNat, true) := if_pos ok
    obtain ⟨ht, hk⟩ := ok
    obtain ⟨N, rfl⟩ := isTri_nat ht
    obtain ⟨k, rfl⟩ := Int.eq_ofNat_of_zero_le hk.1
    rw [Int.toNat_natCast, Int.toNat_natCast] at e
    have hkl : k < f.length := by omega
    refine AC.enter Try.func34 Try.call34 rfl Try.ntmps34 (of_decide_eq_true (by rfl)) ?_
    repeat' (first
      | (refine (sIsTri_ok (N : Int) R f _ _ _ _ hb hR hM (by omega) (by omega)).mono ?_; rw [ht]; rintro v h' ⟨rfl, e'⟩; subst h'; conv => whnf)
      | (refine (l21Flip_ok N R f _ _ _ k _ hb hR hM ht hkl).mono ?_; rintro v h' ⟨b', R', rfl, hR', lR', hs1⟩; conv => whnf)
      | refine AW.seq ?_
      | (refine AW.region ?_; conv => whnf)
      | refine AW.block ?_
      | (refine AW.skip ?_; conv => whnf)
      | (refine AW.ret ?_; conv => whnf)
      | (refine AW.exit ?_; conv => whnf)
      | refine AW.cond (by rfl) ?_
      | (refine (sIsTri_ok _ _ _ _ _ _ _ (St.gridAt (by assumption) (by repeat first | exact RSpot.here | apply RSpot.there | apply RSpot.app)) (by assumption) (by first | rfl | omega) (by omega) (by omega)).mono ?_; rintro v h' ⟨rfl, e'⟩; subst h'; conv => whnf)
      | (refine (l1In_ok _ _ _ _).mono ?_; rintro v h' ⟨rfl, e'⟩; subst h'; conv => whnf)
      | (refine Br.tt ?_; conv => whnf)
      | (refine Br.ff ?_; conv => whnf)
      | refine Br.not ?_
      | (refine Br.t (beq_self_eq_true _) ?_; conv => whnf)
      | (refine Br.t (by assumption) ?_; conv => whnf)
      | (refine Br.f (by assumption) ?_; conv => whnf)
      | (refine Br.dt (by omega) ?_; conv => whnf)
      | (refine Br.df (by omega) ?_; conv => whnf)
      | (refine Br.it (by omega) ?_; conv => whnf)
      | (refine Br.if (by omega) ?_; conv => whnf)
      | (refine Br.nt (by omega) ?_; conv => whnf)
      | (refine Br.nf (by omega) ?_; conv => whnf)
      | (refine Br.dec (fun hc => ?_) (fun hc => ?_) <;> conv => whnf)
      | (refine Br.ieq (fun hc => ?_) (fun hc => ?_) <;> conv => whnf)
      | (refine Br.ine (fun hc => ?_) (fun hc => ?_) <;> conv => whnf)
      | (refine Br.mk (fun hc => ?_) (fun hc => ?_) <;> conv => whnf)
      | (refine Wr.i64 (by omega) ?_; conv => whnf)
      | (refine Ck.mk (by omega) ?_; conv => whnf)
      | (refine Wr.i64 (by simp only [List.length_drop, List.length_take, List.length_append, List.length_cons, List.length_nil]; omega) ?_; conv => whnf)
      | (refine Ck.mk (by simp only [List.length_drop, List.length_take, List.length_append, List.length_cons, List.length_nil]; omega) ?_; conv => whnf)
      | (refine NewG.st (by assumption) (fun bt h' hs' => ?_); conv => whnf)
      | (refine Ck.mk (by simp; omega) ?_; conv => whnf))
    exact RetR.mk' (by rw [e, hR']) lR'.symm hs1
  · have e : flipF n f k = ([], false) := if_neg ok
    by_cases ht : isTri n f = true
    · have hk : ¬ (0 ≤ k ∧ k < f.length) := fun a => ok ⟨ht, a⟩
      refine AC.enter Try.func34 Try.call34 rfl Try.ntmps34 (of_decide_eq_true (by rfl)) ?_
      repeat' (first
        | (refine (sIsTri_ok n R f _ _ _ _ hb hR hM (by omega) (by omega)).mono ?_; rw [ht]; rintro v h' ⟨rfl, e'⟩; subst h'; conv => whnf)
        | refine AW.seq ?_
        | (refine AW.region ?_; conv => whnf)
        | refine AW.block ?_
        | (refine AW.skip ?_; conv => whnf)
        | (refine AW.ret ?_; conv => whnf)
        | (refine AW.exit ?_; conv => whnf)
        | refine AW.cond (by rfl) ?_
        | (refine (sIsTri_ok _ _ _ _ _ _ _ (St.gridAt (by assumption) (by repeat first | exact RSpot.here | apply RSpot.there | apply RSpot.app)) (by assumption) (by first | rfl | omega) (by omega) (by omega)).mono ?_; rintro v h' ⟨rfl, e'⟩; subst h'; conv => whnf)
        | (refine (l1In_ok _ _ _ _).mono ?_; rintro v h' ⟨rfl, e'⟩; subst h'; conv => whnf)
        | (refine Br.tt ?_; conv => whnf)
        | (refine Br.ff ?_; conv => whnf)
        | refine Br.not ?_
        | (refine Br.t (beq_self_eq_true _) ?_; conv => whnf)
        | (refine Br.t (by assumption) ?_; conv => whnf)
        | (refine Br.f (by assumption) ?_; conv => whnf)
        | (refine Br.dt (by omega) ?_; conv => whnf)
        | (refine Br.df (by omega) ?_; conv => whnf)
        | (refine Br.it (by omega) ?_; conv => whnf)
        | (refine Br.if (by omega) ?_; conv => whnf)
        | (refine Br.nt (by omega) ?_; conv => whnf)
        | (refine Br.nf (by omega) ?_; conv => whnf)
        | (refine Br.dec (fun hc => ?_) (fun hc => ?_) <;> conv => whnf)
        | (refine Br.ieq (fun hc => ?_) (fun hc => ?_) <;> conv => whnf)
        | (refine Br.ine (fun hc => ?_) (fun hc => ?_) <;> conv => whnf)
        | (refine Br.mk (fun hc => ?_) (fun hc => ?_) <;> conv => whnf)
        | (refine Wr.i64 (by omega) ?_; conv => whnf)
        | (refine Ck.mk (by omega) ?_; conv => whnf)
        | (refine Wr.i64 (by simp only [List.length_drop, List.length_take, List.length_append, List.length_cons, List.length_nil]; omega) ?_; conv => whnf)
        | (refine Ck.mk (by simp only [List.length_drop, List.length_take, List.length_append, List.length_cons, List.length_nil]; omega) ?_; conv => whnf)
        | (refine NewG.st (by assumption) (fun bt h' hs' => ?_); conv => whnf)
        | (refine Ck.mk (by simp; omega) ?_; conv => whnf))
      all_goals exact RetR.mk' (R := []) e rfl (nilRows hs')
    · have ht : isTri n f = false := by simpa using ht
      refine AC.enter Try.func34 Try.call34 rfl Try.ntmps34 (of_decide_eq_true (by rfl)) ?_
      repeat' (first
        | (refine (sIsTri_ok n R f _ _ _ _ hb hR hM (by omega) (by omega)).mono ?_; rw [ht]; rintro v h' ⟨rfl, e'⟩; subst h'; conv => whnf)
        | refine AW.seq ?_
        | (refine AW.region ?_; conv => whnf)
        | refine AW.block ?_
        | (refine AW.skip ?_; conv => whnf)
        | (refine AW.ret ?_; conv => whnf)
        | (refine AW.exit ?_; conv => whnf)
        | refine AW.cond (by rfl) ?_
        | (refine (sIsTri_ok _ _ _ _ _ _ _ (St.gridAt (by assumption) (by repeat first | exact RSpot.here | apply RSpot.there | apply RSpot.app)) (by assumption) (by first | rfl | omega) (by omega) (by omega)).mono ?_; rintro v h' ⟨rfl, e'⟩; subst h'; conv => whnf)
        | (refine (l1In_ok _ _ _ _).mono ?_; rintro v h' ⟨rfl, e'⟩; subst h'; conv => whnf)
        | (refine Br.tt ?_; conv => whnf)
        | (refine Br.ff ?_; conv => whnf)
        | refine Br.not ?_
        | (refine Br.t (beq_self_eq_true _) ?_; conv => whnf)
        | (refine Br.t (by assumption) ?_; conv => whnf)
        | (refine Br.f (by assumption) ?_; conv => whnf)
        | (refine Br.dt (by omega) ?_; conv => whnf)
        | (refine Br.df (by omega) ?_; conv => whnf)
        | (refine Br.it (by omega) ?_; conv => whnf)
        | (refine Br.if (by omega) ?_; conv => whnf)
        | (refine Br.nt (by omega) ?_; conv => whnf)
        | (refine Br.nf (by omega) ?_; conv => whnf)
        | (refine Br.dec (fun hc => ?_) (fun hc => ?_) <;> conv => whnf)
        | (refine Br.ieq (fun hc => ?_) (fun hc => ?_) <;> conv => whnf)
        | (refine Br.ine (fun hc => ?_) (fun hc => ?_) <;> conv => whnf)
        | (refine Br.mk (fun hc => ?_) (fun hc => ?_) <;> conv => whnf)
        | (refine Wr.i64 (by omega) ?_; conv => whnf)
        | (refine Ck.mk (by omega) ?_; conv => whnf)
        | (refine Wr.i64 (by simp only [List.length_drop, List.length_take, List.length_append, List.length_cons, List.length_nil]; omega) ?_; conv => whnf)
        | (refine Ck.mk (by simp only [List.length_drop, List.length_take, List.length_append, List.length_cons, List.length_nil]; omega) ?_; conv => whnf)
        | (refine NewG.st (by assumption) (fun bt h' hs' => ?_); conv => whnf)
        | (refine Ck.mk (by simp; omega) ?_; conv => whnf))
      all_goals exact RetR.mk' (R := []) e rfl (nilRows hs')

end Go.Proofs.Ytcepogfmajlcjaa
