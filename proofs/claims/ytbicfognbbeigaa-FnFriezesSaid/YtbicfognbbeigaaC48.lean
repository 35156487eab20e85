/-
  Contracts of friezes of quiddities are proved.
  They hold for all rows of numbers.
-/
import Derived.Test.YtbicfognbbeigaaH11
import Derived.Test.YtbicfognbbeigaaH12
import Derived.Test.YtbicfognbbeigaaC47
set_option linter.unusedVariables false
set_option linter.unusedSimpArgs false
namespace Go.Proofs.Ytbicfognbbeigaa
open Go.Proofs.Ytbicfognbbeigaa.Ab Go.Proofs.Ytbicfognbbeigaa.Pl

def friezeR (q : List Int) : List (List Int) × Bool := if isQ q = true then (frz q, true) else ([], false)
theorem isQ_sm {q : List Int} (h : isQ q = true) : smallQ q := (of_decide_eq_true h).1
theorem NewG.stW {h0 h : H} {L : List (Nat × Blk)} {K : Nat → H → Prop} {n : Nat} {l : List Int} {z : AV} (s : St h0 h L) (hz : z = .int .i64 0) (e : List.replicate n 0 = l) (hk : ∀ b h', St h0 h' ((b, row (ints l)) :: L) → K b h') : NewG h (.cells true 1 (List.replicate n z)) K := by
  subst e
  exact .stZ s hz hk
def onesT (n k : Nat) : List Int := tab n fun j => if j < k then 1 else 0
theorem onesT_zero (n : Nat) : List.replicate n 0 = onesT n 0 := by
  rw [tab_replicate]
  exact tab_congr fun i hi => by rw [if_neg (by omega)]
theorem onesT_set {n k : Nat} : (onesT n k).set k 1 = onesT n (k + 1) := by
  unfold onesT
  rw [tab_set]
  exact tab_congr fun j hj => by
    split
    · rw [if_pos (by omega)]
    · split <;> split <;> first | rfl | omega
@[simp] theorem onesT_len (n k : Nat) : (onesT n k).length = n := tab_length _ _
/-- a row of a frieze, as far as it is made -/
def frP (q : List Int) (n r i : Nat) : List Int := tab n fun j => if j < i then frE q r j else 0
theorem frP_zero (q : List Int) (n r : Nat) : List.replicate n 0 = frP q n r 0 := by
  rw [tab_replicate]
  exact tab_congr fun i hi => by rw [if_neg (by omega)]
@[simp] theorem frP_len (q : List Int) (n r i : Nat) : (frP q n r i).length = n := tab_length _ _
theorem frP_set {q : List Int} {n r i : Nat} {y : Int} (e : y = frE q r i) : (frP q n r i).set i y = frP q n r (i + 1) := by
  subst e
  unfold frP
  rw [tab_set]
  exact tab_congr fun j hj => by
    split
    · rename_i h
      subst h
      rw [if_pos (by omega)]
    · split <;> split <;> first | rfl | omega
theorem frP_full (q : List Int) (n r : Nat) : frP q n r n = tab n (frE q r) := tab_congr fun j hj => if_pos hj
theorem frz_take {q : List Int} {r : Nat} (h : r < q.length + 1) : (frz q).take (r + 1) = (frz q).take r ++ [tab q.length (frE q r)] := by
  have hl : r < (frz q).length := by rw [frz_len]; exact h
  rw [List.take_succ_eq_append_getElem hl]
  congr 2
  rw [← frz_row q h]
  simp [List.getD, hl]
theorem frz_three {q : List Int} (h : isQ q = true) : (frz q).take 3 = [List.replicate q.length 0, onesT q.length q.length, q] := by
  have sz := (isQ_sm h).1
  have e0 : tab q.length (frE q 0) = List.replicate q.length 0 := by rw [tab_replicate]; rfl
  have e1 : tab q.length (frE q 1) = onesT q.length q.length := tab_congr fun i hi => by rw [if_pos hi, frE_one q i (by omega)]
  have e2 : tab q.length (frE q 2) = q := by
    conv => rhs; rw [tab_of q]
    exact tab_congr fun i hi => frE_two q (by omega) hi
  rw [frz_take (r := 2) (by omega), frz_take (r := 1) (by omega), frz_take (r := 0) (by omega), e0, e1, e2]
  rfl
theorem frz_at {q : List Int} {f : List (List Int)} {N r : Nat} (e : f = (frz q).take N) (hr : r < N) (hN : N ≤ q.length + 1) : f.getD r [] = tab q.length (frE q r) := by
  rw [← frz_row q (by omega), e]
  simp [List.getD, List.getElem?_take, hr]
theorem frz_num {q : List Int} {f : List (List Int)} {N r i : Nat} (e : f = (frz q).take N) (hr : r < N) (hN : N ≤ q.length + 1) (hi : i < q.length) : ent f r i = frE q r i := by
  unfold ent
  rw [frz_at e hr hN, tab_getD _ hi]
/-- the division of the rule is exact -/
theorem frE_quo {q : List Int} (h : isQ q = true) {r i : Nat} (hr : r + 3 ≤ q.length) (hi : i < q.length) :
    (1 ≤ frE q (r + 1) ((i + 1) % q.length) ∧ frE q (r + 1) ((i + 1) % q.length) ≤ 100000) ∧ (0 ≤ frE q (r + 2) i * frE q (r + 2) ((i + 1) % q.length) ∧ frE q (r + 2) i * frE q (r + 2) ((i + 1) % q.length) ≤ 10000000000) ∧
    (frE q (r + 2) i * frE q (r + 2) ((i + 1) % q.length) - 1).tdiv (frE q (r + 1) ((i + 1) % q.length)) = frE q (r + 3) i ∧ (frE q (r + 2) i * frE q (r + 2) ((i + 1) % q.length) - 1).tmod (frE q (r + 1) ((i + 1) % q.length)) = 0 ∧
    0 ≤ frE q (r + 3) i ∧ frE q (r + 3) i ≤ 100000 := by
  have hk : (i + 1) % q.length < q.length := Nat.mod_lt _ (by omega)
  have c1 := frE_cell h (r := r + 1) (by omega) hk
  have c2 := cell_bd (frE_cell h (r := r + 2) (by omega) hi)
  have c3 := cell_bd (frE_cell h (r := r + 2) (by omega) hk)
  have c4 := cell_bd (frE_cell h (r := r + 3) (by omega) hi)
  have p := c1.2.1 (by omega)
  have ru := frE_rule (q := q) (r := r + 1) (i := i) (by omega) hi
  have pb := prod_bd c2 c3
  have e : frE q (r + 2) i * frE q (r + 2) ((i + 1) % q.length) - 1 = frE q (r + 1) ((i + 1) % q.length) * frE q (r + 3) i := by
    have ru' : frE q (r + 2) i * frE q (r + 2) ((i + 1) % q.length) - frE q (r + 1) ((i + 1) % q.length) * frE q (r + 3) i = 1 := ru
    omega
  refine ⟨p, pb, ?_, ?_, c4.1, c4.2⟩
  · rw [e]
    exact Int.mul_tdiv_cancel_left _ (by omega)
  · rw [e]
    exact Int.mul_tmod_right _ _

set_option maxHeartbeats 4000000 in
theorem iFriezeOf_ok (q : List Int) (bq N C : Nat) (h0 : H) (hb : Has h0 bq (ints q)) (hN : N = q.length) (hl : N ≤ 100000000) : AC env 9 [.slice bq 0 N C] h0 (RetR (friezeR q) h0) := by
  have hs := St.refl h0
  subst hN
  by_cases hq : isQ q = true
  · have e : friezeR q = (frz q, true) := if_pos hq
    have sz := (isQ_sm hq).1
    refine AC.enter Try.func9 Try.call9 rfl Try.ntmps9 (of_decide_eq_true (by rfl)) ?_
    repeat' (first
      | (refine (iIsQuiddity_ok q _ _ _ _ hb rfl (by omega)).mono ?_; rw [hq]; rintro v h' ⟨rfl, hkq⟩; have hs1 := St.keep hs hkq; conv => whnf)
      | (refine NewG.stZ hs1 rfl (fun bo hO hsO => ?_); rw [show (q.length : Int).toNat = q.length from rfl, onesT_zero] at hsO; conv => whnf)
      | refine AW.seq ?_
      | (refine AW.region ?_; conv => whnf)
      | refine AW.block ?_
      | (refine AW.skip ?_; conv => whnf)
      | (refine AW.ret ?_; conv => whnf)
      | (refine AW.exit ?_; conv => whnf)
      | refine AW.cond (by rfl) ?_
      | (refine AW.draw (id := 10) (.p 0 (.p 2 (.p 3 (.all [1, 4] fun i => bif Nat.beq i 1 then (.all [4] fun _ => (.all [5] fun _ => (.p 6 .done))) else (.all [1] fun _ => (.all [5] fun _ => (.p 6 .done))))))) (by kernel_rfl) (by kernel_rfl) ?_; conv => whnf)
      | (refine AW.draw (id := 18) (.p 0 (.p 1 (.p 2 (.p 3 (.p 4 (.p 6 (.p 9 (.p 10 (.p 11 (.p 13 (.p 14 (.p 15 (.p 16 (.p 21 (.p 22 (.p 23 (.p 24 (.p 26 (.p 27 (.p 28 (.p 29 (.r 5 [7, 8, 19, 20, 32, 33, 34] (.p 7 (.r 8 [19, 20, 32, 33, 34] (.r 12 [17, 18, 19, 20, 32, 33, 34] (.p 17 (.r 18 [19, 20, 32, 33, 34] (.p 19 (.p 20 (.r 25 [30, 31, 32, 33, 34] (.p 30 (.r 31 [32, 33, 34] (.p 32 (.p 33 (.all [34] fun _ => .done))))))))))))))))))))))))))))))))))) (by kernel_rfl) (by kernel_rfl) ?_; conv => whnf)
      | (refine (iIsQuiddity_ok _ _ _ _ _ (by first | assumption | exact St.has (by assumption) (by repeat first | exact .head _ | apply List.Mem.tail) | exact St.arg (by assumption) (by assumption)) (by first | rfl | omega) (by first | (simp; done) | omega | (simp only [List.length_set, List.length_append, List.length_cons, List.length_nil, List.length_replicate, tab_length]; omega) | (simp; omega))).mono ?_; rintro v h' ⟨rfl, hkq⟩; have hs' := St.keep (by assumption) hkq; clear hkq; conv => whnf)
      | (refine (copyInts_ok _ _ _ _ _ (by first | assumption | exact St.has (by assumption) (by repeat first | exact .head _ | apply List.Mem.tail) | exact St.arg (by assumption) (by assumption)) (by first | rfl | omega) (by first | (simp; done) | omega | (simp only [List.length_set, List.length_append, List.length_cons, List.length_nil, List.length_replicate, tab_length]; omega) | (simp; omega))).mono ?_; rintro v h' ⟨b, rfl, hn⟩; have hs' := St.newCall (by assumption) hn; clear hn; conv => whnf)
      | (refine Br.tt ?_; conv => whnf)
      | (refine Br.ff ?_; conv => whnf)
      | refine Br.not ?_
      | (refine Br.t (beq_self_eq_true _) ?_; conv => whnf)
      | (refine Br.t (by assumption) ?_; conv => whnf)
      | (refine Br.f (by assumption) ?_; conv => whnf)
      | (refine Br.dt (by omega) ?_; conv => whnf)
      | (refine Br.df (by omega) ?_; conv => whnf)
      | (refine Br.it (by omega) ?_; conv => whnf)
      | (refine Br.if (by omega) ?_; conv => whnf)
      | (refine Br.nt (by omega) ?_; conv => whnf)
      | (refine Br.nf (by omega) ?_; conv => whnf)
      | (refine Br.dec (fun hc => ?_) (fun hc => ?_) <;> conv => whnf)
      | (refine Br.ieq (fun hc => ?_) (fun hc => ?_) <;> conv => whnf)
      | (refine Br.ine (fun hc => ?_) (fun hc => ?_) <;> conv => whnf)
      | (refine Br.mk (fun hc => ?_) (fun hc => ?_) <;> conv => whnf)
      | (refine Wr.i64 (by omega) ?_; conv => whnf)
      | (refine Ck.mk (by omega) ?_; conv => whnf)
      | (refine Wr.i64 (by simp only [List.length_drop, List.length_take, List.length_append, List.length_cons, List.length_nil]; omega) ?_; conv => whnf)
      | (refine Ck.mk (by simp only [List.length_drop, List.length_take, List.length_append, List.length_cons, List.length_nil]; omega) ?_; conv => whnf)
      | (refine NewG.stZ (by assumption) rfl (fun bt h' hs' => ?_); conv => whnf)
      | (refine Ck.slice (by omega) (by omega) (by omega) (by decide) ?_; conv => whnf)
      | (refine NewG.st (by assumption) (fun bt h' hs' => ?_); conv => whnf)
      | (refine Has.load1 (by first | assumption | exact St.has (by assumption) (by repeat first | exact .head _ | apply List.Mem.tail) | exact St.arg (by assumption) (by assumption)) ?_; conv => whnf)
      | (refine Has.loadZ (by first | assumption | exact St.has (by assumption) (by repeat first | exact .head _ | apply List.Mem.tail) | exact St.arg (by assumption) (by assumption)) rfl (by first | (simp; done) | omega | (simp only [List.length_set, List.length_append, List.length_cons, List.length_nil, List.length_replicate, tab_length]; omega) | (simp; omega)) ?_; conv => whnf)
      | (refine LoadsG.has (by first | assumption | exact St.has (by assumption) (by repeat first | exact .head _ | apply List.Mem.tail) | exact St.arg (by assumption) (by assumption)) (by simp) ?_; conv => whnf)
      | (refine StoreG.st1 (by assumption) (by repeat first | exact .here | apply Spot.there) rfl (fun h' hs' => ?_); conv => whnf)
      | (refine StoreG.stZ (by assumption) (by repeat first | exact .here | apply Spot.there) rfl (by first | (simp; done) | omega | (simp only [List.length_set, List.length_append, List.length_cons, List.length_nil, List.length_replicate, tab_length]; omega) | (simp; omega)) (fun h' hs' => ?_); conv => whnf)
      | (refine Ck.mk (by simp; omega) ?_; conv => whnf))
    refine AW.loop1 (fun (k : Nat) => [(0, .slice bq 0 q.length C), (4, .int .i64 q.length), (5, .slice bo 0 q.length q.length), (20, .int .i64 q.length), (21, .int .i64 k)]) (fun k h' => k ≤ q.length ∧ St h0 h' [(bo, row (ints (onesT q.length k)))]) (fun k => q.length - k) 0
      (Less.cons rfl (Less.cons rfl (Less.cons rfl (Less.cons rfl (Less.cons rfl (Less.nil _)))))) ⟨by omega, hsO⟩ ?_
    rintro k h1 ⟨hk, hs2⟩
    clear hsO hs1 hs
    by_cases hlt : k < q.length
    · repeat' (first
        | refine AW.seq ?_
        | (refine AW.region ?_; conv => whnf)
        | refine AW.block ?_
        | (refine AW.skip ?_; conv => whnf)
        | (refine AW.ret ?_; conv => whnf)
        | (refine AW.exit ?_; conv => whnf)
        | refine AW.cond (by rfl) ?_
        | (refine AW.draw (id := 10) (.p 0 (.p 2 (.p 3 (.all [1, 4] fun i => bif Nat.beq i 1 then (.all [4] fun _ => (.all [5] fun _ => (.p 6 .done))) else (.all [1] fun _ => (.all [5] fun _ => (.p 6 .done))))))) (by kernel_rfl) (by kernel_rfl) ?_; conv => whnf)
        | (refine AW.draw (id := 18) (.p 0 (.p 1 (.p 2 (.p 3 (.p 4 (.p 6 (.p 9 (.p 10 (.p 11 (.p 13 (.p 14 (.p 15 (.p 16 (.p 21 (.p 22 (.p 23 (.p 24 (.p 26 (.p 27 (.p 28 (.p 29 (.r 5 [7, 8, 19, 20, 32, 33, 34] (.p 7 (.r 8 [19, 20, 32, 33, 34] (.r 12 [17, 18, 19, 20, 32, 33, 34] (.p 17 (.r 18 [19, 20, 32, 33, 34] (.p 19 (.p 20 (.r 25 [30, 31, 32, 33, 34] (.p 30 (.r 31 [32, 33, 34] (.p 32 (.p 33 (.all [34] fun _ => .done))))))))))))))))))))))))))))))))))) (by kernel_rfl) (by kernel_rfl) ?_; conv => whnf)
        | (refine (iIsQuiddity_ok _ _ _ _ _ (by first | assumption | exact St.has (by assumption) (by repeat first | exact .head _ | apply List.Mem.tail) | exact St.arg (by assumption) (by assumption)) (by first | rfl | omega) (by first | (simp; done) | omega | (simp only [List.length_set, List.length_append, List.length_cons, List.length_nil, List.length_replicate, tab_length]; omega) | (simp; omega))).mono ?_; rintro v h' ⟨rfl, hkq⟩; have hs' := St.keep (by assumption) hkq; clear hkq; conv => whnf)
        | (refine (copyInts_ok _ _ _ _ _ (by first | assumption | exact St.has (by assumption) (by repeat first | exact .head _ | apply List.Mem.tail) | exact St.arg (by assumption) (by assumption)) (by first | rfl | omega) (by first | (simp; done) | omega | (simp only [List.length_set, List.length_append, List.length_cons, List.length_nil, List.length_replicate, tab_length]; omega) | (simp; omega))).mono ?_; rintro v h' ⟨b, rfl, hn⟩; have hs' := St.newCall (by assumption) hn; clear hn; conv => whnf)
        | (refine Br.tt ?_; conv => whnf)
        | (refine Br.ff ?_; conv => whnf)
        | refine Br.not ?_
        | (refine Br.t (beq_self_eq_true _) ?_; conv => whnf)
        | (refine Br.t (by assumption) ?_; conv => whnf)
        | (refine Br.f (by assumption) ?_; conv => whnf)
        | (refine Br.dt (by omega) ?_; conv => whnf)
        | (refine Br.df (by omega) ?_; conv => whnf)
        | (refine Br.it (by omega) ?_; conv => whnf)
        | (refine Br.if (by omega) ?_; conv => whnf)
        | (refine Br.nt (by omega) ?_; conv => whnf)
        | (refine Br.nf (by omega) ?_; conv => whnf)
        | (refine Br.dec (fun hc => ?_) (fun hc => ?_) <;> conv => whnf)
        | (refine Br.ieq (fun hc => ?_) (fun hc => ?_) <;> conv => whnf)
        | (refine Br.ine (fun hc => ?_) (fun hc => ?_) <;> conv => whnf)
        | (refine Br.mk (fun hc => ?_) (fun hc => ?_) <;> conv => whnf)
        | (refine Wr.i64 (by omega) ?_; conv => whnf)
        | (refine Ck.mk (by omega) ?_; conv => whnf)
        | (refine Wr.i64 (by simp only [List.length_drop, List.length_take, List.length_append, List.length_cons, List.length_nil]; omega) ?_; conv => whnf)
        | (refine Ck.mk (by simp only [List.length_drop, List.length_take, List.length_append, List.length_cons, List.length_nil]; omega) ?_; conv => whnf)
        | (refine NewG.stZ (by assumption) rfl (fun bt h' hs' => ?_); conv => whnf)
        | (refine Ck.slice (by omega) (by omega) (by omega) (by decide) ?_; conv => whnf)
        | (refine NewG.st (by assumption) (fun bt h' hs' => ?_); conv => whnf)
        | (refine Has.load1 (by first | assumption | exact St.has (by assumption) (by repeat first | exact .head _ | apply List.Mem.tail) | exact St.arg (by assumption) (by assumption)) ?_; conv => whnf)
        | (refine Has.loadZ (by first | assumption | exact St.has (by assumption) (by repeat first | exact .head _ | apply List.Mem.tail) | exact St.arg (by assumption) (by assumption)) rfl (by first | (simp; done) | omega | (simp only [List.length_set, List.length_append, List.length_cons, List.length_nil, List.length_replicate, tab_length]; omega) | (simp; omega)) ?_; conv => whnf)
        | (refine LoadsG.has (by first | assumption | exact St.has (by assumption) (by repeat first | exact .head _ | apply List.Mem.tail) | exact St.arg (by assumption) (by assumption)) (by simp) ?_; conv => whnf)
        | (refine StoreG.st1 (by assumption) (by repeat first | exact .here | apply Spot.there) rfl (fun h' hs' => ?_); conv => whnf)
        | (refine StoreG.stZ (by assumption) (by repeat first | exact .here | apply Spot.there) rfl (by first | (simp; done) | omega | (simp only [List.length_set, List.length_append, List.length_cons, List.length_nil, List.length_replicate, tab_length]; omega) | (simp; omega)) (fun h' hs' => ?_); conv => whnf)
        | (refine Ck.mk (by simp; omega) ?_; conv => whnf))
      exact ⟨k + 1, (Less.cons rfl (Less.cons rfl (Less.cons rfl (Less.cons rfl (Less.cons rfl (Less.nil _)))))), ⟨by omega, by rw [← onesT_set]; exact hs'⟩, by omega⟩
    · obtain rfl : k = q.length := by omega
      repeat' (first
        | (refine And.intro ?_ ?_ <;> (conv => whnf))
        | (refine NewG.stZ hs2 rfl (fun bz h' hs3 => ?_); conv => whnf)
        | (refine (copyInts_ok q _ _ _ _ (St.arg hs3 hb) rfl (by omega)).mono ?_; rintro v h' ⟨bc, rfl, hn⟩; have hs4 := St.newCall hs3 hn; clear hn; conv => whnf)
        | (refine (copyInts_ok q _ _ _ _ (St.arg hs2 hb) rfl (by omega)).mono ?_; rintro v h' ⟨bc, rfl, hn⟩; have hs3' := St.newCall hs2 hn; clear hn; conv => whnf)
        | (refine NewG.stZ hs3' rfl (fun bz h' hs4' => ?_); have hs4 := St.perm hs4' (.swap _ _ _); conv => whnf)
        | (refine NewG.st hs4 (fun bt h' hs5 => ?_); conv => whnf)
        | refine AW.seq ?_
        | (refine AW.region ?_; conv => whnf)
        | refine AW.block ?_
        | (refine AW.skip ?_; conv => whnf)
        | (refine AW.ret ?_; conv => whnf)
        | (refine AW.exit ?_; conv => whnf)
        | refine AW.cond (by rfl) ?_
        | (refine AW.draw (id := 10) (.p 0 (.p 2 (.p 3 (.all [1, 4] fun i => bif Nat.beq i 1 then (.all [4] fun _ => (.all [5] fun _ => (.p 6 .done))) else (.all [1] fun _ => (.all [5] fun _ => (.p 6 .done))))))) (by kernel_rfl) (by kernel_rfl) ?_; conv => whnf)
        | (refine AW.draw (id := 18) (.p 0 (.p 1 (.p 2 (.p 3 (.p 4 (.p 6 (.p 9 (.p 10 (.p 11 (.p 13 (.p 14 (.p 15 (.p 16 (.p 21 (.p 22 (.p 23 (.p 24 (.p 26 (.p 27 (.p 28 (.p 29 (.r 5 [7, 8, 19, 20, 32, 33, 34] (.p 7 (.r 8 [19, 20, 32, 33, 34] (.r 12 [17, 18, 19, 20, 32, 33, 34] (.p 17 (.r 18 [19, 20, 32, 33, 34] (.p 19 (.p 20 (.r 25 [30, 31, 32, 33, 34] (.p 30 (.r 31 [32, 33, 34] (.p 32 (.p 33 (.all [34] fun _ => .done))))))))))))))))))))))))))))))))))) (by kernel_rfl) (by kernel_rfl) ?_; conv => whnf)
        | (refine (iIsQuiddity_ok _ _ _ _ _ (by first | assumption | exact St.has (by assumption) (by repeat first | exact .head _ | apply List.Mem.tail) | exact St.arg (by assumption) (by assumption)) (by first | rfl | omega) (by first | (simp; done) | omega | (simp only [List.length_set, List.length_append, List.length_cons, List.length_nil, List.length_replicate, tab_length]; omega) | (simp; omega))).mono ?_; rintro v h' ⟨rfl, hkq⟩; have hs' := St.keep (by assumption) hkq; clear hkq; conv => whnf)
        | (refine (copyInts_ok _ _ _ _ _ (by first | assumption | exact St.has (by assumption) (by repeat first | exact .head _ | apply List.Mem.tail) | exact St.arg (by assumption) (by assumption)) (by first | rfl | omega) (by first | (simp; done) | omega | (simp only [List.length_set, List.length_append, List.length_cons, List.length_nil, List.length_replicate, tab_length]; omega) | (simp; omega))).mono ?_; rintro v h' ⟨b, rfl, hn⟩; have hs' := St.newCall (by assumption) hn; clear hn; conv => whnf)
        | (refine Br.tt ?_; conv => whnf)
        | (refine Br.ff ?_; conv => whnf)
        | refine Br.not ?_
        | (refine Br.t (beq_self_eq_true _) ?_; conv => whnf)
        | (refine Br.t (by assumption) ?_; conv => whnf)
        | (refine Br.f (by assumption) ?_; conv => whnf)
        | (refine Br.dt (by omega) ?_; conv => whnf)
        | (refine Br.df (by omega) ?_; conv => whnf)
        | (refine Br.it (by omega) ?_; conv => whnf)
        | (refine Br.if (by omega) ?_; conv => whnf)
        | (refine Br.nt (by omega) ?_; conv => whnf)
        | (refine Br.nf (by omega) ?_; conv => whnf)
        | (refine Br.dec (fun hc => ?_) (fun hc => ?_) <;> conv => whnf)
        | (refine Br.ieq (fun hc => ?_) (fun hc => ?_) <;> conv => whnf)
        | (refine Br.ine (fun hc => ?_) (fun hc => ?_) <;> conv => whnf)
        | (refine Br.mk (fun hc => ?_) (fun hc => ?_) <;> conv => whnf)
        | (refine Wr.i64 (by omega) ?_; conv => whnf)
        | (refine Ck.mk (by omega) ?_; conv => whnf)
        | (refine Wr.i64 (by simp only [List.length_drop, List.length_take, List.length_append, List.length_cons, List.length_nil]; omega) ?_; conv => whnf)
        | (refine Ck.mk (by simp only [List.length_drop, List.length_take, List.length_append, List.length_cons, List.length_nil]; omega) ?_; conv => whnf)
        | (refine NewG.stZ (by assumption) rfl (fun bt h' hs' => ?_); conv => whnf)
        | (refine Ck.slice (by omega) (by omega) (by omega) (by decide) ?_; conv => whnf)
        | (refine NewG.st (by assumption) (fun bt h' hs' => ?_); conv => whnf)
        | (refine Has.load1 (by first | assumption | exact St.has (by assumption) (by repeat first | exact .head _ | apply List.Mem.tail) | exact St.arg (by assumption) (by assumption)) ?_; conv => whnf)
        | (refine Has.loadZ (by first | assumption | exact St.has (by assumption) (by repeat first | exact .head _ | apply List.Mem.tail) | exact St.arg (by assumption) (by assumption)) rfl (by first | (simp; done) | omega | (simp only [List.length_set, List.length_append, List.length_cons, List.length_nil, List.length_replicate, tab_length]; omega) | (simp; omega)) ?_; conv => whnf)
        | (refine LoadsG.has (by first | assumption | exact St.has (by assumption) (by repeat first | exact .head _ | apply List.Mem.tail) | exact St.arg (by assumption) (by assumption)) (by simp) ?_; conv => whnf)
        | (refine StoreG.st1 (by assumption) (by repeat first | exact .here | apply Spot.there) rfl (fun h' hs' => ?_); conv => whnf)
        | (refine StoreG.stZ (by assumption) (by repeat first | exact .here | apply Spot.there) rfl (by first | (simp; done) | omega | (simp only [List.length_set, List.length_append, List.length_cons, List.length_nil, List.length_replicate, tab_length]; omega) | (simp; omega)) (fun h' hs' => ?_); conv => whnf)
        | (refine Ck.mk (by simp; omega) ?_; conv => whnf))
      all_goals
        have e3 : slcs [(bz, List.replicate q.length 0), (bo, onesT q.length q.length), (bc, q)] = [.slice bz 0 q.length q.length, .slice bo 0 q.length q.length, .slice bc 0 q.length q.length] := by simp [slcs]
        have hs6 : St h0 h' ((bt, row (slcs [(bz, List.replicate q.length 0), (bo, onesT q.length q.length), (bc, q)])) :: (blks [(bz, List.replicate q.length 0), (bo, onesT q.length q.length), (bc, q)] ++ [])) := by
          rw [e3]
          exact hs5.perm (.cons _ (List.perm_append_comm (l₁ := [_]) (l₂ := [_, _])))
        clear hs5 hs4 hs2
        refine AW.loop3 (fun (k bo : Nat) (R : RL) => [(4, .int .i64 q.length), (7, .slice bo 0 (k + 3) (k + 3)), (8, .int .i64 ((k + 2 : Nat) : Int))]) (fun k bo R h' => k + 3 ≤ q.length + 1 ∧ rws R = (frz q).take (k + 3) ∧ St h0 h' ((bo, row (slcs R)) :: (blks R ++ []))) (fun k _ _ => q.length - k) 0 bt [(bz, List.replicate q.length 0), (bo, onesT q.length q.length), (bc, q)]
          (Less.cons rfl (Less.cons rfl (Less.cons rfl (Less.nil _)))) ⟨by omega, (frz_three hq).symm, hs6⟩ ?_
        clear hs6
        rintro k bo R h2 ⟨hk, hR, hs2⟩
        have lR : R.length = k + 3 := by rw [← rws_length, hR, List.length_take, frz_len]; omega
        by_cases hlt : k + 3 ≤ q.length
        · repeat' (first
            | (refine NewG.stW hs2 rfl (frP_zero q q.length (k + 3)) (fun br h3 hs3 => ?_); conv => whnf)
            | refine AW.seq ?_
            | (refine AW.region ?_; conv => whnf)
            | refine AW.block ?_
            | (refine AW.skip ?_; conv => whnf)
            | (refine AW.ret ?_; conv => whnf)
            | (refine AW.exit ?_; conv => whnf)
            | refine AW.cond (by rfl) ?_
            | (refine AW.draw (id := 10) (.p 0 (.p 2 (.p 3 (.all [1, 4] fun i => bif Nat.beq i 1 then (.all [4] fun _ => (.all [5] fun _ => (.p 6 .done))) else (.all [1] fun _ => (.all [5] fun _ => (.p 6 .done))))))) (by kernel_rfl) (by kernel_rfl) ?_; conv => whnf)
            | (refine AW.draw (id := 18) (.p 0 (.p 1 (.p 2 (.p 3 (.p 4 (.p 6 (.p 9 (.p 10 (.p 11 (.p 13 (.p 14 (.p 15 (.p 16 (.p 21 (.p 22 (.p 23 (.p 24 (.p 26 (.p 27 (.p 28 (.p 29 (.r 5 [7, 8, 19, 20, 32, 33, 34] (.p 7 (.r 8 [19, 20, 32, 33, 34] (.r 12 [17, 18, 19, 20, 32, 33, 34] (.p 17 (.r 18 [19, 20, 32, 33, 34] (.p 19 (.p 20 (.r 25 [30, 31, 32, 33, 34] (.p 30 (.r 31 [32, 33, 34] (.p 32 (.p 33 (.all [34] fun _ => .done))))))))))))))))))))))))))))))))))) (by kernel_rfl) (by kernel_rfl) ?_; conv => whnf)
            | (refine (iIsQuiddity_ok _ _ _ _ _ (by first | assumption | exact St.has (by assumption) (by repeat first | exact .head _ | apply List.Mem.tail) | exact St.arg (by assumption) (by assumption)) (by first | rfl | omega) (by first | (simp; done) | omega | (simp only [List.length_set, List.length_append, List.length_cons, List.length_nil, List.length_replicate, tab_length]; omega) | (simp; omega))).mono ?_; rintro v h' ⟨rfl, hkq⟩; have hs' := St.keep (by assumption) hkq; clear hkq; conv => whnf)
            | (refine (copyInts_ok _ _ _ _ _ (by first | assumption | exact St.has (by assumption) (by repeat first | exact .head _ | apply List.Mem.tail) | exact St.arg (by assumption) (by assumption)) (by first | rfl | omega) (by first | (simp; done) | omega | (simp only [List.length_set, List.length_append, List.length_cons, List.length_nil, List.length_replicate, tab_length]; omega) | (simp; omega))).mono ?_; rintro v h' ⟨b, rfl, hn⟩; have hs' := St.newCall (by assumption) hn; clear hn; conv => whnf)
            | (refine Br.tt ?_; conv => whnf)
            | (refine Br.ff ?_; conv => whnf)
            | refine Br.not ?_
            | (refine Br.t (beq_self_eq_true _) ?_; conv => whnf)
            | (refine Br.t (by assumption) ?_; conv => whnf)
            | (refine Br.f (by assumption) ?_; conv => whnf)
            | (refine Br.dt (by omega) ?_; conv => whnf)
            | (refine Br.df (by omega) ?_; conv => whnf)
            | (refine Br.it (by omega) ?_; conv => whnf)
            | (refine Br.if (by omega) ?_; conv => whnf)
            | (refine Br.nt (by omega) ?_; conv => whnf)
            | (refine Br.nf (by omega) ?_; conv => whnf)
            | (refine Br.dec (fun hc => ?_) (fun hc => ?_) <;> conv => whnf)
            | (refine Br.ieq (fun hc => ?_) (fun hc => ?_) <;> conv => whnf)
            | (refine Br.ine (fun hc => ?_) (fun hc => ?_) <;> conv => whnf)
            | (refine Br.mk (fun hc => ?_) (fun hc => ?_) <;> conv => whnf)
            | (refine Wr.i64 (by omega) ?_; conv => whnf)
            | (refine Ck.mk (by omega) ?_; conv => whnf)
            | (refine Wr.i64 (by simp only [List.length_drop, List.length_take, List.length_append, List.length_cons, List.length_nil]; omega) ?_; conv => whnf)
            | (refine Ck.mk (by simp only [List.length_drop, List.length_take, List.length_append, List.length_cons, List.length_nil]; omega) ?_; conv => whnf)
            | (refine NewG.stZ (by assumption) rfl (fun bt h' hs' => ?_); conv => whnf)
            | (refine Ck.slice (by omega) (by omega) (by omega) (by decide) ?_; conv => whnf)
            | (refine NewG.st (by assumption) (fun bt h' hs' => ?_); conv => whnf)
            | (refine Has.load1 (by first | assumption | exact St.has (by assumption) (by repeat first | exact .head _ | apply List.Mem.tail) | exact St.arg (by assumption) (by assumption)) ?_; conv => whnf)
            | (refine Has.loadZ (by first | assumption | exact St.has (by assumption) (by repeat first | exact .head _ | apply List.Mem.tail) | exact St.arg (by assumption) (by assumption)) rfl (by first | (simp; done) | omega | (simp only [List.length_set, List.length_append, List.length_cons, List.length_nil, List.length_replicate, tab_length]; omega) | (simp; omega)) ?_; conv => whnf)
            | (refine LoadsG.has (by first | assumption | exact St.has (by assumption) (by repeat first | exact .head _ | apply List.Mem.tail) | exact St.arg (by assumption) (by assumption)) (by simp) ?_; conv => whnf)
            | (refine StoreG.st1 (by assumption) (by repeat first | exact .here | apply Spot.there) rfl (fun h' hs' => ?_); conv => whnf)
            | (refine StoreG.stZ (by assumption) (by repeat first | exact .here | apply Spot.there) rfl (by first | (simp; done) | omega | (simp only [List.length_set, List.length_append, List.length_cons, List.length_nil, List.length_replicate, tab_length]; omega) | (simp; omega)) (fun h' hs' => ?_); conv => whnf)
            | (refine Ck.mk (by simp; omega) ?_; conv => whnf))
          refine AW.loop1 (fun (i : Nat) => [(4, .int .i64 q.length), (7, .slice bo 0 (k + 3) (k + 3)), (8, .int .i64 ((k + 2 : Nat) : Int)), (9, .slice br 0 q.length q.length), (43, .int .i64 q.length), (44, .int .i64 i)]) (fun i h' => i ≤ q.length ∧ St h0 h' ((br, row (ints (frP q q.length (k + 3) i))) :: (bo, row (slcs R)) :: (blks R ++ []))) (fun i => q.length - i) 0
            (Less.cons rfl (Less.cons rfl (Less.cons rfl (Less.cons rfl (Less.cons rfl (Less.cons rfl (Less.nil _))))))) ⟨by omega, hs3⟩ ?_
          clear hs3 hs2
          rintro i h4 ⟨hi, hs4⟩
          by_cases hlt2 : i < q.length
          · obtain ⟨f, hf⟩ : ∃ f, rws R = f := ⟨_, rfl⟩
            have hg := hs4.tail.rows
            have hk2 : (i + 1) % q.length < q.length := Nat.mod_lt _ (by omega)
            have htm : ((i : Int) + 1).tmod (q.length : Int) = (((i + 1) % q.length : Nat) : Int) := rfl
            have fz : f = (frz q).take (k + 3) := hf.symm.trans hR
            have g2 : (f.getD (k + 2) []).length = q.length := by rw [frz_at fz (by omega) (by omega), tab_length]
            have g1 : (f.getD (k + 1) []).length = q.length := by rw [frz_at fz (by omega) (by omega), tab_length]
            have w1 : ent f (k + 2) i = frE q (k + 2) i := frz_num fz (by omega) (by omega) hlt2
            have w2 : ent f (k + 2) ((i + 1) % q.length) = frE q (k + 2) ((i + 1) % q.length) := frz_num fz (by omega) (by omega) hk2
            have w3 : ent f (k + 1) ((i + 1) % q.length) = frE q (k + 1) ((i + 1) % q.length) := frz_num fz (by omega) (by omega) hk2
            obtain ⟨u1, u2, u3, u4, u5, u6⟩ := frE_quo hq hlt hlt2
            rw [← w1, ← w2, ← w3] at u3
            rw [← w1, ← w2] at u2
            rw [← w3] at u1
            generalize (i + 1) % q.length = j at *
            repeat' (first
              | (refine Grid.rowAt hg hf (k + 2) rfl (by omega) (by omega) g2 ?_; conv => whnf)
              | (refine Grid.rowAt hg hf (k + 1) rfl (by omega) (by omega) g1 ?_; conv => whnf)
              | (refine Grid.numAt hg hf (k + 2) i rfl (by omega) (by omega) (by omega) ?_; conv => whnf)
              | (refine Grid.numAt hg hf (k + 2) j rfl (by omega) (by omega) (by omega) ?_; conv => whnf)
              | (refine Grid.numAt hg hf (k + 1) j rfl (by omega) (by omega) (by omega) ?_; conv => whnf)
              | (refine StoreG.stZ hs4 .here rfl (by rw [frP_len]; omega) (fun h' hs5 => ?_); conv => whnf)
              | refine AW.seq ?_
              | (refine AW.region ?_; conv => whnf)
              | refine AW.block ?_
              | (refine AW.skip ?_; conv => whnf)
              | (refine AW.ret ?_; conv => whnf)
              | (refine AW.exit ?_; conv => whnf)
              | refine AW.cond (by rfl) ?_
              | (refine AW.draw (id := 10) (.p 0 (.p 2 (.p 3 (.all [1, 4] fun i => bif Nat.beq i 1 then (.all [4] fun _ => (.all [5] fun _ => (.p 6 .done))) else (.all [1] fun _ => (.all [5] fun _ => (.p 6 .done))))))) (by kernel_rfl) (by kernel_rfl) ?_; conv => whnf)
              | (refine AW.draw (id := 18) (.p 0 (.p 1 (.p 2 (.p 3 (.p 4 (.p 6 (.p 9 (.p 10 (.p 11 (.p 13 (.p 14 (.p 15 (.p 16 (.p 21 (.p 22 (.p 23 (.p 24 (.p 26 (.p 27 (.p 28 (.p 29 (.r 5 [7, 8, 19, 20, 32, 33, 34] (.p 7 (.r 8 [19, 20, 32, 33, 34] (.r 12 [17, 18, 19, 20, 32, 33, 34] (.p 17 (.r 18 [19, 20, 32, 33, 34] (.p 19 (.p 20 (.r 25 [30, 31, 32, 33, 34] (.p 30 (.r 31 [32, 33, 34] (.p 32 (.p 33 (.all [34] fun _ => .done))))))))))))))))))))))))))))))))))) (by kernel_rfl) (by kernel_rfl) ?_; conv => whnf)
              | (refine (iIsQuiddity_ok _ _ _ _ _ (by first | assumption | exact St.has (by assumption) (by repeat first | exact .head _ | apply List.Mem.tail) | exact St.arg (by assumption) (by assumption)) (by first | rfl | omega) (by first | (simp; done) | omega | (simp only [List.length_set, List.length_append, List.length_cons, List.length_nil, List.length_replicate, tab_length]; omega) | (simp; omega))).mono ?_; rintro v h' ⟨rfl, hkq⟩; have hs' := St.keep (by assumption) hkq; clear hkq; conv => whnf)
              | (refine (copyInts_ok _ _ _ _ _ (by first | assumption | exact St.has (by assumption) (by repeat first | exact .head _ | apply List.Mem.tail) | exact St.arg (by assumption) (by assumption)) (by first | rfl | omega) (by first | (simp; done) | omega | (simp only [List.length_set, List.length_append, List.length_cons, List.length_nil, List.length_replicate, tab_length]; omega) | (simp; omega))).mono ?_; rintro v h' ⟨b, rfl, hn⟩; have hs' := St.newCall (by assumption) hn; clear hn; conv => whnf)
              | (refine Br.tt ?_; conv => whnf)
              | (refine Br.ff ?_; conv => whnf)
              | refine Br.not ?_
              | (refine Br.t (beq_self_eq_true _) ?_; conv => whnf)
              | (refine Br.t (by assumption) ?_; conv => whnf)
              | (refine Br.f (by assumption) ?_; conv => whnf)
              | (refine Br.dt (by omega) ?_; conv => whnf)
              | (refine Br.df (by omega) ?_; conv => whnf)
              | (refine Br.it (by omega) ?_; conv => whnf)
              | (refine Br.if (by omega) ?_; conv => whnf)
              | (refine Br.nt (by omega) ?_; conv => whnf)
              | (refine Br.nf (by omega) ?_; conv => whnf)
              | (refine Br.dec (fun hc => ?_) (fun hc => ?_) <;> conv => whnf)
              | (refine Br.ieq (fun hc => ?_) (fun hc => ?_) <;> conv => whnf)
              | (refine Br.ine (fun hc => ?_) (fun hc => ?_) <;> conv => whnf)
              | (refine Br.mk (fun hc => ?_) (fun hc => ?_) <;> conv => whnf)
              | (refine Wr.i64 (by omega) ?_; conv => whnf)
              | (refine Ck.mk (by omega) ?_; conv => whnf)
              | (refine Wr.i64 (by simp only [List.length_drop, List.length_take, List.length_append, List.length_cons, List.length_nil]; omega) ?_; conv => whnf)
              | (refine Ck.mk (by simp only [List.length_drop, List.length_take, List.length_append, List.length_cons, List.length_nil]; omega) ?_; conv => whnf)
              | (refine NewG.stZ (by assumption) rfl (fun bt h' hs' => ?_); conv => whnf)
              | (refine Ck.slice (by omega) (by omega) (by omega) (by decide) ?_; conv => whnf)
              | (refine NewG.st (by assumption) (fun bt h' hs' => ?_); conv => whnf)
              | (refine Has.load1 (by first | assumption | exact St.has (by assumption) (by repeat first | exact .head _ | apply List.Mem.tail) | exact St.arg (by assumption) (by assumption)) ?_; conv => whnf)
              | (refine Has.loadZ (by first | assumption | exact St.has (by assumption) (by repeat first | exact .head _ | apply List.Mem.tail) | exact St.arg (by assumption) (by assumption)) rfl (by first | (simp; done) | omega | (simp only [List.length_set, List.length_append, List.length_cons, List.length_nil, List.length_replicate, tab_length]; omega) | (simp; omega)) ?_; conv => whnf)
              | (refine LoadsG.has (by first | assumption | exact St.has (by assumption) (by repeat first | exact .head _ | apply List.Mem.tail) | exact St.arg (by assumption) (by assumption)) (by simp) ?_; conv => whnf)
              | (refine StoreG.st1 (by assumption) (by repeat first | exact .here | apply Spot.there) rfl (fun h' hs' => ?_); conv => whnf)
              | (refine StoreG.stZ (by assumption) (by repeat first | exact .here | apply Spot.there) rfl (by first | (simp; done) | omega | (simp only [List.length_set, List.length_append, List.length_cons, List.length_nil, List.length_replicate, tab_length]; omega) | (simp; omega)) (fun h' hs' => ?_); conv => whnf)
              | (refine Ck.mk (by simp; omega) ?_; conv => whnf))
            refine ⟨i + 1, (Less.cons rfl (Less.cons rfl (Less.cons rfl (Less.cons rfl (Less.cons rfl (Less.cons rfl (Less.nil _))))))), ⟨by omega, ?_⟩, by omega⟩
            rw [← frP_set u3]
            exact hs5
          · obtain rfl : i = q.length := by omega
            repeat' (first
              | (refine AppG.stR (l := frP q q.length (k + 3) q.length) (St.tail hs') lR.symm (by rw [frP_len]) (by omega) (by decide) (fun b2 h' hs5 => ?_); conv => whnf)
              | refine AW.seq ?_
              | (refine AW.region ?_; conv => whnf)
              | refine AW.block ?_
              | (refine AW.skip ?_; conv => whnf)
              | (refine AW.ret ?_; conv => whnf)
              | (refine AW.exit ?_; conv => whnf)
              | refine AW.cond (by rfl) ?_
              | (refine AW.draw (id := 10) (.p 0 (.p 2 (.p 3 (.all [1, 4] fun i => bif Nat.beq i 1 then (.all [4] fun _ => (.all [5] fun _ => (.p 6 .done))) else (.all [1] fun _ => (.all [5] fun _ => (.p 6 .done))))))) (by kernel_rfl) (by kernel_rfl) ?_; conv => whnf)
              | (refine AW.draw (id := 18) (.p 0 (.p 1 (.p 2 (.p 3 (.p 4 (.p 6 (.p 9 (.p 10 (.p 11 (.p 13 (.p 14 (.p 15 (.p 16 (.p 21 (.p 22 (.p 23 (.p 24 (.p 26 (.p 27 (.p 28 (.p 29 (.r 5 [7, 8, 19, 20, 32, 33, 34] (.p 7 (.r 8 [19, 20, 32, 33, 34] (.r 12 [17, 18, 19, 20, 32, 33, 34] (.p 17 (.r 18 [19, 20, 32, 33, 34] (.p 19 (.p 20 (.r 25 [30, 31, 32, 33, 34] (.p 30 (.r 31 [32, 33, 34] (.p 32 (.p 33 (.all [34] fun _ => .done))))))))))))))))))))))))))))))))))) (by kernel_rfl) (by kernel_rfl) ?_; conv => whnf)
              | (refine (iIsQuiddity_ok _ _ _ _ _ (by first | assumption | exact St.has (by assumption) (by repeat first | exact .head _ | apply List.Mem.tail) | exact St.arg (by assumption) (by assumption)) (by first | rfl | omega) (by first | (simp; done) | omega | (simp only [List.length_set, List.length_append, List.length_cons, List.length_nil, List.length_replicate, tab_length]; omega) | (simp; omega))).mono ?_; rintro v h' ⟨rfl, hkq⟩; have hs' := St.keep (by assumption) hkq; clear hkq; conv => whnf)
              | (refine (copyInts_ok _ _ _ _ _ (by first | assumption | exact St.has (by assumption) (by repeat first | exact .head _ | apply List.Mem.tail) | exact St.arg (by assumption) (by assumption)) (by first | rfl | omega) (by first | (simp; done) | omega | (simp only [List.length_set, List.length_append, List.length_cons, List.length_nil, List.length_replicate, tab_length]; omega) | (simp; omega))).mono ?_; rintro v h' ⟨b, rfl, hn⟩; have hs' := St.newCall (by assumption) hn; clear hn; conv => whnf)
              | (refine Br.tt ?_; conv => whnf)
              | (refine Br.ff ?_; conv => whnf)
              | refine Br.not ?_
              | (refine Br.t (beq_self_eq_true _) ?_; conv => whnf)
              | (refine Br.t (by assumption) ?_; conv => whnf)
              | (refine Br.f (by assumption) ?_; conv => whnf)
              | (refine Br.dt (by omega) ?_; conv => whnf)
              | (refine Br.df (by omega) ?_; conv => whnf)
              | (refine Br.it (by omega) ?_; conv => whnf)
              | (refine Br.if (by omega) ?_; conv => whnf)
              | (refine Br.nt (by omega) ?_; conv => whnf)
              | (refine Br.nf (by omega) ?_; conv => whnf)
              | (refine Br.dec (fun hc => ?_) (fun hc => ?_) <;> conv => whnf)
              | (refine Br.ieq (fun hc => ?_) (fun hc => ?_) <;> conv => whnf)
              | (refine Br.ine (fun hc => ?_) (fun hc => ?_) <;> conv => whnf)
              | (refine Br.mk (fun hc => ?_) (fun hc => ?_) <;> conv => whnf)
              | (refine Wr.i64 (by omega) ?_; conv => whnf)
              | (refine Ck.mk (by omega) ?_; conv => whnf)
              | (refine Wr.i64 (by simp only [List.length_drop, List.length_take, List.length_append, List.length_cons, List.length_nil]; omega) ?_; conv => whnf)
              | (refine Ck.mk (by simp only [List.length_drop, List.length_take, List.length_append, List.length_cons, List.length_nil]; omega) ?_; conv => whnf)
              | (refine NewG.stZ (by assumption) rfl (fun bt h' hs' => ?_); conv => whnf)
              | (refine Ck.slice (by omega) (by omega) (by omega) (by decide) ?_; conv => whnf)
              | (refine NewG.st (by assumption) (fun bt h' hs' => ?_); conv => whnf)
              | (refine Has.load1 (by first | assumption | exact St.has (by assumption) (by repeat first | exact .head _ | apply List.Mem.tail) | exact St.arg (by assumption) (by assumption)) ?_; conv => whnf)
              | (refine Has.loadZ (by first | assumption | exact St.has (by assumption) (by repeat first | exact .head _ | apply List.Mem.tail) | exact St.arg (by assumption) (by assumption)) rfl (by first | (simp; done) | omega | (simp only [List.length_set, List.length_append, List.length_cons, List.length_nil, List.length_replicate, tab_length]; omega) | (simp; omega)) ?_; conv => whnf)
              | (refine LoadsG.has (by first | assumption | exact St.has (by assumption) (by repeat first | exact .head _ | apply List.Mem.tail) | exact St.arg (by assumption) (by assumption)) (by simp) ?_; conv => whnf)
              | (refine StoreG.st1 (by assumption) (by repeat first | exact .here | apply Spot.there) rfl (fun h' hs' => ?_); conv => whnf)
              | (refine StoreG.stZ (by assumption) (by repeat first | exact .here | apply Spot.there) rfl (by first | (simp; done) | omega | (simp only [List.length_set, List.length_append, List.length_cons, List.length_nil, List.length_replicate, tab_length]; omega) | (simp; omega)) (fun h' hs' => ?_); conv => whnf)
              | (refine Ck.mk (by simp; omega) ?_; conv => whnf))
            refine ⟨k + 1, b2, _, (Less.cons rfl (Less.cons rfl (Less.cons rfl (Less.nil _)))), ⟨by omega, ?_, hs5⟩, by omega⟩
            rw [rws_append, hR, frz_take (r := k + 3) (by omega), ← frP_full]
            rfl
        · repeat' (first
            | refine AW.seq ?_
            | (refine AW.region ?_; conv => whnf)
            | refine AW.block ?_
            | (refine AW.skip ?_; conv => whnf)
            | (refine AW.ret ?_; conv => whnf)
            | (refine AW.exit ?_; conv => whnf)
            | refine AW.cond (by rfl) ?_
            | (refine AW.draw (id := 10) (.p 0 (.p 2 (.p 3 (.all [1, 4] fun i => bif Nat.beq i 1 then (.all [4] fun _ => (.all [5] fun _ => (.p 6 .done))) else (.all [1] fun _ => (.all [5] fun _ => (.p 6 .done))))))) (by kernel_rfl) (by kernel_rfl) ?_; conv => whnf)
            | (refine AW.draw (id := 18) (.p 0 (.p 1 (.p 2 (.p 3 (.p 4 (.p 6 (.p 9 (.p 10 (.p 11 (.p 13 (.p 14 (.p 15 (.p 16 (.p 21 (.p 22 (.p 23 (.p 24 (.p 26 (.p 27 (.p 28 (.p 29 (.r 5 [7, 8, 19, 20, 32, 33, 34] (.p 7 (.r 8 [19, 20, 32, 33, 34] (.r 12 [17, 18, 19, 20, 32, 33, 34] (.p 17 (.r 18 [19, 20, 32, 33, 34] (.p 19 (.p 20 (.r 25 [30, 31, 32, 33, 34] (.p 30 (.r 31 [32, 33, 34] (.p 32 (.p 33 (.all [34] fun _ => .done))))))))))))))))))))))))))))))))))) (by kernel_rfl) (by kernel_rfl) ?_; conv => whnf)
            | (refine (iIsQuiddity_ok _ _ _ _ _ (by first | assumption | exact St.has (by assumption) (by repeat first | exact .head _ | apply List.Mem.tail) | exact St.arg (by assumption) (by assumption)) (by first | rfl | omega) (by first | (simp; done) | omega | (simp only [List.length_set, List.length_append, List.length_cons, List.length_nil, List.length_replicate, tab_length]; omega) | (simp; omega))).mono ?_; rintro v h' ⟨rfl, hkq⟩; have hs' := St.keep (by assumption) hkq; clear hkq; conv => whnf)
            | (refine (copyInts_ok _ _ _ _ _ (by first | assumption | exact St.has (by assumption) (by repeat first | exact .head _ | apply List.Mem.tail) | exact St.arg (by assumption) (by assumption)) (by first | rfl | omega) (by first | (simp; done) | omega | (simp only [List.length_set, List.length_append, List.length_cons, List.length_nil, List.length_replicate, tab_length]; omega) | (simp; omega))).mono ?_; rintro v h' ⟨b, rfl, hn⟩; have hs' := St.newCall (by assumption) hn; clear hn; conv => whnf)
            | (refine Br.tt ?_; conv => whnf)
            | (refine Br.ff ?_; conv => whnf)
            | refine Br.not ?_
            | (refine Br.t (beq_self_eq_true _) ?_; conv => whnf)
            | (refine Br.t (by assumption) ?_; conv => whnf)
            | (refine Br.f (by assumption) ?_; conv => whnf)
            | (refine Br.dt (by omega) ?_; conv => whnf)
            | (refine Br.df (by omega) ?_; conv => whnf)
            | (refine Br.it (by omega) ?_; conv => whnf)
            | (refine Br.if (by omega) ?_; conv => whnf)
            | (refine Br.nt (by omega) ?_; conv => whnf)
            | (refine Br.nf (by omega) ?_; conv => whnf)
            | (refine Br.dec (fun hc => ?_) (fun hc => ?_) <;> conv => whnf)
            | (refine Br.ieq (fun hc => ?_) (fun hc => ?_) <;> conv => whnf)
            | (refine Br.ine (fun hc => ?_) (fun hc => ?_) <;> conv => whnf)
            | (refine Br.mk (fun hc => ?_) (fun hc => ?_) <;> conv => whnf)
            | (refine Wr.i64 (by omega) ?_; conv => whnf)
            | (refine Ck.mk (by omega) ?_; conv => whnf)
            | (refine Wr.i64 (by simp only [List.length_drop, List.length_take, List.length_append, List.length_cons, List.length_nil]; omega) ?_; conv => whnf)
            | (refine Ck.mk (by simp only [List.length_drop, List.length_take, List.length_append, List.length_cons, List.length_nil]; omega) ?_; conv => whnf)
            | (refine NewG.stZ (by assumption) rfl (fun bt h' hs' => ?_); conv => whnf)
            | (refine Ck.slice (by omega) (by omega) (by omega) (by decide) ?_; conv => whnf)
            | (refine NewG.st (by assumption) (fun bt h' hs' => ?_); conv => whnf)
            | (refine Has.load1 (by first | assumption | exact St.has (by assumption) (by repeat first | exact .head _ | apply List.Mem.tail) | exact St.arg (by assumption) (by assumption)) ?_; conv => whnf)
            | (refine Has.loadZ (by first | assumption | exact St.has (by assumption) (by repeat first | exact .head _ | apply List.Mem.tail) | exact St.arg (by assumption) (by assumption)) rfl (by first | (simp; done) | omega | (simp only [List.length_set, List.length_append, List.length_cons, List.length_nil, List.length_replicate, tab_length]; omega) | (simp; omega)) ?_; conv => whnf)
            | (refine LoadsG.has (by first | assumption | exact St.has (by assumption) (by repeat first | exact .head _ | apply List.Mem.tail) | exact St.arg (by assumption) (by assumption)) (by simp) ?_; conv => whnf)
            | (refine StoreG.st1 (by assumption) (by repeat first | exact .here | apply Spot.there) rfl (fun h' hs' => ?_); conv => whnf)
            | (refine StoreG.stZ (by assumption) (by repeat first | exact .here | apply Spot.there) rfl (by first | (simp; done) | omega | (simp only [List.length_set, List.length_append, List.length_cons, List.length_nil, List.length_replicate, tab_length]; omega) | (simp; omega)) (fun h' hs' => ?_); conv => whnf)
            | (refine Ck.mk (by simp; omega) ?_; conv => whnf))
          refine RetR.mk' (R := R) ?_ (by omega) hs2
          rw [e, hR, List.take_of_length_le (by rw [frz_len]; omega)]
  · have e : friezeR q = ([], false) := if_neg hq
    have hq : isQ q = false := by simpa using hq
    refine AC.enter Try.func9 Try.call9 rfl Try.ntmps9 (of_decide_eq_true (by rfl)) ?_
    repeat' (first
      | (refine (iIsQuiddity_ok q _ _ _ _ hb rfl (by omega)).mono ?_; rw [hq]; rintro v h' ⟨rfl, hkq⟩; have hs1 := St.keep hs hkq; conv => whnf)
      | refine AW.seq ?_
      | (refine AW.region ?_; conv => whnf)
      | refine AW.block ?_
      | (refine AW.skip ?_; conv => whnf)
      | (refine AW.ret ?_; conv => whnf)
      | (refine AW.exit ?_; conv => whnf)
      | refine AW.cond (by rfl) ?_
      | (refine AW.draw (id := 10) (.p 0 (.p 2 (.p 3 (.all [1, 4] fun i => bif Nat.beq i 1 then (.all [4] fun _ => (.all [5] fun _ => (.p 6 .done))) else (.all [1] fun _ => (.all [5] fun _ => (.p 6 .done))))))) (by kernel_rfl) (by kernel_rfl) ?_; conv => whnf)
      | (refine AW.draw (id := 18) (.p 0 (.p 1 (.p 2 (.p 3 (.p 4 (.p 6 (.p 9 (.p 10 (.p 11 (.p 13 (.p 14 (.p 15 (.p 16 (.p 21 (.p 22 (.p 23 (.p 24 (.p 26 (.p 27 (.p 28 (.p 29 (.r 5 [7, 8, 19, 20, 32, 33, 34] (.p 7 (.r 8 [19, 20, 32, 33, 34] (.r 12 [17, 18, 19, 20, 32, 33, 34] (.p 17 (.r 18 [19, 20, 32, 33, 34] (.p 19 (.p 20 (.r 25 [30, 31, 32, 33, 34] (.p 30 (.r 31 [32, 33, 34] (.p 32 (.p 33 (.all [34] fun _ => .done))))))))))))))))))))))))))))))))))) (by kernel_rfl) (by kernel_rfl) ?_; conv => whnf)
      | (refine (iIsQuiddity_ok _ _ _ _ _ (by first | assumption | exact St.has (by assumption) (by repeat first | exact .head _ | apply List.Mem.tail) | exact St.arg (by assumption) (by assumption)) (by first | rfl | omega) (by first | (simp; done) | omega | (simp only [List.length_set, List.length_append, List.length_cons, List.length_nil, List.length_replicate, tab_length]; omega) | (simp; omega))).mono ?_; rintro v h' ⟨rfl, hkq⟩; have hs' := St.keep (by assumption) hkq; clear hkq; conv => whnf)
      | (refine (copyInts_ok _ _ _ _ _ (by first | assumption | exact St.has (by assumption) (by repeat first | exact .head _ | apply List.Mem.tail) | exact St.arg (by assumption) (by assumption)) (by first | rfl | omega) (by first | (simp; done) | omega | (simp only [List.length_set, List.length_append, List.length_cons, List.length_nil, List.length_replicate, tab_length]; omega) | (simp; omega))).mono ?_; rintro v h' ⟨b, rfl, hn⟩; have hs' := St.newCall (by assumption) hn; clear hn; conv => whnf)
      | (refine Br.tt ?_; conv => whnf)
      | (refine Br.ff ?_; conv => whnf)
      | refine Br.not ?_
      | (refine Br.t (beq_self_eq_true _) ?_; conv => whnf)
      | (refine Br.t (by assumption) ?_; conv => whnf)
      | (refine Br.f (by assumption) ?_; conv => whnf)
      | (refine Br.dt (by omega) ?_; conv => whnf)
      | (refine Br.df (by omega) ?_; conv => whnf)
      | (refine Br.it (by omega) ?_; conv => whnf)
      | (refine Br.if (by omega) ?_; conv => whnf)
      | (refine Br.nt (by omega) ?_; conv => whnf)
      | (refine Br.nf (by omega) ?_; conv => whnf)
      | (refine Br.dec (fun hc => ?_) (fun hc => ?_) <;> conv => whnf)
      | (refine Br.ieq (fun hc => ?_) (fun hc => ?_) <;> conv => whnf)
      | (refine Br.ine (fun hc => ?_) (fun hc => ?_) <;> conv => whnf)
      | (refine Br.mk (fun hc => ?_) (fun hc => ?_) <;> conv => whnf)
      | (refine Wr.i64 (by omega) ?_; conv => whnf)
      | (refine Ck.mk (by omega) ?_; conv => whnf)
      | (refine Wr.i64 (by simp only [List.length_drop, List.length_take, List.length_append, List.length_cons, List.length_nil]; omega) ?_; conv => whnf)
      | (refine Ck.mk (by simp only [List.length_drop, List.length_take, List.length_append, List.length_cons, List.length_nil]; omega) ?_; conv => whnf)
      | (refine NewG.stZ (by assumption) rfl (fun bt h' hs' => ?_); conv => whnf)
      | (refine Ck.slice (by omega) (by omega) (by omega) (by decide) ?_; conv => whnf)
      | (refine NewG.st (by assumption) (fun bt h' hs' => ?_); conv => whnf)
      | (refine Has.load1 (by first | assumption | exact St.has (by assumption) (by repeat first | exact .head _ | apply List.Mem.tail) | exact St.arg (by assumption) (by assumption)) ?_; conv => whnf)
      | (refine Has.loadZ (by first | assumption | exact St.has (by assumption) (by repeat first | exact .head _ | apply List.Mem.tail) | exact St.arg (by assumption) (by assumption)) rfl (by first | (simp; done) | omega | (simp only [List.length_set, List.length_append, List.length_cons, List.length_nil, List.length_replicate, tab_length]; omega) | (simp; omega)) ?_; conv => whnf)
      | (refine LoadsG.has (by first | assumption | exact St.has (by assumption) (by repeat first | exact .head _ | apply List.Mem.tail) | exact St.arg (by assumption) (by assumption)) (by simp) ?_; conv => whnf)
      | (refine StoreG.st1 (by assumption) (by repeat first | exact .here | apply Spot.there) rfl (fun h' hs' => ?_); conv => whnf)
      | (refine StoreG.stZ (by assumption) (by repeat first | exact .here | apply Spot.there) rfl (by first | (simp; done) | omega | (simp only [List.length_set, List.length_append, List.length_cons, List.length_nil, List.length_replicate, tab_length]; omega) | (simp; omega)) (fun h' hs' => ?_); conv => whnf)
      | (refine Ck.mk (by simp; omega) ?_; conv => whnf))
    exact RetR.mk' (R := []) e rfl (nilRows hs')

/-- rows of small numbers, all of one length -/
def RowsOk (n : Nat) (f : List (List Int)) : Prop := ∀ l ∈ f, l.length = n ∧ ∀ x ∈ l, 0 ≤ x ∧ x ≤ 100000
theorem RowsOk.len {n : Nat} {f : List (List Int)} (h : RowsOk n f) {r : Nat} (hr : r < f.length) : (f.getD r []).length = n := by
  have e : f.getD r [] = f[r] := by simp [List.getD, hr]
  rw [e]
  exact (h _ (List.getElem_mem hr)).1
theorem RowsOk.bd {n : Nat} {f : List (List Int)} (h : RowsOk n f) (r i : Nat) : 0 ≤ ent f r i ∧ ent f r i ≤ 100000 := by
  unfold ent
  by_cases hr : r < f.length
  · have e : f.getD r [] = f[r] := by simp [List.getD, hr]
    rw [e]
    by_cases hi : i < (f[r]).length
    · have e2 : (f[r]).getD i 0 = (f[r])[i] := by simp [List.getD, hi]
      rw [e2]
      exact (h _ (List.getElem_mem hr)).2 _ (List.getElem_mem hi)
    · have e2 : (f[r]).getD i 0 = 0 := by simp [List.getD, hi]
      rw [e2]
      omega
  · have e : f.getD r [] = [] := by simp [List.getD, hr]
    rw [e]
    simp
theorem RowsOk.snoc {n : Nat} {f : List (List Int)} {l : List Int} (h : RowsOk n f) (hl : l.length = n) (hb : ∀ x ∈ l, 0 ≤ x ∧ x ≤ 100000) : RowsOk n (f ++ [l]) := fun m hm => by
  rcases List.mem_append.1 hm with hm | hm
  · exact h m hm
  · cases List.mem_singleton.1 hm
    exact ⟨hl, hb⟩
theorem getD_row2 (f : List (List Int)) (l : List Int) (h : 3 ≤ f.length) : (f ++ [l]).getD 2 [] = f.getD 2 [] := by
  simp only [List.getD]
  rw [List.getElem?_append_left (by omega)]
theorem ones_rep (n : Nat) : List.replicate n 1 = onesT n n := by
  rw [tab_replicate]
  exact tab_congr fun i hi => by rw [if_pos hi]
theorem rep_snoc (n : Nat) : List.replicate n (1 : Int) ++ [1] = List.replicate (n + 1) 1 := by rw [List.replicate_succ']

def RowsRes (q : List Int) (h0 : H) (v : AV) (h' : H) : Prop :=
  ∃ b R g, v = .slice b 0 g.length g.length ∧ rws R = g ∧ R.length = g.length ∧ St h0 h' ((b, row (slcs R)) :: (blks R ++ [])) ∧ ((g = [] ∧ isQ q = false) ∨ (g.getD 2 [] = q ∧ g.length = q.length + 1 ∧ (isQ q = true → g = frz q)))
theorem RowsRes.mk' {q : List Int} {h0 h' : H} {b N : Nat} {R : RL} {g : List (List Int)} (hN : N = g.length) (hR : rws R = g) (s : St h0 h' ((b, row (slcs R)) :: (blks R ++ []))) (h : (g = [] ∧ isQ q = false) ∨ (g.getD 2 [] = q ∧ g.length = q.length + 1 ∧ (isQ q = true → g = frz q))) : RowsRes q h0 (.slice b 0 N N) h' := by
  subst hN
  exact ⟨b, R, g, rfl, hR, by rw [← hR, rws_length], s, h⟩

set_option maxHeartbeats 4000000 in
theorem l22Rows_ok (q : List Int) (bq N C : Nat) (h0 : H) (hb : Has h0 bq (ints q)) (hN : N = q.length) (sm : smallQ q) : AC env 39 [.slice bq 0 N C] h0 (RowsRes q h0) := by
  have hs := St.refl h0
  subst hN
  have sz := sm.1
  refine AC.enter Try.func39 Try.call39 rfl Try.ntmps39 (of_decide_eq_true (by rfl)) ?_
  repeat' (first
    | (refine NewG.stW hs rfl (l := List.replicate q.length 0) rfl (fun bz h1 hs1 => ?_); conv => whnf)
    | (refine NewG.st hs1 (fun bo h2 hs2 => ?_); conv => whnf)
    | refine AW.seq ?_
    | (refine AW.region ?_; conv => whnf)
    | refine AW.block ?_
    | (refine AW.skip ?_; conv => whnf)
    | (refine AW.ret ?_; conv => whnf)
    | (refine AW.exit ?_; conv => whnf)
    | refine AW.cond (by rfl) ?_
    | (refine AW.draw (id := 16) (.p 0 (.p 1 (.p 2 (.p 3 (.p 5 (.p 8 (.p 9 (.p 10 (.p 11 (.p 13 (.p 14 (.p 15 (.p 16 (.r 4 [6, 7, 19, 20, 21] (.p 6 (.r 7 [19, 20, 21] (.r 12 [17, 18, 19, 20, 21] (.p 17 (.r 18 [19, 20, 21] (.p 19 (.p 20 (.p 21 .done)))))))))))))))))))))) (by kernel_rfl) (by kernel_rfl) ?_; conv => whnf)
    | (refine AW.draw (id := 17) (.p 0 (.p 1 (.p 2 (.p 3 (.p 5 (.p 6 (.p 7 (.p 8 (.r 4 [9, 10, 11] (.p 9 (.r 10 [11] (.p 11 .done)))))))))))) (by kernel_rfl) (by kernel_rfl) ?_; conv => whnf)
    | (refine Br.tt ?_; conv => whnf)
    | (refine Br.ff ?_; conv => whnf)
    | refine Br.not ?_
    | (refine Br.t (beq_self_eq_true _) ?_; conv => whnf)
    | (refine Br.t (by assumption) ?_; conv => whnf)
    | (refine Br.f (by assumption) ?_; conv => whnf)
    | (refine Br.dt (by omega) ?_; conv => whnf)
    | (refine Br.df (by omega) ?_; conv => whnf)
    | (refine Br.it (by omega) ?_; conv => whnf)
    | (refine Br.if (by omega) ?_; conv => whnf)
    | (refine Br.nt (by omega) ?_; conv => whnf)
    | (refine Br.nf (by omega) ?_; conv => whnf)
    | (refine Br.dec (fun hc => ?_) (fun hc => ?_) <;> conv => whnf)
    | (refine Br.ieq (fun hc => ?_) (fun hc => ?_) <;> conv => whnf)
    | (refine Br.ine (fun hc => ?_) (fun hc => ?_) <;> conv => whnf)
    | (refine Br.mk (fun hc => ?_) (fun hc => ?_) <;> conv => whnf)
    | (refine Wr.i64 (by omega) ?_; conv => whnf)
    | (refine Ck.mk (by omega) ?_; conv => whnf)
    | (refine Wr.i64 (by simp only [List.length_drop, List.length_take, List.length_append, List.length_cons, List.length_nil]; omega) ?_; conv => whnf)
    | (refine Ck.mk (by simp only [List.length_drop, List.length_take, List.length_append, List.length_cons, List.length_nil]; omega) ?_; conv => whnf)
    | (refine NewG.stZ (by assumption) rfl (fun bt h' hs' => ?_); conv => whnf)
    | (refine Ck.slice (by omega) (by omega) (by omega) (by decide) ?_; conv => whnf)
    | (refine NewG.st (by assumption) (fun bt h' hs' => ?_); conv => whnf)
    | (refine Has.load1 (by first | assumption | exact St.has (by assumption) (by repeat first | exact .head _ | apply List.Mem.tail) | exact St.arg (by assumption) (by assumption)) ?_; conv => whnf)
    | (refine Has.loadZ (by first | assumption | exact St.has (by assumption) (by repeat first | exact .head _ | apply List.Mem.tail) | exact St.arg (by assumption) (by assumption)) rfl (by first | (simp; done) | omega | (simp only [List.length_set, List.length_append, List.length_cons, List.length_nil, List.length_replicate, tab_length]; omega) | (simp; omega)) ?_; conv => whnf)
    | (refine LoadsG.has (by first | assumption | exact St.has (by assumption) (by repeat first | exact .head _ | apply List.Mem.tail) | exact St.arg (by assumption) (by assumption)) (by simp) ?_; conv => whnf)
    | (refine AppG.stZ (by assumption) (by intro b'; repeat first | exact .here | apply Spot.there) (by first | (simp; done) | omega | (simp only [List.length_set, List.length_append, List.length_cons, List.length_nil, List.length_replicate, tab_length]; omega) | (simp; omega)) (by first | (simp; done) | omega | (simp only [List.length_set, List.length_append, List.length_cons, List.length_nil, List.length_replicate, tab_length]; omega) | (simp; omega)) (by decide) (fun b' h' hs' => ?_); conv => whnf)
    | (refine AppG.stZs (by assumption) (by intro b'; repeat first | exact .here | apply Spot.there) (by first | (simp; done) | omega | (simp only [List.length_set, List.length_append, List.length_cons, List.length_nil, List.length_replicate, tab_length]; omega) | (simp; omega)) (by first | (simp; done) | omega | (simp only [List.length_set, List.length_append, List.length_cons, List.length_nil, List.length_replicate, tab_length]; omega) | (simp; omega)) (by decide) (fun b' h' hs' => ?_); conv => whnf)
    | (refine Ck.mk (by simp; omega) ?_; conv => whnf))
  refine AW.loop2 (fun (k bo : Nat) => [(0, .slice bq 0 q.length C), (3, .int .i64 q.length), (4, .slice bz 0 q.length q.length), (5, .slice bo 0 k k), (6, .int .i64 k)]) (fun k bo h' => k ≤ q.length ∧ St h0 h' [(bo, row (ints (List.replicate k 1))), (bz, row (ints (List.replicate q.length 0)))]) (fun k _ => q.length - k) 0 bo
    (Less.cons rfl (Less.cons rfl (Less.cons rfl (Less.cons rfl (Less.cons rfl (Less.nil _)))))) ⟨by omega, hs2⟩ ?_
  rintro k bo h3 ⟨hk, hs3⟩
  clear hs2 hs1 hs
  by_cases hlt : k < q.length
  · repeat' (first
      | refine AW.seq ?_
      | (refine AW.region ?_; conv => whnf)
      | refine AW.block ?_
      | (refine AW.skip ?_; conv => whnf)
      | (refine AW.ret ?_; conv => whnf)
      | (refine AW.exit ?_; conv => whnf)
      | refine AW.cond (by rfl) ?_
      | (refine AW.draw (id := 16) (.p 0 (.p 1 (.p 2 (.p 3 (.p 5 (.p 8 (.p 9 (.p 10 (.p 11 (.p 13 (.p 14 (.p 15 (.p 16 (.r 4 [6, 7, 19, 20, 21] (.p 6 (.r 7 [19, 20, 21] (.r 12 [17, 18, 19, 20, 21] (.p 17 (.r 18 [19, 20, 21] (.p 19 (.p 20 (.p 21 .done)))))))))))))))))))))) (by kernel_rfl) (by kernel_rfl) ?_; conv => whnf)
      | (refine AW.draw (id := 17) (.p 0 (.p 1 (.p 2 (.p 3 (.p 5 (.p 6 (.p 7 (.p 8 (.r 4 [9, 10, 11] (.p 9 (.r 10 [11] (.p 11 .done)))))))))))) (by kernel_rfl) (by kernel_rfl) ?_; conv => whnf)
      | (refine Br.tt ?_; conv => whnf)
      | (refine Br.ff ?_; conv => whnf)
      | refine Br.not ?_
      | (refine Br.t (beq_self_eq_true _) ?_; conv => whnf)
      | (refine Br.t (by assumption) ?_; conv => whnf)
      | (refine Br.f (by assumption) ?_; conv => whnf)
      | (refine Br.dt (by omega) ?_; conv => whnf)
      | (refine Br.df (by omega) ?_; conv => whnf)
      | (refine Br.it (by omega) ?_; conv => whnf)
      | (refine Br.if (by omega) ?_; conv => whnf)
      | (refine Br.nt (by omega) ?_; conv => whnf)
      | (refine Br.nf (by omega) ?_; conv => whnf)
      | (refine Br.dec (fun hc => ?_) (fun hc => ?_) <;> conv => whnf)
      | (refine Br.ieq (fun hc => ?_) (fun hc => ?_) <;> conv => whnf)
      | (refine Br.ine (fun hc => ?_) (fun hc => ?_) <;> conv => whnf)
      | (refine Br.mk (fun hc => ?_) (fun hc => ?_) <;> conv => whnf)
      | (refine Wr.i64 (by omega) ?_; conv => whnf)
      | (refine Ck.mk (by omega) ?_; conv => whnf)
      | (refine Wr.i64 (by simp only [List.length_drop, List.length_take, List.length_append, List.length_cons, List.length_nil]; omega) ?_; conv => whnf)
      | (refine Ck.mk (by simp only [List.length_drop, List.length_take, List.length_append, List.length_cons, List.length_nil]; omega) ?_; conv => whnf)
      | (refine NewG.stZ (by assumption) rfl (fun bt h' hs' => ?_); conv => whnf)
      | (refine Ck.slice (by omega) (by omega) (by omega) (by decide) ?_; conv => whnf)
      | (refine NewG.st (by assumption) (fun bt h' hs' => ?_); conv => whnf)
      | (refine Has.load1 (by first | assumption | exact St.has (by assumption) (by repeat first | exact .head _ | apply List.Mem.tail) | exact St.arg (by assumption) (by assumption)) ?_; conv => whnf)
      | (refine Has.loadZ (by first | assumption | exact St.has (by assumption) (by repeat first | exact .head _ | apply List.Mem.tail) | exact St.arg (by assumption) (by assumption)) rfl (by first | (simp; done) | omega | (simp only [List.length_set, List.length_append, List.length_cons, List.length_nil, List.length_replicate, tab_length]; omega) | (simp; omega)) ?_; conv => whnf)
      | (refine LoadsG.has (by first | assumption | exact St.has (by assumption) (by repeat first | exact .head _ | apply List.Mem.tail) | exact St.arg (by assumption) (by assumption)) (by simp) ?_; conv => whnf)
      | (refine AppG.stZ (by assumption) (by intro b'; repeat first | exact .here | apply Spot.there) (by first | (simp; done) | omega | (simp only [List.length_set, List.length_append, List.length_cons, List.length_nil, List.length_replicate, tab_length]; omega) | (simp; omega)) (by first | (simp; done) | omega | (simp only [List.length_set, List.length_append, List.length_cons, List.length_nil, List.length_replicate, tab_length]; omega) | (simp; omega)) (by decide) (fun b' h' hs' => ?_); conv => whnf)
      | (refine AppG.stZs (by assumption) (by intro b'; repeat first | exact .here | apply Spot.there) (by first | (simp; done) | omega | (simp only [List.length_set, List.length_append, List.length_cons, List.length_nil, List.length_replicate, tab_length]; omega) | (simp; omega)) (by first | (simp; done) | omega | (simp only [List.length_set, List.length_append, List.length_cons, List.length_nil, List.length_replicate, tab_length]; omega) | (simp; omega)) (by decide) (fun b' h' hs' => ?_); conv => whnf)
      | (refine Ck.mk (by simp; omega) ?_; conv => whnf))
    rw [rep_snoc] at hs'
    exact ⟨k + 1, _, (Less.cons rfl (Less.cons rfl (Less.cons rfl (Less.cons rfl (Less.cons rfl (Less.nil _)))))), ⟨by omega, hs'.tail⟩, by omega⟩
  · obtain rfl : k = q.length := by omega
    repeat' (first
      | (refine LoadsG.has (hb.keep hs4.keeps) (by simp) ?_; conv => whnf)
      | (refine NewG.st hs3 (fun bA hA hs4 => ?_); conv => whnf)
      | (refine AppG.stZs (l := []) hs4 (by intro b'; exact .here) rfl (by simp; omega) (by decide) (fun bc hB hs5 => ?_); rw [List.nil_append] at hs5; conv => whnf)
      | (refine NewG.st hs5 (fun bt h5 hs6 => ?_); conv => whnf)
      | refine AW.seq ?_
      | (refine AW.region ?_; conv => whnf)
      | refine AW.block ?_
      | (refine AW.skip ?_; conv => whnf)
      | (refine AW.ret ?_; conv => whnf)
      | (refine AW.exit ?_; conv => whnf)
      | refine AW.cond (by rfl) ?_
      | (refine AW.draw (id := 16) (.p 0 (.p 1 (.p 2 (.p 3 (.p 5 (.p 8 (.p 9 (.p 10 (.p 11 (.p 13 (.p 14 (.p 15 (.p 16 (.r 4 [6, 7, 19, 20, 21] (.p 6 (.r 7 [19, 20, 21] (.r 12 [17, 18, 19, 20, 21] (.p 17 (.r 18 [19, 20, 21] (.p 19 (.p 20 (.p 21 .done)))))))))))))))))))))) (by kernel_rfl) (by kernel_rfl) ?_; conv => whnf)
      | (refine AW.draw (id := 17) (.p 0 (.p 1 (.p 2 (.p 3 (.p 5 (.p 6 (.p 7 (.p 8 (.r 4 [9, 10, 11] (.p 9 (.r 10 [11] (.p 11 .done)))))))))))) (by kernel_rfl) (by kernel_rfl) ?_; conv => whnf)
      | (refine Br.tt ?_; conv => whnf)
      | (refine Br.ff ?_; conv => whnf)
      | refine Br.not ?_
      | (refine Br.t (beq_self_eq_true _) ?_; conv => whnf)
      | (refine Br.t (by assumption) ?_; conv => whnf)
      | (refine Br.f (by assumption) ?_; conv => whnf)
      | (refine Br.dt (by omega) ?_; conv => whnf)
      | (refine Br.df (by omega) ?_; conv => whnf)
      | (refine Br.it (by omega) ?_; conv => whnf)
      | (refine Br.if (by omega) ?_; conv => whnf)
      | (refine Br.nt (by omega) ?_; conv => whnf)
      | (refine Br.nf (by omega) ?_; conv => whnf)
      | (refine Br.dec (fun hc => ?_) (fun hc => ?_) <;> conv => whnf)
      | (refine Br.ieq (fun hc => ?_) (fun hc => ?_) <;> conv => whnf)
      | (refine Br.ine (fun hc => ?_) (fun hc => ?_) <;> conv => whnf)
      | (refine Br.mk (fun hc => ?_) (fun hc => ?_) <;> conv => whnf)
      | (refine Wr.i64 (by omega) ?_; conv => whnf)
      | (refine Ck.mk (by omega) ?_; conv => whnf)
      | (refine Wr.i64 (by simp only [List.length_drop, List.length_take, List.length_append, List.length_cons, List.length_nil]; omega) ?_; conv => whnf)
      | (refine Ck.mk (by simp only [List.length_drop, List.length_take, List.length_append, List.length_cons, List.length_nil]; omega) ?_; conv => whnf)
      | (refine NewG.stZ (by assumption) rfl (fun bt h' hs' => ?_); conv => whnf)
      | (refine Ck.slice (by omega) (by omega) (by omega) (by decide) ?_; conv => whnf)
      | (refine NewG.st (by assumption) (fun bt h' hs' => ?_); conv => whnf)
      | (refine Has.load1 (by first | assumption | exact St.has (by assumption) (by repeat first | exact .head _ | apply List.Mem.tail) | exact St.arg (by assumption) (by assumption)) ?_; conv => whnf)
      | (refine Has.loadZ (by first | assumption | exact St.has (by assumption) (by repeat first | exact .head _ | apply List.Mem.tail) | exact St.arg (by assumption) (by assumption)) rfl (by first | (simp; done) | omega | (simp only [List.length_set, List.length_append, List.length_cons, List.length_nil, List.length_replicate, tab_length]; omega) | (simp; omega)) ?_; conv => whnf)
      | (refine LoadsG.has (by first | assumption | exact St.has (by assumption) (by repeat first | exact .head _ | apply List.Mem.tail) | exact St.arg (by assumption) (by assumption)) (by simp) ?_; conv => whnf)
      | (refine AppG.stZ (by assumption) (by intro b'; repeat first | exact .here | apply Spot.there) (by first | (simp; done) | omega | (simp only [List.length_set, List.length_append, List.length_cons, List.length_nil, List.length_replicate, tab_length]; omega) | (simp; omega)) (by first | (simp; done) | omega | (simp only [List.length_set, List.length_append, List.length_cons, List.length_nil, List.length_replicate, tab_length]; omega) | (simp; omega)) (by decide) (fun b' h' hs' => ?_); conv => whnf)
      | (refine AppG.stZs (by assumption) (by intro b'; repeat first | exact .here | apply Spot.there) (by first | (simp; done) | omega | (simp only [List.length_set, List.length_append, List.length_cons, List.length_nil, List.length_replicate, tab_length]; omega) | (simp; omega)) (by first | (simp; done) | omega | (simp only [List.length_set, List.length_append, List.length_cons, List.length_nil, List.length_replicate, tab_length]; omega) | (simp; omega)) (by decide) (fun b' h' hs' => ?_); conv => whnf)
      | (refine Ck.mk (by simp; omega) ?_; conv => whnf))
    have e3 : slcs [(bz, List.replicate q.length 0), (bo, List.replicate q.length 1), (bc, q)] = [.slice bz 0 q.length q.length, .slice bo 0 q.length q.length, .slice bc 0 (0 + q.length) (0 + q.length)] := by simp [slcs]
    have hs7 : St h0 h5 ((bt, row (slcs [(bz, List.replicate q.length 0), (bo, List.replicate q.length 1), (bc, q)])) :: (blks [(bz, List.replicate q.length 0), (bo, List.replicate q.length 1), (bc, q)] ++ [])) := by
      rw [e3]
      refine hs6.perm (.cons _ ?_)
      exact (List.perm_append_comm (l₁ := [_]) (l₂ := [_, _])).trans (.swap _ _ _)
    have ok3 : RowsOk q.length [List.replicate q.length 0, List.replicate q.length 1, q] := fun l hl => by
      simp only [List.mem_cons, List.not_mem_nil, or_false] at hl
      rcases hl with rfl | rfl | rfl
      · exact ⟨by simp, fun x hx => by have := List.eq_of_mem_replicate hx; omega⟩
      · exact ⟨by simp, fun x hx => by have := List.eq_of_mem_replicate hx; omega⟩
      · refine ⟨rfl, fun x hx => ?_⟩
        obtain ⟨i, hi, rfl⟩ := List.getElem_of_mem hx
        have := sm.2 i hi
        rw [← getD_of hi] at this
        omega
    clear hs6 hs5 hs4 hs3
    refine AW.loop3 (fun (k bo : Nat) (R : RL) => [(3, .int .i64 q.length), (7, .slice bo 0 (k + 3) (k + 3)), (8, .int .i64 ((k + 3 : Nat) : Int))]) (fun k bo R h' => k + 3 ≤ q.length + 1 ∧ R.length = k + 3 ∧ RowsOk q.length (rws R) ∧ (rws R).getD 2 [] = q ∧ (isQ q = true → rws R = (frz q).take (k + 3)) ∧ St h0 h' ((bo, row (slcs R)) :: (blks R ++ []))) (fun k _ _ => q.length - k) 0 bt [(bz, List.replicate q.length 0), (bo, List.replicate q.length 1), (bc, q)]
      (Less.cons rfl (Less.cons rfl (Less.cons rfl (Less.nil _)))) ⟨by omega, rfl, ok3, rfl, fun hq => by rw [frz_three hq, ← ones_rep]; rfl, hs7⟩ ?_
    clear hs7 ok3 e3
    rintro k bo R h2 ⟨hk, lR, ok, h2q, hfz, hs2⟩
    obtain ⟨f, hf⟩ : ∃ f, rws R = f := ⟨_, rfl⟩
    rw [hf] at ok h2q hfz
    have lf : f.length = k + 3 := by rw [← hf, rws_length, lR]
    by_cases hlt : k + 3 ≤ q.length
    · repeat' (first
        | (refine NewG.st hs2 (fun bn h3 hs3 => ?_); conv => whnf)
        | refine AW.seq ?_
        | (refine AW.region ?_; conv => whnf)
        | refine AW.block ?_
        | (refine AW.skip ?_; conv => whnf)
        | (refine AW.ret ?_; conv => whnf)
        | (refine AW.exit ?_; conv => whnf)
        | refine AW.cond (by rfl) ?_
        | (refine AW.draw (id := 16) (.p 0 (.p 1 (.p 2 (.p 3 (.p 5 (.p 8 (.p 9 (.p 10 (.p 11 (.p 13 (.p 14 (.p 15 (.p 16 (.r 4 [6, 7, 19, 20, 21] (.p 6 (.r 7 [19, 20, 21] (.r 12 [17, 18, 19, 20, 21] (.p 17 (.r 18 [19, 20, 21] (.p 19 (.p 20 (.p 21 .done)))))))))))))))))))))) (by kernel_rfl) (by kernel_rfl) ?_; conv => whnf)
        | (refine AW.draw (id := 17) (.p 0 (.p 1 (.p 2 (.p 3 (.p 5 (.p 6 (.p 7 (.p 8 (.r 4 [9, 10, 11] (.p 9 (.r 10 [11] (.p 11 .done)))))))))))) (by kernel_rfl) (by kernel_rfl) ?_; conv => whnf)
        | (refine Br.tt ?_; conv => whnf)
        | (refine Br.ff ?_; conv => whnf)
        | refine Br.not ?_
        | (refine Br.t (beq_self_eq_true _) ?_; conv => whnf)
        | (refine Br.t (by assumption) ?_; conv => whnf)
        | (refine Br.f (by assumption) ?_; conv => whnf)
        | (refine Br.dt (by omega) ?_; conv => whnf)
        | (refine Br.df (by omega) ?_; conv => whnf)
        | (refine Br.it (by omega) ?_; conv => whnf)
        | (refine Br.if (by omega) ?_; conv => whnf)
        | (refine Br.nt (by omega) ?_; conv => whnf)
        | (refine Br.nf (by omega) ?_; conv => whnf)
        | (refine Br.dec (fun hc => ?_) (fun hc => ?_) <;> conv => whnf)
        | (refine Br.ieq (fun hc => ?_) (fun hc => ?_) <;> conv => whnf)
        | (refine Br.ine (fun hc => ?_) (fun hc => ?_) <;> conv => whnf)
        | (refine Br.mk (fun hc => ?_) (fun hc => ?_) <;> conv => whnf)
        | (refine Wr.i64 (by omega) ?_; conv => whnf)
        | (refine Ck.mk (by omega) ?_; conv => whnf)
        | (refine Wr.i64 (by simp only [List.length_drop, List.length_take, List.length_append, List.length_cons, List.length_nil]; omega) ?_; conv => whnf)
        | (refine Ck.mk (by simp only [List.length_drop, List.length_take, List.length_append, List.length_cons, List.length_nil]; omega) ?_; conv => whnf)
        | (refine NewG.stZ (by assumption) rfl (fun bt h' hs' => ?_); conv => whnf)
        | (refine Ck.slice (by omega) (by omega) (by omega) (by decide) ?_; conv => whnf)
        | (refine NewG.st (by assumption) (fun bt h' hs' => ?_); conv => whnf)
        | (refine Has.load1 (by first | assumption | exact St.has (by assumption) (by repeat first | exact .head _ | apply List.Mem.tail) | exact St.arg (by assumption) (by assumption)) ?_; conv => whnf)
        | (refine Has.loadZ (by first | assumption | exact St.has (by assumption) (by repeat first | exact .head _ | apply List.Mem.tail) | exact St.arg (by assumption) (by assumption)) rfl (by first | (simp; done) | omega | (simp only [List.length_set, List.length_append, List.length_cons, List.length_nil, List.length_replicate, tab_length]; omega) | (simp; omega)) ?_; conv => whnf)
        | (refine LoadsG.has (by first | assumption | exact St.has (by assumption) (by repeat first | exact .head _ | apply List.Mem.tail) | exact St.arg (by assumption) (by assumption)) (by simp) ?_; conv => whnf)
        | (refine AppG.stZ (by assumption) (by intro b'; repeat first | exact .here | apply Spot.there) (by first | (simp; done) | omega | (simp only [List.length_set, List.length_append, List.length_cons, List.length_nil, List.length_replicate, tab_length]; omega) | (simp; omega)) (by first | (simp; done) | omega | (simp only [List.length_set, List.length_append, List.length_cons, List.length_nil, List.length_replicate, tab_length]; omega) | (simp; omega)) (by decide) (fun b' h' hs' => ?_); conv => whnf)
        | (refine AppG.stZs (by assumption) (by intro b'; repeat first | exact .here | apply Spot.there) (by first | (simp; done) | omega | (simp only [List.length_set, List.length_append, List.length_cons, List.length_nil, List.length_replicate, tab_length]; omega) | (simp; omega)) (by first | (simp; done) | omega | (simp only [List.length_set, List.length_append, List.length_cons, List.length_nil, List.length_replicate, tab_length]; omega) | (simp; omega)) (by decide) (fun b' h' hs' => ?_); conv => whnf)
        | (refine Ck.mk (by simp; omega) ?_; conv => whnf))
      refine AW.loop3 (fun (i bn : Nat) (l : List Int) => [(3, .int .i64 q.length), (7, .slice bo 0 (k + 3) (k + 3)), (8, .int .i64 ((k + 3 : Nat) : Int)), (9, .slice bn 0 i i), (10, .int .i64 i)]) (fun i bn l h' => i ≤ q.length ∧ l.length = i ∧ (∀ x ∈ l, 0 ≤ x ∧ x ≤ 100000) ∧ (isQ q = true → l = tab i (frE q (k + 3))) ∧ St h0 h' ((bn, row (ints l)) :: (bo, row (slcs R)) :: (blks R ++ []))) (fun i _ _ => q.length - i) 0 bn []
        (Less.cons rfl (Less.cons rfl (Less.cons rfl (Less.cons rfl (Less.cons rfl (Less.nil _)))))) ⟨by omega, rfl, fun x hx => (nomatch hx), fun _ => rfl, hs3⟩ ?_
      clear hs3 hs2
      rintro i bn l h4 ⟨hi, ll, bl, hl, hs4⟩
      by_cases hlt2 : i < q.length
      · have hg := hs4.tail.rows
        have hk2 : (i + 1) % q.length < q.length := Nat.mod_lt _ (by omega)
        have htm : ((i : Int) + 1).tmod (q.length : Int) = (((i + 1) % q.length : Nat) : Int) := rfl
        have g2 : (f.getD (k + 2) []).length = q.length := ok.len (by omega)
        have g1 : (f.getD (k + 1) []).length = q.length := ok.len (by omega)
        have b1 := prod_bd (ok.bd (k + 2) i) (ok.bd (k + 2) ((i + 1) % q.length))
        have b2 := ok.bd (k + 1) ((i + 1) % q.length)
        have yes : isQ q = true → (1 ≤ ent f (k + 1) ((i + 1) % q.length)) ∧ (ent f (k + 2) i * ent f (k + 2) ((i + 1) % q.length) - 1).tdiv (ent f (k + 1) ((i + 1) % q.length)) = frE q (k + 3) i ∧
            (ent f (k + 2) i * ent f (k + 2) ((i + 1) % q.length) - 1).tmod (ent f (k + 1) ((i + 1) % q.length)) = 0 ∧ 0 ≤ frE q (k + 3) i ∧ frE q (k + 3) i ≤ 100000 := fun hq => by
          have fz := hfz hq
          have w1 : ent f (k + 2) i = frE q (k + 2) i := frz_num fz (by omega) (by omega) hlt2
          have w2 : ent f (k + 2) ((i + 1) % q.length) = frE q (k + 2) ((i + 1) % q.length) := frz_num fz (by omega) (by omega) hk2
          have w3 : ent f (k + 1) ((i + 1) % q.length) = frE q (k + 1) ((i + 1) % q.length) := frz_num fz (by omega) (by omega) hk2
          obtain ⟨u1, u2, u3, u4, u5, u6⟩ := frE_quo hq hlt hlt2
          rw [w1, w2, w3]
          exact ⟨u1.1, u3, u4, u5, u6⟩
        have tq : ∀ x y : Int, 1 ≤ y → -1 ≤ x → x ≤ 10000000000 → (-10000000000 ≤ x.tdiv y ∧ x.tdiv y ≤ 10000000000) ∧ (-10000000000 ≤ x.tmod y ∧ x.tmod y ≤ 10000000000) := fun x y hy h1 h2 => by
          have e := Int.mul_tdiv_add_tmod x y
          have n1 : x.tdiv y = if 0 ≤ x then x / y else -((-x) / y) := by
            split
            · rename_i h; exact Int.tdiv_eq_ediv_of_nonneg h
            · rename_i h
              have := Int.neg_tdiv (-x) y
              rw [Int.neg_neg] at this
              rw [this, Int.tdiv_eq_ediv_of_nonneg (by omega)]
          have n2 : 0 ≤ x → 0 ≤ x / y ∧ x / y ≤ x := fun h => ⟨Int.ediv_nonneg h (by omega), Int.ediv_le_self y h⟩
          have n3 : ¬ 0 ≤ x → 0 ≤ (-x) / y ∧ (-x) / y ≤ -x := fun h => ⟨Int.ediv_nonneg (by omega) (by omega), Int.ediv_le_self y (by omega)⟩
          have m1 : 0 ≤ x → 0 ≤ x.tmod y ∧ x.tmod y ≤ x := fun h => by
            have := Int.tmod_nonneg y h
            refine ⟨this, ?_⟩
            have a1 : 0 ≤ x.tdiv y := Int.tdiv_nonneg h (by omega)
            have a2 : 0 ≤ y * x.tdiv y := Int.mul_nonneg (by omega) a1
            omega
          have m2 : ¬ 0 ≤ x → -1 ≤ x.tmod y ∧ x.tmod y ≤ 1 := fun h => by
            have hx : x = -1 := by omega
            subst hx
            rw [Int.neg_tmod]
            have a1 := Int.tmod_nonneg (a := 1) y (by omega)
            have a2 : 0 ≤ (1 : Int).tdiv y := Int.tdiv_nonneg (by omega) (by omega)
            have a3 : 0 ≤ y * (1 : Int).tdiv y := Int.mul_nonneg (by omega) a2
            have a4 := Int.mul_tdiv_add_tmod 1 y
            omega
          by_cases h : 0 ≤ x
          · rw [if_pos h] at n1
            have := n2 h
            have := m1 h
            omega
          · rw [if_neg h] at n1
            have := n3 h
            have := m2 h
            omega
        have tq := fun hy => tq (ent f (k + 2) i * ent f (k + 2) ((i + 1) % q.length) - 1) (ent f (k + 1) ((i + 1) % q.length)) hy (by omega) (by omega)
        generalize (i + 1) % q.length = j at *
        by_cases hb1 : ent f (k + 1) j < 1
        · repeat' (first
            | (refine Grid.rowAt hg hf (k + 2) rfl (by omega) (by omega) g2 ?_; conv => whnf)
            | (refine Grid.rowAt hg hf (k + 1) rfl (by omega) (by omega) g1 ?_; conv => whnf)
            | (refine Grid.numAt hg hf (k + 2) i rfl (by omega) (by omega) (by omega) ?_; conv => whnf)
            | (refine Grid.numAt hg hf (k + 2) j rfl (by omega) (by omega) (by omega) ?_; conv => whnf)
            | (refine Grid.numAt hg hf (k + 1) j rfl (by omega) (by omega) (by omega) ?_; conv => whnf)
            | refine AW.seq ?_
            | (refine AW.region ?_; conv => whnf)
            | refine AW.block ?_
            | (refine AW.skip ?_; conv => whnf)
            | (refine AW.ret ?_; conv => whnf)
            | (refine AW.exit ?_; conv => whnf)
            | refine AW.cond (by rfl) ?_
            | (refine AW.draw (id := 16) (.p 0 (.p 1 (.p 2 (.p 3 (.p 5 (.p 8 (.p 9 (.p 10 (.p 11 (.p 13 (.p 14 (.p 15 (.p 16 (.r 4 [6, 7, 19, 20, 21] (.p 6 (.r 7 [19, 20, 21] (.r 12 [17, 18, 19, 20, 21] (.p 17 (.r 18 [19, 20, 21] (.p 19 (.p 20 (.p 21 .done)))))))))))))))))))))) (by kernel_rfl) (by kernel_rfl) ?_; conv => whnf)
            | (refine AW.draw (id := 17) (.p 0 (.p 1 (.p 2 (.p 3 (.p 5 (.p 6 (.p 7 (.p 8 (.r 4 [9, 10, 11] (.p 9 (.r 10 [11] (.p 11 .done)))))))))))) (by kernel_rfl) (by kernel_rfl) ?_; conv => whnf)
            | (refine Br.tt ?_; conv => whnf)
            | (refine Br.ff ?_; conv => whnf)
            | refine Br.not ?_
            | (refine Br.t (beq_self_eq_true _) ?_; conv => whnf)
            | (refine Br.t (by assumption) ?_; conv => whnf)
            | (refine Br.f (by assumption) ?_; conv => whnf)
            | (refine Br.dt (by omega) ?_; conv => whnf)
            | (refine Br.df (by omega) ?_; conv => whnf)
            | (refine Br.it (by omega) ?_; conv => whnf)
            | (refine Br.if (by omega) ?_; conv => whnf)
            | (refine Br.nt (by omega) ?_; conv => whnf)
            | (refine Br.nf (by omega) ?_; conv => whnf)
            | (refine Br.dec (fun hc => ?_) (fun hc => ?_) <;> conv => whnf)
            | (refine Br.ieq (fun hc => ?_) (fun hc => ?_) <;> conv => whnf)
            | (refine Br.ine (fun hc => ?_) (fun hc => ?_) <;> conv => whnf)
            | (refine Br.mk (fun hc => ?_) (fun hc => ?_) <;> conv => whnf)
            | (refine Wr.i64 (by omega) ?_; conv => whnf)
            | (refine Ck.mk (by omega) ?_; conv => whnf)
            | (refine Wr.i64 (by simp only [List.length_drop, List.length_take, List.length_append, List.length_cons, List.length_nil]; omega) ?_; conv => whnf)
            | (refine Ck.mk (by simp only [List.length_drop, List.length_take, List.length_append, List.length_cons, List.length_nil]; omega) ?_; conv => whnf)
            | (refine NewG.stZ (by assumption) rfl (fun bt h' hs' => ?_); conv => whnf)
            | (refine Ck.slice (by omega) (by omega) (by omega) (by decide) ?_; conv => whnf)
            | (refine NewG.st (by assumption) (fun bt h' hs' => ?_); conv => whnf)
            | (refine Has.load1 (by first | assumption | exact St.has (by assumption) (by repeat first | exact .head _ | apply List.Mem.tail) | exact St.arg (by assumption) (by assumption)) ?_; conv => whnf)
            | (refine Has.loadZ (by first | assumption | exact St.has (by assumption) (by repeat first | exact .head _ | apply List.Mem.tail) | exact St.arg (by assumption) (by assumption)) rfl (by first | (simp; done) | omega | (simp only [List.length_set, List.length_append, List.length_cons, List.length_nil, List.length_replicate, tab_length]; omega) | (simp; omega)) ?_; conv => whnf)
            | (refine LoadsG.has (by first | assumption | exact St.has (by assumption) (by repeat first | exact .head _ | apply List.Mem.tail) | exact St.arg (by assumption) (by assumption)) (by simp) ?_; conv => whnf)
            | (refine AppG.stZ (by assumption) (by intro b'; repeat first | exact .here | apply Spot.there) (by first | (simp; done) | omega | (simp only [List.length_set, List.length_append, List.length_cons, List.length_nil, List.length_replicate, tab_length]; omega) | (simp; omega)) (by first | (simp; done) | omega | (simp only [List.length_set, List.length_append, List.length_cons, List.length_nil, List.length_replicate, tab_length]; omega) | (simp; omega)) (by decide) (fun b' h' hs' => ?_); conv => whnf)
            | (refine AppG.stZs (by assumption) (by intro b'; repeat first | exact .here | apply Spot.there) (by first | (simp; done) | omega | (simp only [List.length_set, List.length_append, List.length_cons, List.length_nil, List.length_replicate, tab_length]; omega) | (simp; omega)) (by first | (simp; done) | omega | (simp only [List.length_set, List.length_append, List.length_cons, List.length_nil, List.length_replicate, tab_length]; omega) | (simp; omega)) (by decide) (fun b' h' hs' => ?_); conv => whnf)
            | (refine Ck.mk (by simp; omega) ?_; conv => whnf))
          all_goals
            refine RowsRes.mk' (R := []) (g := []) rfl rfl (nilRows (St.sub hs' (List.Sublist.cons_cons _ (List.nil_sublist _)))) (.inl ⟨rfl, ?_⟩)
            rw [Bool.eq_false_iff]
            intro hq
            have := (yes hq).1
            omega
        · have tq := tq (by omega)
          generalize ed : (ent f (k + 2) i * ent f (k + 2) j - 1).tdiv (ent f (k + 1) j) = D at *
          generalize em : (ent f (k + 2) i * ent f (k + 2) j - 1).tmod (ent f (k + 1) j) = M at *
          repeat' (first
            | (refine Grid.rowAt hg hf (k + 2) rfl (by omega) (by omega) g2 ?_; conv => whnf)
            | (refine Grid.rowAt hg hf (k + 1) rfl (by omega) (by omega) g1 ?_; conv => whnf)
            | (refine Grid.numAt hg hf (k + 2) i rfl (by omega) (by omega) (by omega) ?_; conv => whnf)
            | (refine Grid.numAt hg hf (k + 2) j rfl (by omega) (by omega) (by omega) ?_; conv => whnf)
            | (refine Grid.numAt hg hf (k + 1) j rfl (by omega) (by omega) (by omega) ?_; conv => whnf)
            | (rw [ed])
            | (rw [em])
            | refine AW.seq ?_
            | (refine AW.region ?_; conv => whnf)
            | refine AW.block ?_
            | (refine AW.skip ?_; conv => whnf)
            | (refine AW.ret ?_; conv => whnf)
            | (refine AW.exit ?_; conv => whnf)
            | refine AW.cond (by rfl) ?_
            | (refine AW.draw (id := 16) (.p 0 (.p 1 (.p 2 (.p 3 (.p 5 (.p 8 (.p 9 (.p 10 (.p 11 (.p 13 (.p 14 (.p 15 (.p 16 (.r 4 [6, 7, 19, 20, 21] (.p 6 (.r 7 [19, 20, 21] (.r 12 [17, 18, 19, 20, 21] (.p 17 (.r 18 [19, 20, 21] (.p 19 (.p 20 (.p 21 .done)))))))))))))))))))))) (by kernel_rfl) (by kernel_rfl) ?_; conv => whnf)
            | (refine AW.draw (id := 17) (.p 0 (.p 1 (.p 2 (.p 3 (.p 5 (.p 6 (.p 7 (.p 8 (.r 4 [9, 10, 11] (.p 9 (.r 10 [11] (.p 11 .done)))))))))))) (by kernel_rfl) (by kernel_rfl) ?_; conv => whnf)
            | (refine Br.tt ?_; conv => whnf)
            | (refine Br.ff ?_; conv => whnf)
            | refine Br.not ?_
            | (refine Br.t (beq_self_eq_true _) ?_; conv => whnf)
            | (refine Br.t (by assumption) ?_; conv => whnf)
            | (refine Br.f (by assumption) ?_; conv => whnf)
            | (refine Br.dt (by omega) ?_; conv => whnf)
            | (refine Br.df (by omega) ?_; conv => whnf)
            | (refine Br.it (by omega) ?_; conv => whnf)
            | (refine Br.if (by omega) ?_; conv => whnf)
            | (refine Br.nt (by omega) ?_; conv => whnf)
            | (refine Br.nf (by omega) ?_; conv => whnf)
            | (refine Br.dec (fun hc => ?_) (fun hc => ?_) <;> conv => whnf)
            | (refine Br.ieq (fun hc => ?_) (fun hc => ?_) <;> conv => whnf)
            | (refine Br.ine (fun hc => ?_) (fun hc => ?_) <;> conv => whnf)
            | (refine Br.mk (fun hc => ?_) (fun hc => ?_) <;> conv => whnf)
            | (refine Wr.i64 (by omega) ?_; conv => whnf)
            | (refine Ck.mk (by omega) ?_; conv => whnf)
            | (refine Wr.i64 (by simp only [List.length_drop, List.length_take, List.length_append, List.length_cons, List.length_nil]; omega) ?_; conv => whnf)
            | (refine Ck.mk (by simp only [List.length_drop, List.length_take, List.length_append, List.length_cons, List.length_nil]; omega) ?_; conv => whnf)
            | (refine NewG.stZ (by assumption) rfl (fun bt h' hs' => ?_); conv => whnf)
            | (refine Ck.slice (by omega) (by omega) (by omega) (by decide) ?_; conv => whnf)
            | (refine NewG.st (by assumption) (fun bt h' hs' => ?_); conv => whnf)
            | (refine Has.load1 (by first | assumption | exact St.has (by assumption) (by repeat first | exact .head _ | apply List.Mem.tail) | exact St.arg (by assumption) (by assumption)) ?_; conv => whnf)
            | (refine Has.loadZ (by first | assumption | exact St.has (by assumption) (by repeat first | exact .head _ | apply List.Mem.tail) | exact St.arg (by assumption) (by assumption)) rfl (by first | (simp; done) | omega | (simp only [List.length_set, List.length_append, List.length_cons, List.length_nil, List.length_replicate, tab_length]; omega) | (simp; omega)) ?_; conv => whnf)
            | (refine LoadsG.has (by first | assumption | exact St.has (by assumption) (by repeat first | exact .head _ | apply List.Mem.tail) | exact St.arg (by assumption) (by assumption)) (by simp) ?_; conv => whnf)
            | (refine AppG.stZ (by assumption) (by intro b'; repeat first | exact .here | apply Spot.there) (by first | (simp; done) | omega | (simp only [List.length_set, List.length_append, List.length_cons, List.length_nil, List.length_replicate, tab_length]; omega) | (simp; omega)) (by first | (simp; done) | omega | (simp only [List.length_set, List.length_append, List.length_cons, List.length_nil, List.length_replicate, tab_length]; omega) | (simp; omega)) (by decide) (fun b' h' hs' => ?_); conv => whnf)
            | (refine AppG.stZs (by assumption) (by intro b'; repeat first | exact .here | apply Spot.there) (by first | (simp; done) | omega | (simp only [List.length_set, List.length_append, List.length_cons, List.length_nil, List.length_replicate, tab_length]; omega) | (simp; omega)) (by first | (simp; done) | omega | (simp only [List.length_set, List.length_append, List.length_cons, List.length_nil, List.length_replicate, tab_length]; omega) | (simp; omega)) (by decide) (fun b' h' hs' => ?_); conv => whnf)
            | (refine Ck.mk (by simp; omega) ?_; conv => whnf))
          all_goals first
            | (refine RowsRes.mk' (R := []) (g := []) rfl rfl (nilRows (St.sub hs' (List.Sublist.cons_cons _ (List.nil_sublist _)))) (.inl ⟨rfl, ?_⟩)
               rw [Bool.eq_false_iff]
               intro hq
               have := yes hq
               omega)
            | (refine ⟨i + 1, _, l ++ [D], (Less.cons rfl (Less.cons rfl (Less.cons rfl (Less.cons rfl (Less.cons rfl (Less.nil _)))))), ⟨by omega, by simp [ll], fun x hx => ?_, fun hq => ?_, hs'.tail⟩, by omega⟩
               · rcases List.mem_append.1 hx with hx | hx
                 · exact bl x hx
                 · cases List.mem_singleton.1 hx
                   omega
               · have := (yes hq).2.1
                 rw [tab_succ, hl hq, this])
      · obtain rfl : i = q.length := by omega
        repeat' (first
          | (refine AppG.stR (l := l) (St.tail hs') lR.symm (by omega) (by omega) (by decide) (fun b2 h' hs5 => ?_); conv => whnf)
          | refine AW.seq ?_
          | (refine AW.region ?_; conv => whnf)
          | refine AW.block ?_
          | (refine AW.skip ?_; conv => whnf)
          | (refine AW.ret ?_; conv => whnf)
          | (refine AW.exit ?_; conv => whnf)
          | refine AW.cond (by rfl) ?_
          | (refine AW.draw (id := 16) (.p 0 (.p 1 (.p 2 (.p 3 (.p 5 (.p 8 (.p 9 (.p 10 (.p 11 (.p 13 (.p 14 (.p 15 (.p 16 (.r 4 [6, 7, 19, 20, 21] (.p 6 (.r 7 [19, 20, 21] (.r 12 [17, 18, 19, 20, 21] (.p 17 (.r 18 [19, 20, 21] (.p 19 (.p 20 (.p 21 .done)))))))))))))))))))))) (by kernel_rfl) (by kernel_rfl) ?_; conv => whnf)
          | (refine AW.draw (id := 17) (.p 0 (.p 1 (.p 2 (.p 3 (.p 5 (.p 6 (.p 7 (.p 8 (.r 4 [9, 10, 11] (.p 9 (.r 10 [11] (.p 11 .done)))))))))))) (by kernel_rfl) (by kernel_rfl) ?_; conv => whnf)
          | (refine Br.tt ?_; conv => whnf)
          | (refine Br.ff ?_; conv => whnf)
          | refine Br.not ?_
          | (refine Br.t (beq_self_eq_true _) ?_; conv => whnf)
          | (refine Br.t (by assumption) ?_; conv => whnf)
          | (refine Br.f (by assumption) ?_; conv => whnf)
          | (refine Br.dt (by omega) ?_; conv => whnf)
          | (refine Br.df (by omega) ?_; conv => whnf)
          | (refine Br.it (by omega) ?_; conv => whnf)
          | (refine Br.if (by omega) ?_; conv => whnf)
          | (refine Br.nt (by omega) ?_; conv => whnf)
          | (refine Br.nf (by omega) ?_; conv => whnf)
          | (refine Br.dec (fun hc => ?_) (fun hc => ?_) <;> conv => whnf)
          | (refine Br.ieq (fun hc => ?_) (fun hc => ?_) <;> conv => whnf)
          | (refine Br.ine (fun hc => ?_) (fun hc => ?_) <;> conv => whnf)
          | (refine Br.mk (fun hc => ?_) (fun hc => ?_) <;> conv => whnf)
          | (refine Wr.i64 (by omega) ?_; conv => whnf)
          | (refine Ck.mk (by omega) ?_; conv => whnf)
          | (refine Wr.i64 (by simp only [List.length_drop, List.length_take, List.length_append, List.length_cons, List.length_nil]; omega) ?_; conv => whnf)
          | (refine Ck.mk (by simp only [List.length_drop, List.length_take, List.length_append, List.length_cons, List.length_nil]; omega) ?_; conv => whnf)
          | (refine NewG.stZ (by assumption) rfl (fun bt h' hs' => ?_); conv => whnf)
          | (refine Ck.slice (by omega) (by omega) (by omega) (by decide) ?_; conv => whnf)
          | (refine NewG.st (by assumption) (fun bt h' hs' => ?_); conv => whnf)
          | (refine Has.load1 (by first | assumption | exact St.has (by assumption) (by repeat first | exact .head _ | apply List.Mem.tail) | exact St.arg (by assumption) (by assumption)) ?_; conv => whnf)
          | (refine Has.loadZ (by first | assumption | exact St.has (by assumption) (by repeat first | exact .head _ | apply List.Mem.tail) | exact St.arg (by assumption) (by assumption)) rfl (by first | (simp; done) | omega | (simp only [List.length_set, List.length_append, List.length_cons, List.length_nil, List.length_replicate, tab_length]; omega) | (simp; omega)) ?_; conv => whnf)
          | (refine LoadsG.has (by first | assumption | exact St.has (by assumption) (by repeat first | exact .head _ | apply List.Mem.tail) | exact St.arg (by assumption) (by assumption)) (by simp) ?_; conv => whnf)
          | (refine AppG.stZ (by assumption) (by intro b'; repeat first | exact .here | apply Spot.there) (by first | (simp; done) | omega | (simp only [List.length_set, List.length_append, List.length_cons, List.length_nil, List.length_replicate, tab_length]; omega) | (simp; omega)) (by first | (simp; done) | omega | (simp only [List.length_set, List.length_append, List.length_cons, List.length_nil, List.length_replicate, tab_length]; omega) | (simp; omega)) (by decide) (fun b' h' hs' => ?_); conv => whnf)
          | (refine AppG.stZs (by assumption) (by intro b'; repeat first | exact .here | apply Spot.there) (by first | (simp; done) | omega | (simp only [List.length_set, List.length_append, List.length_cons, List.length_nil, List.length_replicate, tab_length]; omega) | (simp; omega)) (by first | (simp; done) | omega | (simp only [List.length_set, List.length_append, List.length_cons, List.length_nil, List.length_replicate, tab_length]; omega) | (simp; omega)) (by decide) (fun b' h' hs' => ?_); conv => whnf)
          | (refine Ck.mk (by simp; omega) ?_; conv => whnf))
        refine ⟨k + 1, b2, _, (Less.cons rfl (Less.cons rfl (Less.cons rfl (Less.nil _)))), ⟨by omega, by simp [lR], ?_, ?_, fun hq => ?_, hs5⟩, by omega⟩
        · rw [rws_append, hf]
          exact ok.snoc ll bl
        · rw [rws_append, hf]
          exact (getD_row2 f l (by omega)).trans h2q
        · rw [rws_append, hf, hfz hq, frz_take (r := k + 3) (by omega), ← hl hq]
          rfl
    · repeat' (first
        | refine AW.seq ?_
        | (refine AW.region ?_; conv => whnf)
        | refine AW.block ?_
        | (refine AW.skip ?_; conv => whnf)
        | (refine AW.ret ?_; conv => whnf)
        | (refine AW.exit ?_; conv => whnf)
        | refine AW.cond (by rfl) ?_
        | (refine AW.draw (id := 16) (.p 0 (.p 1 (.p 2 (.p 3 (.p 5 (.p 8 (.p 9 (.p 10 (.p 11 (.p 13 (.p 14 (.p 15 (.p 16 (.r 4 [6, 7, 19, 20, 21] (.p 6 (.r 7 [19, 20, 21] (.r 12 [17, 18, 19, 20, 21] (.p 17 (.r 18 [19, 20, 21] (.p 19 (.p 20 (.p 21 .done)))))))))))))))))))))) (by kernel_rfl) (by kernel_rfl) ?_; conv => whnf)
        | (refine AW.draw (id := 17) (.p 0 (.p 1 (.p 2 (.p 3 (.p 5 (.p 6 (.p 7 (.p 8 (.r 4 [9, 10, 11] (.p 9 (.r 10 [11] (.p 11 .done)))))))))))) (by kernel_rfl) (by kernel_rfl) ?_; conv => whnf)
        | (refine Br.tt ?_; conv => whnf)
        | (refine Br.ff ?_; conv => whnf)
        | refine Br.not ?_
        | (refine Br.t (beq_self_eq_true _) ?_; conv => whnf)
        | (refine Br.t (by assumption) ?_; conv => whnf)
        | (refine Br.f (by assumption) ?_; conv => whnf)
        | (refine Br.dt (by omega) ?_; conv => whnf)
        | (refine Br.df (by omega) ?_; conv => whnf)
        | (refine Br.it (by omega) ?_; conv => whnf)
        | (refine Br.if (by omega) ?_; conv => whnf)
        | (refine Br.nt (by omega) ?_; conv => whnf)
        | (refine Br.nf (by omega) ?_; conv => whnf)
        | (refine Br.dec (fun hc => ?_) (fun hc => ?_) <;> conv => whnf)
        | (refine Br.ieq (fun hc => ?_) (fun hc => ?_) <;> conv => whnf)
        | (refine Br.ine (fun hc => ?_) (fun hc => ?_) <;> conv => whnf)
        | (refine Br.mk (fun hc => ?_) (fun hc => ?_) <;> conv => whnf)
        | (refine Wr.i64 (by omega) ?_; conv => whnf)
        | (refine Ck.mk (by omega) ?_; conv => whnf)
        | (refine Wr.i64 (by simp only [List.length_drop, List.length_take, List.length_append, List.length_cons, List.length_nil]; omega) ?_; conv => whnf)
        | (refine Ck.mk (by simp only [List.length_drop, List.length_take, List.length_append, List.length_cons, List.length_nil]; omega) ?_; conv => whnf)
        | (refine NewG.stZ (by assumption) rfl (fun bt h' hs' => ?_); conv => whnf)
        | (refine Ck.slice (by omega) (by omega) (by omega) (by decide) ?_; conv => whnf)
        | (refine NewG.st (by assumption) (fun bt h' hs' => ?_); conv => whnf)
        | (refine Has.load1 (by first | assumption | exact St.has (by assumption) (by repeat first | exact .head _ | apply List.Mem.tail) | exact St.arg (by assumption) (by assumption)) ?_; conv => whnf)
        | (refine Has.loadZ (by first | assumption | exact St.has (by assumption) (by repeat first | exact .head _ | apply List.Mem.tail) | exact St.arg (by assumption) (by assumption)) rfl (by first | (simp; done) | omega | (simp only [List.length_set, List.length_append, List.length_cons, List.length_nil, List.length_replicate, tab_length]; omega) | (simp; omega)) ?_; conv => whnf)
        | (refine LoadsG.has (by first | assumption | exact St.has (by assumption) (by repeat first | exact .head _ | apply List.Mem.tail) | exact St.arg (by assumption) (by assumption)) (by simp) ?_; conv => whnf)
        | (refine AppG.stZ (by assumption) (by intro b'; repeat first | exact .here | apply Spot.there) (by first | (simp; done) | omega | (simp only [List.length_set, List.length_append, List.length_cons, List.length_nil, List.length_replicate, tab_length]; omega) | (simp; omega)) (by first | (simp; done) | omega | (simp only [List.length_set, List.length_append, List.length_cons, List.length_nil, List.length_replicate, tab_length]; omega) | (simp; omega)) (by decide) (fun b' h' hs' => ?_); conv => whnf)
        | (refine AppG.stZs (by assumption) (by intro b'; repeat first | exact .here | apply Spot.there) (by first | (simp; done) | omega | (simp only [List.length_set, List.length_append, List.length_cons, List.length_nil, List.length_replicate, tab_length]; omega) | (simp; omega)) (by first | (simp; done) | omega | (simp only [List.length_set, List.length_append, List.length_cons, List.length_nil, List.length_replicate, tab_length]; omega) | (simp; omega)) (by decide) (fun b' h' hs' => ?_); conv => whnf)
        | (refine Ck.mk (by simp; omega) ?_; conv => whnf))
      refine RowsRes.mk' (by omega) hf hs2 (.inr ⟨h2q, by omega, fun hq => ?_⟩)
      rw [hfz hq, List.take_of_length_le (by rw [frz_len]; omega)]

set_option maxHeartbeats 1000000 in
theorem sFriezeOf_ok (q : List Int) (bq N C : Nat) (h0 : H) (hb : Has h0 bq (ints q)) (hN : N = q.length) (hl : N ≤ 100000000) : AC env 18 [.slice bq 0 N C] h0 (RetR (friezeR q) h0) := by
  have hs := St.refl h0
  subst hN
  have no : isQ q = false → friezeR q = ([], false) := fun hq => if_neg (by rw [hq]; simp)
  by_cases sm : smallQ q
  · have ds : decide (smallQ q) = true := decide_eq_true sm
    refine AC.enter Try.func18 Try.call18 rfl Try.ntmps18 (of_decide_eq_true (by rfl)) ?_
    repeat' (first
      | (refine (l22Fine_ok q _ _ _ _ hb rfl (by omega)).mono ?_; rw [ds]; rintro v h' ⟨rfl, e'⟩; subst h'; conv => whnf)
      | (refine (l22Rows_ok q _ _ _ _ hb rfl sm).mono ?_; rintro v h' ⟨b, R, g, rfl, hR, lR, hs1, hor⟩; conv => whnf)
      | refine AW.seq ?_
      | (refine AW.region ?_; conv => whnf)
      | refine AW.block ?_
      | (refine AW.skip ?_; conv => whnf)
      | (refine AW.ret ?_; conv => whnf)
      | (refine AW.exit ?_; conv => whnf)
      | refine AW.cond (by rfl) ?_
      | (refine (l22Fine_ok _ _ _ _ _ (by first | assumption | exact St.has (by assumption) (by repeat first | exact .head _ | apply List.Mem.tail) | exact St.arg (by assumption) (by assumption)) (by first | rfl | omega) (by omega)).mono ?_; rintro v h' ⟨rfl, e'⟩; subst h'; conv => whnf)
      | (refine (sIsFrieze_ok _ _ _ _ _ _ (by first | assumption | exact Grid.keep (by assumption) (by assumption)) (by assumption) (by omega) (by omega)).mono ?_; rintro v h' ⟨rfl, e'⟩; subst h'; conv => whnf)
      | (refine Br.tt ?_; conv => whnf)
      | (refine Br.ff ?_; conv => whnf)
      | refine Br.not ?_
      | (refine Br.t (beq_self_eq_true _) ?_; conv => whnf)
      | (refine Br.t (by assumption) ?_; conv => whnf)
      | (refine Br.f (by assumption) ?_; conv => whnf)
      | (refine Br.dt (by omega) ?_; conv => whnf)
      | (refine Br.df (by omega) ?_; conv => whnf)
      | (refine Br.it (by omega) ?_; conv => whnf)
      | (refine Br.if (by omega) ?_; conv => whnf)
      | (refine Br.nt (by omega) ?_; conv => whnf)
      | (refine Br.nf (by omega) ?_; conv => whnf)
      | (refine Br.dec (fun hc => ?_) (fun hc => ?_) <;> conv => whnf)
      | (refine Br.ieq (fun hc => ?_) (fun hc => ?_) <;> conv => whnf)
      | (refine Br.ine (fun hc => ?_) (fun hc => ?_) <;> conv => whnf)
      | (refine Br.mk (fun hc => ?_) (fun hc => ?_) <;> conv => whnf)
      | (refine Wr.i64 (by omega) ?_; conv => whnf)
      | (refine Ck.mk (by omega) ?_; conv => whnf)
      | (refine Wr.i64 (by simp only [List.length_drop, List.length_take, List.length_append, List.length_cons, List.length_nil]; omega) ?_; conv => whnf)
      | (refine Ck.mk (by simp only [List.length_drop, List.length_take, List.length_append, List.length_cons, List.length_nil]; omega) ?_; conv => whnf)
      | (refine NewG.st (by assumption) (fun bt h' hs' => ?_); conv => whnf)
      | (refine Ck.mk (by simp; omega) ?_; conv => whnf))
    have sz := sm.1
    have lg : g.length ≤ 11 := by
      rcases hor with ⟨rfl, _⟩ | ⟨_, e, _⟩
      · simp
      · omega
    by_cases hF : isF g = true
    · have hq : isQ q = true := by
        rcases hor with ⟨rfl, _⟩ | ⟨e, _, _⟩
        · rw [isF_nil] at hF; cases hF
        · exact frieze_isQ sm hF e
      have hg : g = frz q := by
        rcases hor with ⟨_, e⟩ | ⟨_, _, e⟩
        · rw [hq] at e; cases e
        · exact e hq
      have e : friezeR q = (frz q, true) := if_pos hq
      repeat' (first
        | (refine (sIsFrieze_ok R g _ _ _ _ hs1.rows hR rfl (by omega)).mono ?_; rw [hF]; rintro v h' ⟨rfl, e'⟩; subst h'; conv => whnf)
        | refine AW.seq ?_
        | (refine AW.region ?_; conv => whnf)
        | refine AW.block ?_
        | (refine AW.skip ?_; conv => whnf)
        | (refine AW.ret ?_; conv => whnf)
        | (refine AW.exit ?_; conv => whnf)
        | refine AW.cond (by rfl) ?_
        | (refine (l22Fine_ok _ _ _ _ _ (by first | assumption | exact St.has (by assumption) (by repeat first | exact .head _ | apply List.Mem.tail) | exact St.arg (by assumption) (by assumption)) (by first | rfl | omega) (by omega)).mono ?_; rintro v h' ⟨rfl, e'⟩; subst h'; conv => whnf)
        | (refine (sIsFrieze_ok _ _ _ _ _ _ (by first | assumption | exact Grid.keep (by assumption) (by assumption)) (by assumption) (by omega) (by omega)).mono ?_; rintro v h' ⟨rfl, e'⟩; subst h'; conv => whnf)
        | (refine Br.tt ?_; conv => whnf)
        | (refine Br.ff ?_; conv => whnf)
        | refine Br.not ?_
        | (refine Br.t (beq_self_eq_true _) ?_; conv => whnf)
        | (refine Br.t (by assumption) ?_; conv => whnf)
        | (refine Br.f (by assumption) ?_; conv => whnf)
        | (refine Br.dt (by omega) ?_; conv => whnf)
        | (refine Br.df (by omega) ?_; conv => whnf)
        | (refine Br.it (by omega) ?_; conv => whnf)
        | (refine Br.if (by omega) ?_; conv => whnf)
        | (refine Br.nt (by omega) ?_; conv => whnf)
        | (refine Br.nf (by omega) ?_; conv => whnf)
        | (refine Br.dec (fun hc => ?_) (fun hc => ?_) <;> conv => whnf)
        | (refine Br.ieq (fun hc => ?_) (fun hc => ?_) <;> conv => whnf)
        | (refine Br.ine (fun hc => ?_) (fun hc => ?_) <;> conv => whnf)
        | (refine Br.mk (fun hc => ?_) (fun hc => ?_) <;> conv => whnf)
        | (refine Wr.i64 (by omega) ?_; conv => whnf)
        | (refine Ck.mk (by omega) ?_; conv => whnf)
        | (refine Wr.i64 (by simp only [List.length_drop, List.length_take, List.length_append, List.length_cons, List.length_nil]; omega) ?_; conv => whnf)
        | (refine Ck.mk (by simp only [List.length_drop, List.length_take, List.length_append, List.length_cons, List.length_nil]; omega) ?_; conv => whnf)
        | (refine NewG.st (by assumption) (fun bt h' hs' => ?_); conv => whnf)
        | (refine Ck.mk (by simp; omega) ?_; conv => whnf))
      exact RetR.mk' (by rw [e, hR, hg]) lR.symm hs1
    · have hF : isF g = false := by simpa using hF
      have hq : isQ q = false := by
        rcases hor with ⟨_, e⟩ | ⟨_, _, e⟩
        · exact e
        · rw [Bool.eq_false_iff]
          intro hq
          rw [e hq, frz_fine hq] at hF
          cases hF
      repeat' (first
        | (refine (sIsFrieze_ok R g _ _ _ _ hs1.rows hR rfl (by omega)).mono ?_; rw [hF]; rintro v h' ⟨rfl, e'⟩; subst h'; conv => whnf)
        | refine AW.seq ?_
        | (refine AW.region ?_; conv => whnf)
        | refine AW.block ?_
        | (refine AW.skip ?_; conv => whnf)
        | (refine AW.ret ?_; conv => whnf)
        | (refine AW.exit ?_; conv => whnf)
        | refine AW.cond (by rfl) ?_
        | (refine (l22Fine_ok _ _ _ _ _ (by first | assumption | exact St.has (by assumption) (by repeat first | exact .head _ | apply List.Mem.tail) | exact St.arg (by assumption) (by assumption)) (by first | rfl | omega) (by omega)).mono ?_; rintro v h' ⟨rfl, e'⟩; subst h'; conv => whnf)
        | (refine (sIsFrieze_ok _ _ _ _ _ _ (by first | assumption | exact Grid.keep (by assumption) (by assumption)) (by assumption) (by omega) (by omega)).mono ?_; rintro v h' ⟨rfl, e'⟩; subst h'; conv => whnf)
        | (refine Br.tt ?_; conv => whnf)
        | (refine Br.ff ?_; conv => whnf)
        | refine Br.not ?_
        | (refine Br.t (beq_self_eq_true _) ?_; conv => whnf)
        | (refine Br.t (by assumption) ?_; conv => whnf)
        | (refine Br.f (by assumption) ?_; conv => whnf)
        | (refine Br.dt (by omega) ?_; conv => whnf)
        | (refine Br.df (by omega) ?_; conv => whnf)
        | (refine Br.it (by omega) ?_; conv => whnf)
        | (refine Br.if (by omega) ?_; conv => whnf)
        | (refine Br.nt (by omega) ?_; conv => whnf)
        | (refine Br.nf (by omega) ?_; conv => whnf)
        | (refine Br.dec (fun hc => ?_) (fun hc => ?_) <;> conv => whnf)
        | (refine Br.ieq (fun hc => ?_) (fun hc => ?_) <;> conv => whnf)
        | (refine Br.ine (fun hc => ?_) (fun hc => ?_) <;> conv => whnf)
        | (refine Br.mk (fun hc => ?_) (fun hc => ?_) <;> conv => whnf)
        | (refine Wr.i64 (by omega) ?_; conv => whnf)
        | (refine Ck.mk (by omega) ?_; conv => whnf)
        | (refine Wr.i64 (by simp only [List.length_drop, List.length_take, List.length_append, List.length_cons, List.length_nil]; omega) ?_; conv => whnf)
        | (refine Ck.mk (by simp only [List.length_drop, List.length_take, List.length_append, List.length_cons, List.length_nil]; omega) ?_; conv => whnf)
        | (refine NewG.st (by assumption) (fun bt h' hs' => ?_); conv => whnf)
        | (refine Ck.mk (by simp; omega) ?_; conv => whnf))
      exact RetR.mk' (R := []) (no hq) rfl (nilRows (St.sub hs' (List.Sublist.cons_cons _ (List.nil_sublist _))))
  · have ds : decide (smallQ q) = false := decide_eq_false sm
    have hq : isQ q = false := by
      rw [Bool.eq_false_iff]
      intro h
      exact sm (isQ_sm h)
    refine AC.enter Try.func18 Try.call18 rfl Try.ntmps18 (of_decide_eq_true (by rfl)) ?_
    repeat' (first
      | (refine (l22Fine_ok q _ _ _ _ hb rfl (by omega)).mono ?_; rw [ds]; rintro v h' ⟨rfl, e'⟩; subst h'; conv => whnf)
      | refine AW.seq ?_
      | (refine AW.region ?_; conv => whnf)
      | refine AW.block ?_
      | (refine AW.skip ?_; conv => whnf)
      | (refine AW.ret ?_; conv => whnf)
      | (refine AW.exit ?_; conv => whnf)
      | refine AW.cond (by rfl) ?_
      | (refine (l22Fine_ok _ _ _ _ _ (by first | assumption | exact St.has (by assumption) (by repeat first | exact .head _ | apply List.Mem.tail) | exact St.arg (by assumption) (by assumption)) (by first | rfl | omega) (by omega)).mono ?_; rintro v h' ⟨rfl, e'⟩; subst h'; conv => whnf)
      | (refine (sIsFrieze_ok _ _ _ _ _ _ (by first | assumption | exact Grid.keep (by assumption) (by assumption)) (by assumption) (by omega) (by omega)).mono ?_; rintro v h' ⟨rfl, e'⟩; subst h'; conv => whnf)
      | (refine Br.tt ?_; conv => whnf)
      | (refine Br.ff ?_; conv => whnf)
      | refine Br.not ?_
      | (refine Br.t (beq_self_eq_true _) ?_; conv => whnf)
      | (refine Br.t (by assumption) ?_; conv => whnf)
      | (refine Br.f (by assumption) ?_; conv => whnf)
      | (refine Br.dt (by omega) ?_; conv => whnf)
      | (refine Br.df (by omega) ?_; conv => whnf)
      | (refine Br.it (by omega) ?_; conv => whnf)
      | (refine Br.if (by omega) ?_; conv => whnf)
      | (refine Br.nt (by omega) ?_; conv => whnf)
      | (refine Br.nf (by omega) ?_; conv => whnf)
      | (refine Br.dec (fun hc => ?_) (fun hc => ?_) <;> conv => whnf)
      | (refine Br.ieq (fun hc => ?_) (fun hc => ?_) <;> conv => whnf)
      | (refine Br.ine (fun hc => ?_) (fun hc => ?_) <;> conv => whnf)
      | (refine Br.mk (fun hc => ?_) (fun hc => ?_) <;> conv => whnf)
      | (refine Wr.i64 (by omega) ?_; conv => whnf)
      | (refine Ck.mk (by omega) ?_; conv => whnf)
      | (refine Wr.i64 (by simp only [List.length_drop, List.length_take, List.length_append, List.length_cons, List.length_nil]; omega) ?_; conv => whnf)
      | (refine Ck.mk (by simp only [List.length_drop, List.length_take, List.length_append, List.length_cons, List.length_nil]; omega) ?_; conv => whnf)
      | (refine NewG.st (by assumption) (fun bt h' hs' => ?_); conv => whnf)
      | (refine Ck.mk (by simp; omega) ?_; conv => whnf))
    exact RetR.mk' (R := []) (no hq) rfl (nilRows hs')

theorem friezeR_len (q : List Int) : (friezeR q).1.length ≤ 11 := by
  unfold friezeR
  split
  · rename_i h
    have := (isQ_sm h).1
    rw [frz_len]
    omega
  · simp
theorem friezeR_tot (q : List Int) : totL (friezeR q).1 ≤ 2000000 := by
  have h1 : ∀ l ∈ (friezeR q).1, l.length ≤ 10 := by
    unfold friezeR
    split
    · rename_i h
      intro l hl
      have s := (isQ_sm h).1
      obtain ⟨r, hr, e⟩ := List.getElem_of_mem hl
      have hr' : r < q.length + 1 := by rw [← frz_len]; exact hr
      have e2 : (frz q).getD r [] = l := by rw [← e]; simp [List.getD, show r < (frz q).length from hr]
      rw [← e2, frz_row q hr', tab_length]
      omega
    · intro l hl; cases hl
  have := totL_le h1
  have := friezeR_len q
  omega

end Go.Proofs.Ytbicfognbbeigaa
