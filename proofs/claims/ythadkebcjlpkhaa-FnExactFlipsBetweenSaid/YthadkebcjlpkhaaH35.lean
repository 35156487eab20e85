/-
  Contracts of rows of rows of rows are proved.
  They hold for all such rows.
-/
import Derived.Test.YthadkebcjlpkhaaH34
set_option linter.unusedVariables false
set_option linter.unusedSimpArgs false
namespace Go.Proofs.Ythadkebcjlpkhaa
open Go.Proofs.Ythadkebcjlpkhaa.Ab Go.Proofs.Ythadkebcjlpkhaa.Pl

/-! three levels of rows -/
abbrev RL3 := List (Nat × RL)
def slc3 (S : RL3) : List AV := S.map fun r => .slice r.1 0 r.2.length r.2.length
def blk3 (S : RL3) : List (Nat × Blk) := S.flatMap fun r => (r.1, row (slcs r.2)) :: blks r.2
def rw3 (S : RL3) : List (List (List Int)) := S.map fun r => rws r.2
def rb3 (S : RL3) (i : Nat) : Nat := (S.getD i (0, [])).1
def rl3 (S : RL3) (i : Nat) : RL := (S.getD i (0, [])).2
def tot3 (f : List (List (List Int))) : Nat := (f.map totL).sum
theorem slc3_append (A B : RL3) : slc3 (A ++ B) = slc3 A ++ slc3 B := List.map_append
theorem blk3_append (A B : RL3) : blk3 (A ++ B) = blk3 A ++ blk3 B := List.flatMap_append
theorem blk3_cons (r : Nat × RL) (A : RL3) : blk3 (r :: A) = (r.1, row (slcs r.2)) :: (blks r.2 ++ blk3 A) := by simp [blk3]
theorem rw3_append (A B : RL3) : rw3 (A ++ B) = rw3 A ++ rw3 B := List.map_append
theorem rw3_length (A : RL3) : (rw3 A).length = A.length := List.length_map _
theorem slc3_length (A : RL3) : (slc3 A).length = A.length := List.length_map _
theorem tot3_append (f g : List (List (List Int))) : tot3 (f ++ g) = tot3 f + tot3 g := by simp [tot3]
theorem tot3_cons (l : List (List Int)) (f : List (List (List Int))) : tot3 (l :: f) = totL l + tot3 f := by simp [tot3]
theorem tot3_mem {f : List (List (List Int))} {l : List (List Int)} (h : l ∈ f) : totL l ≤ tot3 f := by
  induction f with
  | nil => cases h
  | cons x f ih =>
    rw [tot3_cons]
    cases h with
    | head => omega
    | tail _ h => have := ih h; omega
theorem tot3_le {f : List (List (List Int))} {m : Nat} (h : ∀ l ∈ f, totL l ≤ m) : tot3 f ≤ f.length * m := by
  induction f with
  | nil => simp [tot3]
  | cons x f ih =>
    rw [tot3_cons, List.length_cons, Nat.add_mul]
    have := ih fun l hl => h l (.tail _ hl)
    have := h x (.head _)
    omega
theorem rl3_mem (S : RL3) (i : Nat) (h : i < S.length) : (rb3 S i, rl3 S i) ∈ S := by
  have e : S.getD i (0, []) = S[i] := by simp [List.getD, h]
  unfold rb3 rl3
  rw [e]
  exact List.getElem_mem h
theorem slc3_get (S : RL3) (i : Nat) (h : i < S.length) : (slc3 S)[i]? = some (.slice (rb3 S i) 0 (rl3 S i).length (rl3 S i).length) := by
  unfold slc3 rb3 rl3
  rw [List.getElem?_map, List.getElem?_eq_getElem h]
  simp [List.getD, h]
theorem rw3_at {S : RL3} {f : List (List (List Int))} (hf : rw3 S = f) (i : Nat) : f.getD i [] = rws (rl3 S i) := by
  subst hf
  unfold rw3 rl3
  simp only [List.getD, List.getElem?_map]
  cases S[i]? <;> rfl
structure Cube (h : H) (b : Nat) (S : RL3) : Prop where
  out : Has h b (slc3 S)
  inn : ∀ r ∈ S, Grid h r.1 r.2
theorem Cube.keep {h h' : H} {b : Nat} {S : RL3} (m : Cube h b S) (k : Keeps h h') : Cube h' b S := ⟨m.out.keep k, fun r hr => (m.inn r hr).keep k⟩
theorem Cube.at {h : H} {b : Nat} {S : RL3} (m : Cube h b S) {i : Nat} (hi : i < S.length) : Grid h (rb3 S i) (rl3 S i) := m.inn _ (rl3_mem S i hi)
theorem Cube.rowAt {h : H} {b : Nat} {S : RL3} {f : List (List (List Int))} (m : Cube h b S) (hf : rw3 S = f) (r : Nat) {n sz q : Nat} (hs : sz = 1) {K : AV → Prop} (e : n = r) (ho : r < S.length) (hl : (f.getD r []).length = q) (hk : K (.slice (rb3 S r) 0 q q)) : LoadG h b (0 + mulSz n sz) K := by
  subst e
  rw [rw3_at hf, rws_length] at hl
  subst hl
  exact m.out.loadAt hs (slc3_get S n ho) hk
theorem blk3_mem {S : RL3} {r : Nat × RL} (h : r ∈ S) : (r.1, row (slcs r.2)) ∈ blk3 S ∧ ∀ p ∈ blks r.2, p ∈ blk3 S :=
  ⟨List.mem_flatMap.2 ⟨r, h, .head _⟩, fun p hp => List.mem_flatMap.2 ⟨r, h, .tail _ hp⟩⟩
theorem St.cubeIn {h0 h : H} {L : List (Nat × Blk)} {b : Nat} {S : RL3} (s : St h0 h L) (m : (b, row (slc3 S)) ∈ L) (mm : ∀ p ∈ blk3 S, p ∈ L) : Cube h b S :=
  ⟨s.has m, fun r hr => s.rowsIn (mm _ (blk3_mem hr).1) fun p hp => mm _ ((blk3_mem hr).2 p hp)⟩

inductive CSpot : List (Nat × Blk) → Nat → RL3 → RL3 → List (Nat × Blk) → Prop where
  | here {b : Nat} {R R' : RL3} {L : List (Nat × Blk)} : CSpot ((b, row (slc3 R)) :: (blk3 R ++ L)) b R R' ((b, row (slc3 R')) :: (blk3 R' ++ L))
  | there {x : Nat × Blk} {b : Nat} {R R' : RL3} {L L' : List (Nat × Blk)} (s : CSpot L b R R' L') : CSpot (x :: L) b R R' (x :: L')
  | app {X : List (Nat × Blk)} {b : Nat} {R R' : RL3} {L L' : List (Nat × Blk)} (s : CSpot L b R R' L') : CSpot (X ++ L) b R R' (X ++ L')
theorem CSpot.split {L L' : List (Nat × Blk)} {b : Nat} {R R' : RL3} (s : CSpot L b R R' L') : ∃ A B, L = A ++ (b, row (slc3 R)) :: (blk3 R ++ B) ∧ L' = A ++ (b, row (slc3 R')) :: (blk3 R' ++ B) := by
  induction s with
  | here => exact ⟨[], _, rfl, rfl⟩
  | there s ih =>
    obtain ⟨A, B, e1, e2⟩ := ih
    exact ⟨_ :: A, B, by rw [e1]; rfl, by rw [e2]; rfl⟩
  | app s ih =>
    obtain ⟨A, B, e1, e2⟩ := ih
    exact ⟨_ ++ A, B, by rw [e1, List.append_assoc], by rw [e2, List.append_assoc]⟩
theorem St.cubeAt {h0 h : H} {L : List (Nat × Blk)} {b : Nat} {S : RL3} (s : St h0 h L) (sp : CSpot L b S S L) : Cube h b S := by
  obtain ⟨A, B, rfl, _⟩ := sp.split
  exact St.cubeIn s (List.mem_append_right _ (.head _)) fun p hp => List.mem_append_right _ (.tail _ (List.mem_append_left _ hp))

def mark3 (k : Int) : RL3 → RL3
  | [] => []
  | r :: S => (r.1, markR k r.2) :: mark3 (k + totL (rws r.2)) S
theorem mark3_slc : ∀ (S : RL3) (k : Int), slc3 (mark3 k S) = slc3 S
  | [], k => rfl
  | r :: S, k => by
    have := mark3_slc S (k + totL (rws r.2))
    simp only [slc3, mark3, List.map_cons, markR_len] at this ⊢
    rw [this]
theorem mark3_len : ∀ (S : RL3) (k : Int), (mark3 k S).length = S.length
  | [], k => rfl
  | r :: S, k => by rw [mark3, List.length_cons, mark3_len S, List.length_cons]
theorem mark3_append : ∀ (A B : RL3) (k : Int), mark3 k (A ++ B) = mark3 k A ++ mark3 (k + tot3 (rw3 A)) B
  | [], B, k => by simp [mark3, tot3, rw3]
  | r :: A, B, k => by
    rw [List.cons_append, mark3, mark3, mark3_append A B]
    have : tot3 (rw3 (r :: A)) = totL (rws r.2) + tot3 (rw3 A) := tot3_cons _ _
    rw [this, List.cons_append]
    congr 3
    omega
theorem rl3_mid (A B : RL3) (x : Nat × RL) : (A ++ x :: B).getD A.length (0, []) = x := by simp [List.getD]
theorem rspot_mid (X Y : List (Nat × Blk)) (b : Nat) (R R' : RL) : RSpot (X ++ (b, row (slcs R)) :: (blks R ++ Y)) b R R' (X ++ (b, row (slcs R')) :: (blks R' ++ Y)) := .app .here




/-- what a function gives that makes rows of rows of rows -/
def Ret3 (r : List (List (List Int)) × Bool) (h0 : H) (v : AV) (h' : H) : Prop :=
  ∃ b S, v = .tup [.slice b 0 r.1.length r.1.length, .bool r.2] ∧ rw3 S = r.1 ∧ S.length = r.1.length ∧ St h0 h' ((b, row (slc3 S)) :: (blk3 S ++ []))
theorem Ret3.mk' {r : List (List (List Int)) × Bool} {h0 h' : H} {b N : Nat} {q : Bool} {S : RL3} (e : r = (rw3 S, q)) (hN : N = S.length) (s : St h0 h' ((b, row (slc3 S)) :: (blk3 S ++ []))) : Ret3 r h0 (.tup [.slice b 0 N N, .bool q]) h' := by
  subst e hN
  exact ⟨b, S, by rw [rw3_length], rfl, (rw3_length S).symm, s⟩
theorem nil3 {h0 h : H} {L : List (Nat × Blk)} {b : Nat} (s : St h0 h ((b, .cells true 1 []) :: L)) : St h0 h ((b, row (slc3 [])) :: (blk3 [] ++ L)) := s
theorem St.call3 {h0 h h' : H} {L : List (Nat × Blk)} {b : Nat} {S : RL3} (s : St h0 h L) (t : St h h' ((b, row (slc3 S)) :: (blk3 S ++ []))) : St h0 h' ((b, row (slc3 S)) :: (blk3 S ++ L)) := by
  have := s.call t
  simpa using this
/-- rows of rows are put behind -/
theorem AppG.st3 {h0 h : H} {K : AV → H → Prop} {L : List (Nat × Blk)} {b bytes N C c n' : Nat} {S : RL3} {R : RL} (s : St h0 h ((c, row (slcs R)) :: (blks R ++ (b, row (slc3 S)) :: (blk3 S ++ L)))) (hN : N = S.length) (hl : n' = R.length) (hb : S.length + 1 ≤ 1000000000) (hy : bytes ≤ 1000)
    (hk : ∀ b' h', St h0 h' ((b', row (slc3 (S ++ [(c, R)]))) :: (blk3 (S ++ [(c, R)]) ++ L)) → K (.slice b' 0 (N + 1) (N + 1)) h') : AppG h (.slice b 0 N C) bytes [.slice c 0 n' n'] 1 K := by
  subst hl
  refine AppG.stV (L' := fun b' => (c, row (slcs R)) :: (blks R ++ (b', row (slc3 S ++ [.slice c 0 R.length R.length])) :: (blk3 S ++ L))) s (fun b' => .there (Spot.app .here)) (by rw [slc3_length]; exact hN) (by rw [slc3_length]; exact hb) hy rfl fun b' h' hs' => hk b' h' (hs'.perm ?_)
  have e1 : slc3 S ++ [.slice c 0 R.length R.length] = slc3 (S ++ [(c, R)]) := by rw [slc3_append]; rfl
  rw [e1, blk3_append]
  have e2 : blk3 [(c, R)] = (c, row (slcs R)) :: blks R := by rw [blk3_cons]; simp [blk3]
  rw [e2]
  generalize (b', row (slc3 (S ++ [(c, R)]))) = x
  generalize (c, row (slcs R)) = y
  generalize blks R = P
  generalize blk3 S = Q
  have p1 : (y :: (P ++ x :: (Q ++ L))).Perm (x :: (y :: P ++ (Q ++ L))) := (List.perm_middle (l₁ := y :: P) (l₂ := Q ++ L) (a := x))
  refine p1.trans (.cons _ ?_)
  rw [← List.append_assoc]
  exact List.perm_append_comm.append_right L

end Go.Proofs.Ythadkebcjlpkhaa

/-
  The law of the flips of all diagonals is proved.
  It holds for all rows of rows.
-/
set_option linter.unusedVariables false
set_option linter.unusedSimpArgs false
namespace Go.Proofs.Ythadkebcjlpkhaa
open Go.Proofs.Ythadkebcjlpkhaa.Ab Go.Proofs.Ythadkebcjlpkhaa.Pl

def nbR (n : Int) (f : List (List Int)) : List (List (List Int)) × Bool := if isTri n f = true then ((List.range f.length).map (flipR n.toNat f), true) else ([], false)
theorem nbR_succ (N : Nat) (f : List (List Int)) (i : Nat) : (List.range (i + 1)).map (flipR N f) = (List.range i).map (flipR N f) ++ [flipR N f i] := by
  rw [List.range_succ, List.map_append]
  rfl
theorem flipF_at {N : Nat} {f : List (List Int)} (h : isTri N f = true) {k : Nat} (hk : k < f.length) : flipF N f k = (flipR N f k, true) := by
  unfold flipF
  rw [if_pos ⟨h, by omega, by omega⟩, Int.toNat_natCast, Int.toNat_natCast]
theorem flipR_len {N : Nat} {f : List (List Int)} (h : isTri N f = true) {k : Nat} (hk : k < f.length) : (flipR N f k).length = f.length := by
  have a := (isTri_spec (flip_fine h hk).2).1.2
  have b := (isTri_spec h).1.2
  omega
theorem nbR_fine (n : Int) (f : List (List Int)) : (nbR n f).1.length ≤ 10 ∧ (∀ g ∈ (nbR n f).1, totL g ≤ 20 ∧ g.length ≤ 2000000) := by
  unfold nbR
  split
  · rename_i h
    obtain ⟨N, rfl⟩ := isTri_nat h
    have sz := tri_sz h
    refine ⟨by simp only [List.length_map, List.length_range]; omega, fun g hg => ?_⟩
    obtain ⟨k, hk, rfl⟩ := List.mem_map.1 hg
    have hk := List.mem_range.1 hk
    rw [Int.toNat_natCast]
    have ft := (flip_fine h hk).2
    have sz2 := tri_sz ft
    have := totL_le (m := 2) fun l hl => by have := (tri_diag ft l hl).1; omega
    exact ⟨by omega, by omega⟩
  · exact ⟨by simp, fun g hg => (nomatch hg)⟩
theorem nbR_tot (n : Int) (f : List (List Int)) : tot3 (nbR n f).1 ≤ 2000000 := by
  have := tot3_le fun g hg => ((nbR_fine n f).2 g hg).1
  have := (nbR_fine n f).1
  omega

set_option maxHeartbeats 4000000 in
theorem iNb_ok (n : Int) (R : RL) (f : List (List Int)) (b M C : Nat) (h0 : H) (hb : Grid h0 b R) (hR : rws R = f) (hM : M = f.length) (hl : M ≤ 1000000000) (hC : M ≤ C) (hn : -9223372036854775808 ≤ n ∧ n ≤ 9223372036854775807) :
    AC env 15 [.int .i64 n, .slice b 0 M C] h0 (Ret3 (nbR n f) h0) := by
  have hs := St.refl h0
  have lR : R.length = M := by rw [hM, ← hR, rws_length]
  by_cases ht : isTri n f = true
  · have e : nbR n f = ((List.range f.length).map (flipR n.toNat f), true) := if_pos ht
    obtain ⟨N, rfl⟩ := isTri_nat ht
    rw [Int.toNat_natCast] at e
    have sz := tri_sz ht
    refine AC.enter Try.func15 Try.call15 rfl Try.ntmps15 (of_decide_eq_true (by rfl)) ?_
    repeat' (first
      | (refine (iIsTri_ok (N : Int) R f _ _ _ _ (hb.arg (by assumption)) hR hM (by omega) hC (by omega)).mono ?_; rw [ht]; rintro v h' ⟨rfl, e'⟩; subst h'; conv => whnf)
      | refine AW.seq ?_
      | (refine AW.region ?_; conv => whnf)
      | refine AW.block ?_
      | (refine AW.skip ?_; conv => whnf)
      | refine AW.cond (by rfl) ?_
      | (refine Br.ff ?_; conv => whnf)
      | (refine NewG.st (by assumption) (fun bt h' hs' => ?_); conv => whnf))
    refine AW.loop4 (fun (i bo m : Nat) (S : RL3) => [(0, .int .i64 N), (1, .slice b 0 M C), (6, .slice bo 0 m m), (17, .int .i64 M), (18, .int .i64 i)]) (fun i bo m S h' => i ≤ M ∧ S.length = m ∧ m = i ∧ rw3 S = (List.range i).map (flipR N f) ∧ St h0 h' ((bo, row (slc3 S)) :: (blk3 S ++ []))) (fun i _ _ _ => M - i) 0 bt 0 []
      (Less.cons rfl (Less.cons rfl (Less.cons rfl (Less.cons rfl (Less.cons rfl (Less.nil _)))))) ⟨by omega, rfl, rfl, rfl, nil3 hs'⟩ ?_
    rintro i bo m S h1 ⟨hi, lS, hm, hS, hs1⟩
    clear hs' hs
    by_cases hlt : i < M
    · have hg := hb.arg hs1
      have fe := flipF_at ht (k := i) (by omega)
      have sc := nbR_succ N f i
      repeat' (first
        | (refine (iFlip_ok (N : Int) R f _ _ _ (i : Int) _ hg hR hM (by omega) hC (by omega)).mono ?_; rw [fe]; rintro v h' ⟨bF, RF, rfl, hRF, hLF, hsF⟩; have hs2 := St.callR hs1 hsF; clear hsF; conv => whnf)
        | (refine NewG.st hs2 (fun bx h3 hs3 => ?_); conv => whnf)
        | (refine AppG.st3 hs3.tail lS.symm hLF.symm (by omega) (by decide) (fun b2 h' hs4 => ?_); conv => whnf)
        | refine AW.seq ?_
        | (refine AW.region ?_; conv => whnf)
        | refine AW.block ?_
        | (refine AW.skip ?_; conv => whnf)
        | refine AW.cond (by rfl) ?_
        | (refine Br.dt (by omega) ?_; conv => whnf)
        | (refine Wr.i64 (by omega) ?_; conv => whnf)
        | (refine LoadsG.has (by first | assumption | exact St.has (by assumption) (by repeat first | exact .head _ | apply List.Mem.tail) | exact St.arg (by assumption) (by assumption)) (by simp) ?_; conv => whnf))
      exact ⟨i + 1, b2, m + 1, _, (Less.cons rfl (Less.cons rfl (Less.cons rfl (Less.cons rfl (Less.cons rfl (Less.nil _)))))), ⟨by omega, by simp [lS], by omega, by rw [rw3_append, hS, sc, ← (show rws RF = flipR N f i from hRF)]; rfl, hs4⟩, by omega⟩
    · obtain rfl : i = M := by omega
      repeat' (first
        | refine AW.seq ?_
        | (refine AW.region ?_; conv => whnf)
        | (refine AW.ret ?_; conv => whnf)
        | (refine AW.exit ?_; conv => whnf)
        | refine AW.cond (by rfl) ?_
        | (refine Br.df (by omega) ?_; conv => whnf))
      exact Ret3.mk' (by rw [e, hS, hM]) lS.symm hs1
  · have e : nbR n f = ([], false) := if_neg ht
    have ht : isTri n f = false := by simpa using ht
    refine AC.enter Try.func15 Try.call15 rfl Try.ntmps15 (of_decide_eq_true (by rfl)) ?_
    repeat' (first
      | (refine (iIsTri_ok n R f _ _ _ _ (hb.arg (by assumption)) hR hM (by omega) hC (by omega)).mono ?_; rw [ht]; rintro v h' ⟨rfl, e'⟩; subst h'; conv => whnf)
      | refine AW.seq ?_
      | (refine AW.region ?_; conv => whnf)
      | (refine AW.ret ?_; conv => whnf)
      | refine AW.cond (by rfl) ?_
      | (refine Br.tt ?_; conv => whnf)
      | (refine NewG.st (by assumption) (fun bt h' hs' => ?_); conv => whnf))
    all_goals exact Ret3.mk' (S := []) e rfl (nil3 hs')



end Go.Proofs.Ythadkebcjlpkhaa
