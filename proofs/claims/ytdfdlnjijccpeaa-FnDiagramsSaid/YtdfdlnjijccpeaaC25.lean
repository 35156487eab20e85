/-
  Contracts of products of hooks are proved.
  They hold for all sizes and all words.
-/
import Derived.Test.YtdfdlnjijccpeaaC22
set_option linter.unusedVariables false
set_option linter.unusedSimpArgs false
namespace Go.Proofs.Ytdfdlnjijccpeaa
open Go.Proofs.Ytdfdlnjijccpeaa.Ab Go.Proofs.Ytdfdlnjijccpeaa.Pl

/-- the product of the first letters, and the loops so far -/
def dwSt (n : Int) (w : List Int) : Nat → List Int × Int × Bool
  | 0 => ((idDI n).1, 0, true)
  | k + 1 => if (dwSt n w k).2.2 = true ∧ (hookDI n (w.getD k 0)).2 = true then ((mulD (dwSt n w k).1 (hookDI n (w.getD k 0)).1).1, (dwSt n w k).2.1 + (mulD (dwSt n w k).1 (hookDI n (w.getD k 0)).1).2.1, true) else ([], 0, false)
def dowD (n : Int) (w : List Int) : List Int × Int × Bool := if (idDI n).2 = true ∧ w.length ≤ 40 then dwSt n w w.length else ([], 0, false)
theorem dwSt_go {n : Int} {w l : List Int} {k : Nat} {x : Int} (e : dwSt n w k = (l, x, true)) (h : (hookDI n (w.getD k 0)).2 = true) : dwSt n w (k + 1) = ((mulD l (hookDI n (w.getD k 0)).1).1, x + (mulD l (hookDI n (w.getD k 0)).1).2.1, true) := by
  rw [dwSt, e, if_pos ⟨rfl, h⟩]
theorem dwSt_dead {n : Int} {w : List Int} {k : Nat} (h : (hookDI n (w.getD k 0)).2 = false) : ∀ j, k < j → dwSt n w j = ([], 0, false) := by
  intro j hj
  induction j with
  | zero => omega
  | succ j ih =>
    by_cases e : j = k
    · subst e
      rw [dwSt, if_neg (by rw [h]; simp)]
    · rw [dwSt, ih (by omega), if_neg (by simp)]
theorem mulD_loops (a b : List Int) : 0 ≤ (mulD a b).2.1 ∧ (mulD a b).2.1 ≤ 8 := by
  unfold mulD
  split
  · rename_i h
    have := (isM_spec (isNC_spec (isD_spec h.1).2)).1
    have := roundsFr_le (n := a.length / 2) (upA a (a.length / 2)) (ga b) (seenW (a.length / 2) (ga a) (ga b)) (a.length / 2)
    simp only [loopsD]
    omega
  · simp
theorem dwSt_len (n : Int) (w : List Int) : ∀ k, (dwSt n w k).1.length ≤ 1000
  | 0 => idDI_len n
  | k + 1 => by
    rw [dwSt]
    split
    · exact Nat.le_trans (mulD_len _ _) (by decide)
    · simp
theorem dowD_len (n : Int) (w : List Int) : (dowD n w).1.length ≤ 1000 := by
  unfold dowD
  split
  · exact dwSt_len n w _
  · simp
theorem idDI_two {n : Int} (h : (idDI n).2 = true) : 1 ≤ n ∧ n ≤ 8 := by
  unfold idDI at h
  split at h
  · assumption
  · cases h
theorem idDI_yes {n : Int} (h : 1 ≤ n ∧ n ≤ 8) : idDI n = (idD n.toNat, true) := if_pos h
theorem idDI_no {n : Int} (h : ¬ (1 ≤ n ∧ n ≤ 8)) : idDI n = ([], false) := if_neg h

set_option maxHeartbeats 1000000 in
theorem iDiagramOfWord_ok (n : Int) (w : List Int) (bw C : Nat) (h0 : H) (hw : Has h0 bw (ints w)) (hL : w.length ≤ 10000000) : AC env 27 [.int .i64 n, .slice bw 0 w.length C] h0 (RetM (dowD n w) h0) := by
  have hs := St.refl h0
  by_cases h : (1 ≤ n ∧ n ≤ 8) ∧ w.length ≤ 40
  · obtain ⟨m, rfl⟩ := Int.eq_ofNat_of_zero_le (show 0 ≤ n by omega)
    have e1 := idDI_yes h.1
    rw [Int.toNat_natCast] at e1
    have eD : dowD m w = dwSt m w w.length := if_pos ⟨by rw [e1], h.2⟩
    have hl1 : (idD m).length = 2 * m := tab_length _ _
    refine AC.enter Try.func27 Try.call27 rfl Try.ntmps27 (of_decide_eq_true (by rfl)) ?_
    repeat' (first
      | refine AW.seq ?_
      | (refine AW.region ?_; conv => whnf)
      | refine AW.block ?_
      | (refine AW.skip ?_; conv => whnf)
      | (refine AW.ret ?_; conv => whnf)
      | (refine AW.exit ?_; conv => whnf)
      | refine AW.cond (by rfl) ?_
      | (refine (within_ok _ _ _ _).mono ?_; rintro v h' ⟨rfl, e'⟩; subst h'; conv => whnf)
      | (refine (upright_ok _ (by first | omega | (simp only [List.length_drop, List.length_take, List.length_append, List.length_cons, List.length_nil]; omega)) _).mono ?_; rintro v h' ⟨b, rfl, hn⟩; have hs' := St.newCall (by assumption) hn; clear hn; conv => whnf)
      | (refine (iHookDiagram_ok _ _ (by omega) _).mono ?_; rintro v h' ⟨b, rfl, hn⟩; have hs' := St.newCall (by assumption) hn; clear hn; conv => whnf)
      | (refine (iMultiply_ok _ _ _ _ _ _ _ (by first | assumption | exact St.has (by assumption) (by repeat first | exact .head _ | apply List.Mem.tail) | exact St.arg (by assumption) (by assumption)) (by first | assumption | exact St.has (by assumption) (by repeat first | exact .head _ | apply List.Mem.tail) | exact St.arg (by assumption) (by assumption))).mono ?_; rintro v h' ⟨b, rfl, hn⟩; have hs' := St.newCall (by assumption) hn; clear hn; conv => whnf)
      | (refine Br.tt ?_; conv => whnf)
      | (refine Br.ff ?_; conv => whnf)
      | refine Br.not ?_
      | (refine Br.t (beq_self_eq_true _) ?_; conv => whnf)
      | (refine Br.t (by assumption) ?_; conv => whnf)
      | (refine Br.f (by assumption) ?_; conv => whnf)
      | (refine Br.dt (by omega) ?_; conv => whnf)
      | (refine Br.df (by omega) ?_; conv => whnf)
      | (refine Br.it (by omega) ?_; conv => whnf)
      | (refine Br.if (by omega) ?_; conv => whnf)
      | (refine Br.nt (by omega) ?_; conv => whnf)
      | (refine Br.nf (by omega) ?_; conv => whnf)
      | (refine Br.dec (fun hc => ?_) (fun hc => ?_) <;> conv => whnf)
      | (refine Br.ieq (fun hc => ?_) (fun hc => ?_) <;> conv => whnf)
      | (refine Br.ine (fun hc => ?_) (fun hc => ?_) <;> conv => whnf)
      | (refine Br.mk (fun hc => ?_) (fun hc => ?_) <;> conv => whnf)
      | (refine Wr.i64 (by omega) ?_; conv => whnf)
      | (refine Ck.mk (by omega) ?_; conv => whnf)
      | (refine Wr.i64 (by simp only [List.length_drop, List.length_take, List.length_append, List.length_cons, List.length_nil]; omega) ?_; conv => whnf)
      | (refine Ck.mk (by simp only [List.length_drop, List.length_take, List.length_append, List.length_cons, List.length_nil]; omega) ?_; conv => whnf)
      | (refine NewG.st (by assumption) (fun bt h' hs' => ?_); conv => whnf)
      | (refine Has.load1 (by first | assumption | exact St.has (by assumption) (by repeat first | exact .head _ | apply List.Mem.tail) | exact St.arg (by assumption) (by assumption)) ?_; conv => whnf)
      | (refine Has.loadZ (by first | assumption | exact St.has (by assumption) (by repeat first | exact .head _ | apply List.Mem.tail) | exact St.arg (by assumption) (by assumption)) rfl (by first | (simp; done) | omega | (simp only [List.length_set, List.length_append, List.length_cons, List.length_nil, List.length_replicate, tab_length]; omega) | (simp; omega)) ?_; conv => whnf)
      | (refine Ck.mk (by simp; omega) ?_; conv => whnf))
    refine AW.loop4 (fun (b q k : Nat) (x : Int) => [(0, .int .i64 m), (7, .slice b 0 q q), (8, .int .i64 x), (27, .slice bw 0 w.length C), (28, .int .i64 w.length), (29, .int .i64 k)])
      (fun b q k x h' => k ≤ w.length ∧ 0 ≤ x ∧ x ≤ 8 * k ∧ ∃ l, l.length = q ∧ dwSt m w k = (l, x, true) ∧ St h0 h' [(b, row (ints l))]) (fun _ _ k _ => w.length - k) b (2 * m) 0 0
      (Less.cons rfl (Less.cons rfl (Less.cons rfl (Less.cons rfl (Less.cons rfl (Less.cons rfl (Less.nil _))))))) ⟨by omega, by omega, by omega, _, hl1, by rw [dwSt, e1], hs'⟩ ?_
    rintro b q k x h1 ⟨hk, hx0, hx1, l, rfl, he, hs1⟩
    clear hs hs'
    by_cases hlt : k < w.length
    · have hb := mulD_loops l (hookDI m (w.getD k 0)).1
      repeat' (first
        | (refine Has.loadAt (hw.keep hs1.keeps) rfl (ints_get w k hlt) ?_; conv => whnf)
        | refine AW.seq ?_
        | (refine AW.region ?_; conv => whnf)
        | refine AW.block ?_
        | (refine AW.skip ?_; conv => whnf)
        | (refine AW.ret ?_; conv => whnf)
        | (refine AW.exit ?_; conv => whnf)
        | refine AW.cond (by rfl) ?_
        | (refine (within_ok _ _ _ _).mono ?_; rintro v h' ⟨rfl, e'⟩; subst h'; conv => whnf)
        | (refine (upright_ok _ (by first | omega | (simp only [List.length_drop, List.length_take, List.length_append, List.length_cons, List.length_nil]; omega)) _).mono ?_; rintro v h' ⟨b, rfl, hn⟩; have hs' := St.newCall (by assumption) hn; clear hn; conv => whnf)
        | (refine (iHookDiagram_ok _ _ (by omega) _).mono ?_; rintro v h' ⟨b, rfl, hn⟩; have hs' := St.newCall (by assumption) hn; clear hn; conv => whnf)
        | (refine (iMultiply_ok _ _ _ _ _ _ _ (by first | assumption | exact St.has (by assumption) (by repeat first | exact .head _ | apply List.Mem.tail) | exact St.arg (by assumption) (by assumption)) (by first | assumption | exact St.has (by assumption) (by repeat first | exact .head _ | apply List.Mem.tail) | exact St.arg (by assumption) (by assumption))).mono ?_; rintro v h' ⟨b, rfl, hn⟩; have hs' := St.newCall (by assumption) hn; clear hn; conv => whnf)
        | (refine Br.tt ?_; conv => whnf)
        | (refine Br.ff ?_; conv => whnf)
        | refine Br.not ?_
        | (refine Br.t (beq_self_eq_true _) ?_; conv => whnf)
        | (refine Br.t (by assumption) ?_; conv => whnf)
        | (refine Br.f (by assumption) ?_; conv => whnf)
        | (refine Br.dt (by omega) ?_; conv => whnf)
        | (refine Br.df (by omega) ?_; conv => whnf)
        | (refine Br.it (by omega) ?_; conv => whnf)
        | (refine Br.if (by omega) ?_; conv => whnf)
        | (refine Br.nt (by omega) ?_; conv => whnf)
        | (refine Br.nf (by omega) ?_; conv => whnf)
        | (refine Br.dec (fun hc => ?_) (fun hc => ?_) <;> conv => whnf)
        | (refine Br.ieq (fun hc => ?_) (fun hc => ?_) <;> conv => whnf)
        | (refine Br.ine (fun hc => ?_) (fun hc => ?_) <;> conv => whnf)
        | (refine Br.mk (fun hc => ?_) (fun hc => ?_) <;> conv => whnf)
        | (refine Wr.i64 (by omega) ?_; conv => whnf)
        | (refine Ck.mk (by omega) ?_; conv => whnf)
        | (refine Wr.i64 (by simp only [List.length_drop, List.length_take, List.length_append, List.length_cons, List.length_nil]; omega) ?_; conv => whnf)
        | (refine Ck.mk (by simp only [List.length_drop, List.length_take, List.length_append, List.length_cons, List.length_nil]; omega) ?_; conv => whnf)
        | (refine NewG.st (by assumption) (fun bt h' hs' => ?_); conv => whnf)
        | (refine Has.load1 (by first | assumption | exact St.has (by assumption) (by repeat first | exact .head _ | apply List.Mem.tail) | exact St.arg (by assumption) (by assumption)) ?_; conv => whnf)
        | (refine Has.loadZ (by first | assumption | exact St.has (by assumption) (by repeat first | exact .head _ | apply List.Mem.tail) | exact St.arg (by assumption) (by assumption)) rfl (by first | (simp; done) | omega | (simp only [List.length_set, List.length_append, List.length_cons, List.length_nil, List.length_replicate, tab_length]; omega) | (simp; omega)) ?_; conv => whnf)
        | (refine Ck.mk (by simp; omega) ?_; conv => whnf))
      · refine ⟨_, _, k + 1, _, (Less.cons rfl (Less.cons rfl (Less.cons rfl (Less.cons rfl (Less.cons rfl (Less.cons rfl (Less.nil _))))))), ⟨by omega, by omega, by omega, _, rfl, dwSt_go he (by assumption), hs'.sub (List.Sublist.cons_cons _ (List.nil_sublist _))⟩, by omega⟩
      · exact RetM.mk' (l := []) (by rw [eD, dwSt_dead (by assumption) _ hlt]) rfl hs'.toNew
    · repeat' (first
        | refine AW.seq ?_
        | (refine AW.region ?_; conv => whnf)
        | refine AW.block ?_
        | (refine AW.skip ?_; conv => whnf)
        | (refine AW.ret ?_; conv => whnf)
        | (refine AW.exit ?_; conv => whnf)
        | refine AW.cond (by rfl) ?_
        | (refine (within_ok _ _ _ _).mono ?_; rintro v h' ⟨rfl, e'⟩; subst h'; conv => whnf)
        | (refine (upright_ok _ (by first | omega | (simp only [List.length_drop, List.length_take, List.length_append, List.length_cons, List.length_nil]; omega)) _).mono ?_; rintro v h' ⟨b, rfl, hn⟩; have hs' := St.newCall (by assumption) hn; clear hn; conv => whnf)
        | (refine (iHookDiagram_ok _ _ (by omega) _).mono ?_; rintro v h' ⟨b, rfl, hn⟩; have hs' := St.newCall (by assumption) hn; clear hn; conv => whnf)
        | (refine (iMultiply_ok _ _ _ _ _ _ _ (by first | assumption | exact St.has (by assumption) (by repeat first | exact .head _ | apply List.Mem.tail) | exact St.arg (by assumption) (by assumption)) (by first | assumption | exact St.has (by assumption) (by repeat first | exact .head _ | apply List.Mem.tail) | exact St.arg (by assumption) (by assumption))).mono ?_; rintro v h' ⟨b, rfl, hn⟩; have hs' := St.newCall (by assumption) hn; clear hn; conv => whnf)
        | (refine Br.tt ?_; conv => whnf)
        | (refine Br.ff ?_; conv => whnf)
        | refine Br.not ?_
        | (refine Br.t (beq_self_eq_true _) ?_; conv => whnf)
        | (refine Br.t (by assumption) ?_; conv => whnf)
        | (refine Br.f (by assumption) ?_; conv => whnf)
        | (refine Br.dt (by omega) ?_; conv => whnf)
        | (refine Br.df (by omega) ?_; conv => whnf)
        | (refine Br.it (by omega) ?_; conv => whnf)
        | (refine Br.if (by omega) ?_; conv => whnf)
        | (refine Br.nt (by omega) ?_; conv => whnf)
        | (refine Br.nf (by omega) ?_; conv => whnf)
        | (refine Br.dec (fun hc => ?_) (fun hc => ?_) <;> conv => whnf)
        | (refine Br.ieq (fun hc => ?_) (fun hc => ?_) <;> conv => whnf)
        | (refine Br.ine (fun hc => ?_) (fun hc => ?_) <;> conv => whnf)
        | (refine Br.mk (fun hc => ?_) (fun hc => ?_) <;> conv => whnf)
        | (refine Wr.i64 (by omega) ?_; conv => whnf)
        | (refine Ck.mk (by omega) ?_; conv => whnf)
        | (refine Wr.i64 (by simp only [List.length_drop, List.length_take, List.length_append, List.length_cons, List.length_nil]; omega) ?_; conv => whnf)
        | (refine Ck.mk (by simp only [List.length_drop, List.length_take, List.length_append, List.length_cons, List.length_nil]; omega) ?_; conv => whnf)
        | (refine NewG.st (by assumption) (fun bt h' hs' => ?_); conv => whnf)
        | (refine Has.load1 (by first | assumption | exact St.has (by assumption) (by repeat first | exact .head _ | apply List.Mem.tail) | exact St.arg (by assumption) (by assumption)) ?_; conv => whnf)
        | (refine Has.loadZ (by first | assumption | exact St.has (by assumption) (by repeat first | exact .head _ | apply List.Mem.tail) | exact St.arg (by assumption) (by assumption)) rfl (by first | (simp; done) | omega | (simp only [List.length_set, List.length_append, List.length_cons, List.length_nil, List.length_replicate, tab_length]; omega) | (simp; omega)) ?_; conv => whnf)
        | (refine Ck.mk (by simp; omega) ?_; conv => whnf))
      exact RetM.mk' (by rw [eD, show w.length = k by omega, he]) rfl hs1.toNew
  · have eD : dowD n w = ([], 0, false) := if_neg fun a => h ⟨idDI_two a.1, a.2⟩
    refine AC.enter Try.func27 Try.call27 rfl Try.ntmps27 (of_decide_eq_true (by rfl)) ?_
    repeat' (first
      | refine AW.seq ?_
      | (refine AW.region ?_; conv => whnf)
      | refine AW.block ?_
      | (refine AW.skip ?_; conv => whnf)
      | (refine AW.ret ?_; conv => whnf)
      | (refine AW.exit ?_; conv => whnf)
      | refine AW.cond (by rfl) ?_
      | (refine (within_ok _ _ _ _).mono ?_; rintro v h' ⟨rfl, e'⟩; subst h'; conv => whnf)
      | (refine (upright_ok _ (by first | omega | (simp only [List.length_drop, List.length_take, List.length_append, List.length_cons, List.length_nil]; omega)) _).mono ?_; rintro v h' ⟨b, rfl, hn⟩; have hs' := St.newCall (by assumption) hn; clear hn; conv => whnf)
      | (refine (iHookDiagram_ok _ _ (by omega) _).mono ?_; rintro v h' ⟨b, rfl, hn⟩; have hs' := St.newCall (by assumption) hn; clear hn; conv => whnf)
      | (refine (iMultiply_ok _ _ _ _ _ _ _ (by first | assumption | exact St.has (by assumption) (by repeat first | exact .head _ | apply List.Mem.tail) | exact St.arg (by assumption) (by assumption)) (by first | assumption | exact St.has (by assumption) (by repeat first | exact .head _ | apply List.Mem.tail) | exact St.arg (by assumption) (by assumption))).mono ?_; rintro v h' ⟨b, rfl, hn⟩; have hs' := St.newCall (by assumption) hn; clear hn; conv => whnf)
      | (refine Br.tt ?_; conv => whnf)
      | (refine Br.ff ?_; conv => whnf)
      | refine Br.not ?_
      | (refine Br.t (beq_self_eq_true _) ?_; conv => whnf)
      | (refine Br.t (by assumption) ?_; conv => whnf)
      | (refine Br.f (by assumption) ?_; conv => whnf)
      | (refine Br.dt (by omega) ?_; conv => whnf)
      | (refine Br.df (by omega) ?_; conv => whnf)
      | (refine Br.it (by omega) ?_; conv => whnf)
      | (refine Br.if (by omega) ?_; conv => whnf)
      | (refine Br.nt (by omega) ?_; conv => whnf)
      | (refine Br.nf (by omega) ?_; conv => whnf)
      | (refine Br.dec (fun hc => ?_) (fun hc => ?_) <;> conv => whnf)
      | (refine Br.ieq (fun hc => ?_) (fun hc => ?_) <;> conv => whnf)
      | (refine Br.ine (fun hc => ?_) (fun hc => ?_) <;> conv => whnf)
      | (refine Br.mk (fun hc => ?_) (fun hc => ?_) <;> conv => whnf)
      | (refine Wr.i64 (by omega) ?_; conv => whnf)
      | (refine Ck.mk (by omega) ?_; conv => whnf)
      | (refine Wr.i64 (by simp only [List.length_drop, List.length_take, List.length_append, List.length_cons, List.length_nil]; omega) ?_; conv => whnf)
      | (refine Ck.mk (by simp only [List.length_drop, List.length_take, List.length_append, List.length_cons, List.length_nil]; omega) ?_; conv => whnf)
      | (refine NewG.st (by assumption) (fun bt h' hs' => ?_); conv => whnf)
      | (refine Has.load1 (by first | assumption | exact St.has (by assumption) (by repeat first | exact .head _ | apply List.Mem.tail) | exact St.arg (by assumption) (by assumption)) ?_; conv => whnf)
      | (refine Has.loadZ (by first | assumption | exact St.has (by assumption) (by repeat first | exact .head _ | apply List.Mem.tail) | exact St.arg (by assumption) (by assumption)) rfl (by first | (simp; done) | omega | (simp only [List.length_set, List.length_append, List.length_cons, List.length_nil, List.length_replicate, tab_length]; omega) | (simp; omega)) ?_; conv => whnf)
      | (refine Ck.mk (by simp; omega) ?_; conv => whnf))
    all_goals exact RetM.mk' (l := []) eD rfl hs'.toNew

set_option maxHeartbeats 1000000 in
theorem sDiagramOfWord_ok (n : Int) (w : List Int) (bw C : Nat) (h0 : H) (hw : Has h0 bw (ints w)) (hL : w.length ≤ 10000000) : AC env 28 [.int .i64 n, .slice bw 0 w.length C] h0 (RetM (dowD n w) h0) := by
  have hs := St.refl h0
  by_cases h : (1 ≤ n ∧ n ≤ 8) ∧ w.length ≤ 40
  · have e1 := idDI_yes h.1
    have e2 : (idDI n).2 = true := by rw [e1]
    have eD : dowD n w = dwSt n w w.length := if_pos ⟨e2, h.2⟩
    refine AC.enter Try.func28 Try.call28 rfl Try.ntmps28 (of_decide_eq_true (by rfl)) ?_
    repeat' (first
      | refine AW.seq ?_
      | (refine AW.region ?_; conv => whnf)
      | refine AW.block ?_
      | (refine AW.skip ?_; conv => whnf)
      | (refine AW.ret ?_; conv => whnf)
      | (refine AW.exit ?_; conv => whnf)
      | refine AW.cond (by rfl) ?_
      | (refine (sIdentityDiagram_ok _ _).mono ?_; rintro v h' ⟨b, rfl, hn⟩; have hs' := St.newCall (by assumption) hn; clear hn; conv => whnf)
      | (refine (sHookDiagram_ok _ _ (by omega) _).mono ?_; rintro v h' ⟨b, rfl, hn⟩; have hs' := St.newCall (by assumption) hn; clear hn; conv => whnf)
      | (refine (sMultiply_ok _ _ _ _ _ _ _ (by first | assumption | exact St.has (by assumption) (by repeat first | exact .head _ | apply List.Mem.tail) | exact St.arg (by assumption) (by assumption)) (by first | assumption | exact St.has (by assumption) (by repeat first | exact .head _ | apply List.Mem.tail) | exact St.arg (by assumption) (by assumption)) (by first | (simp; done) | omega | (simp only [List.length_set, List.length_append, List.length_cons, List.length_nil, List.length_replicate, tab_length]; omega) | (simp; omega)) (by first | (simp; done) | omega | (simp only [List.length_set, List.length_append, List.length_cons, List.length_nil, List.length_replicate, tab_length]; omega) | (simp; omega))).mono ?_; rintro v h' ⟨b, rfl, hn⟩; have hs' := St.newCall (by assumption) hn; clear hn; conv => whnf)
      | (refine Br.tt ?_; conv => whnf)
      | (refine Br.ff ?_; conv => whnf)
      | refine Br.not ?_
      | (refine Br.t (beq_self_eq_true _) ?_; conv => whnf)
      | (refine Br.t (by assumption) ?_; conv => whnf)
      | (refine Br.f (by assumption) ?_; conv => whnf)
      | (refine Br.dt (by omega) ?_; conv => whnf)
      | (refine Br.df (by omega) ?_; conv => whnf)
      | (refine Br.it (by omega) ?_; conv => whnf)
      | (refine Br.if (by omega) ?_; conv => whnf)
      | (refine Br.nt (by omega) ?_; conv => whnf)
      | (refine Br.nf (by omega) ?_; conv => whnf)
      | (refine Br.dec (fun hc => ?_) (fun hc => ?_) <;> conv => whnf)
      | (refine Br.ieq (fun hc => ?_) (fun hc => ?_) <;> conv => whnf)
      | (refine Br.ine (fun hc => ?_) (fun hc => ?_) <;> conv => whnf)
      | (refine Br.mk (fun hc => ?_) (fun hc => ?_) <;> conv => whnf)
      | (refine Wr.i64 (by omega) ?_; conv => whnf)
      | (refine Ck.mk (by omega) ?_; conv => whnf)
      | (refine Wr.i64 (by simp only [List.length_drop, List.length_take, List.length_append, List.length_cons, List.length_nil]; omega) ?_; conv => whnf)
      | (refine Ck.mk (by simp only [List.length_drop, List.length_take, List.length_append, List.length_cons, List.length_nil]; omega) ?_; conv => whnf)
      | (refine NewG.st (by assumption) (fun bt h' hs' => ?_); conv => whnf)
      | (refine Has.load1 (by first | assumption | exact St.has (by assumption) (by repeat first | exact .head _ | apply List.Mem.tail) | exact St.arg (by assumption) (by assumption)) ?_; conv => whnf)
      | (refine Has.loadZ (by first | assumption | exact St.has (by assumption) (by repeat first | exact .head _ | apply List.Mem.tail) | exact St.arg (by assumption) (by assumption)) rfl (by first | (simp; done) | omega | (simp only [List.length_set, List.length_append, List.length_cons, List.length_nil, List.length_replicate, tab_length]; omega) | (simp; omega)) ?_; conv => whnf)
      | (refine Ck.mk (by simp; omega) ?_; conv => whnf))
    all_goals first
      | (exfalso; simp_all; done)
      | skip
    refine AW.loop4 (fun (b q k : Nat) (x : Int) => [(0, .int .i64 n), (1, .slice bw 0 w.length C), (7, .slice b 0 q q), (9, .int .i64 x), (10, .int .i64 k)])
      (fun b q k x h' => k ≤ w.length ∧ 0 ≤ x ∧ x ≤ 8 * k ∧ ∃ l, l.length = q ∧ dwSt n w k = (l, x, true) ∧ St h0 h' [(b, row (ints l))]) (fun _ _ k _ => w.length - k) b _ 0 0
      (Less.cons rfl (Less.cons rfl (Less.cons rfl (Less.cons rfl (Less.cons rfl (Less.nil _)))))) ⟨by omega, by omega, by omega, _, rfl, rfl, hs'⟩ ?_
    rintro b q k x h1 ⟨hk, hx0, hx1, l, rfl, he, hs1⟩
    clear hs hs'
    by_cases hlt : k < w.length
    · have hb := mulD_loops l (hookDI n (w.getD k 0)).1
      have hl1 : l.length ≤ 1000 := by have := dwSt_len n w k; rwa [he] at this
      have hl2 := hookDI_len n (w.getD k 0)
      repeat' (first
        | (refine Has.loadAt (hw.keep hs1.keeps) rfl (ints_get w k hlt) ?_; conv => whnf)
        | refine AW.seq ?_
        | (refine AW.region ?_; conv => whnf)
        | refine AW.block ?_
        | (refine AW.skip ?_; conv => whnf)
        | (refine AW.ret ?_; conv => whnf)
        | (refine AW.exit ?_; conv => whnf)
        | refine AW.cond (by rfl) ?_
        | (refine (sIdentityDiagram_ok _ _).mono ?_; rintro v h' ⟨b, rfl, hn⟩; have hs' := St.newCall (by assumption) hn; clear hn; conv => whnf)
        | (refine (sHookDiagram_ok _ _ (by omega) _).mono ?_; rintro v h' ⟨b, rfl, hn⟩; have hs' := St.newCall (by assumption) hn; clear hn; conv => whnf)
        | (refine (sMultiply_ok _ _ _ _ _ _ _ (by first | assumption | exact St.has (by assumption) (by repeat first | exact .head _ | apply List.Mem.tail) | exact St.arg (by assumption) (by assumption)) (by first | assumption | exact St.has (by assumption) (by repeat first | exact .head _ | apply List.Mem.tail) | exact St.arg (by assumption) (by assumption)) (by first | (simp; done) | omega | (simp only [List.length_set, List.length_append, List.length_cons, List.length_nil, List.length_replicate, tab_length]; omega) | (simp; omega)) (by first | (simp; done) | omega | (simp only [List.length_set, List.length_append, List.length_cons, List.length_nil, List.length_replicate, tab_length]; omega) | (simp; omega))).mono ?_; rintro v h' ⟨b, rfl, hn⟩; have hs' := St.newCall (by assumption) hn; clear hn; conv => whnf)
        | (refine Br.tt ?_; conv => whnf)
        | (refine Br.ff ?_; conv => whnf)
        | refine Br.not ?_
        | (refine Br.t (beq_self_eq_true _) ?_; conv => whnf)
        | (refine Br.t (by assumption) ?_; conv => whnf)
        | (refine Br.f (by assumption) ?_; conv => whnf)
        | (refine Br.dt (by omega) ?_; conv => whnf)
        | (refine Br.df (by omega) ?_; conv => whnf)
        | (refine Br.it (by omega) ?_; conv => whnf)
        | (refine Br.if (by omega) ?_; conv => whnf)
        | (refine Br.nt (by omega) ?_; conv => whnf)
        | (refine Br.nf (by omega) ?_; conv => whnf)
        | (refine Br.dec (fun hc => ?_) (fun hc => ?_) <;> conv => whnf)
        | (refine Br.ieq (fun hc => ?_) (fun hc => ?_) <;> conv => whnf)
        | (refine Br.ine (fun hc => ?_) (fun hc => ?_) <;> conv => whnf)
        | (refine Br.mk (fun hc => ?_) (fun hc => ?_) <;> conv => whnf)
        | (refine Wr.i64 (by omega) ?_; conv => whnf)
        | (refine Ck.mk (by omega) ?_; conv => whnf)
        | (refine Wr.i64 (by simp only [List.length_drop, List.length_take, List.length_append, List.length_cons, List.length_nil]; omega) ?_; conv => whnf)
        | (refine Ck.mk (by simp only [List.length_drop, List.length_take, List.length_append, List.length_cons, List.length_nil]; omega) ?_; conv => whnf)
        | (refine NewG.st (by assumption) (fun bt h' hs' => ?_); conv => whnf)
        | (refine Has.load1 (by first | assumption | exact St.has (by assumption) (by repeat first | exact .head _ | apply List.Mem.tail) | exact St.arg (by assumption) (by assumption)) ?_; conv => whnf)
        | (refine Has.loadZ (by first | assumption | exact St.has (by assumption) (by repeat first | exact .head _ | apply List.Mem.tail) | exact St.arg (by assumption) (by assumption)) rfl (by first | (simp; done) | omega | (simp only [List.length_set, List.length_append, List.length_cons, List.length_nil, List.length_replicate, tab_length]; omega) | (simp; omega)) ?_; conv => whnf)
        | (refine Ck.mk (by simp; omega) ?_; conv => whnf))
      · refine ⟨_, _, k + 1, _, (Less.cons rfl (Less.cons rfl (Less.cons rfl (Less.cons rfl (Less.cons rfl (Less.nil _)))))), ⟨by omega, by omega, by omega, _, rfl, dwSt_go he (by assumption), hs'.sub (List.Sublist.cons_cons _ (List.nil_sublist _))⟩, by omega⟩
      · exact RetM.mk' (l := []) (by rw [eD, dwSt_dead (by assumption) _ hlt]) rfl hs'.toNew
    · repeat' (first
        | refine AW.seq ?_
        | (refine AW.region ?_; conv => whnf)
        | refine AW.block ?_
        | (refine AW.skip ?_; conv => whnf)
        | (refine AW.ret ?_; conv => whnf)
        | (refine AW.exit ?_; conv => whnf)
        | refine AW.cond (by rfl) ?_
        | (refine (sIdentityDiagram_ok _ _).mono ?_; rintro v h' ⟨b, rfl, hn⟩; have hs' := St.newCall (by assumption) hn; clear hn; conv => whnf)
        | (refine (sHookDiagram_ok _ _ (by omega) _).mono ?_; rintro v h' ⟨b, rfl, hn⟩; have hs' := St.newCall (by assumption) hn; clear hn; conv => whnf)
        | (refine (sMultiply_ok _ _ _ _ _ _ _ (by first | assumption | exact St.has (by assumption) (by repeat first | exact .head _ | apply List.Mem.tail) | exact St.arg (by assumption) (by assumption)) (by first | assumption | exact St.has (by assumption) (by repeat first | exact .head _ | apply List.Mem.tail) | exact St.arg (by assumption) (by assumption)) (by first | (simp; done) | omega | (simp only [List.length_set, List.length_append, List.length_cons, List.length_nil, List.length_replicate, tab_length]; omega) | (simp; omega)) (by first | (simp; done) | omega | (simp only [List.length_set, List.length_append, List.length_cons, List.length_nil, List.length_replicate, tab_length]; omega) | (simp; omega))).mono ?_; rintro v h' ⟨b, rfl, hn⟩; have hs' := St.newCall (by assumption) hn; clear hn; conv => whnf)
        | (refine Br.tt ?_; conv => whnf)
        | (refine Br.ff ?_; conv => whnf)
        | refine Br.not ?_
        | (refine Br.t (beq_self_eq_true _) ?_; conv => whnf)
        | (refine Br.t (by assumption) ?_; conv => whnf)
        | (refine Br.f (by assumption) ?_; conv => whnf)
        | (refine Br.dt (by omega) ?_; conv => whnf)
        | (refine Br.df (by omega) ?_; conv => whnf)
        | (refine Br.it (by omega) ?_; conv => whnf)
        | (refine Br.if (by omega) ?_; conv => whnf)
        | (refine Br.nt (by omega) ?_; conv => whnf)
        | (refine Br.nf (by omega) ?_; conv => whnf)
        | (refine Br.dec (fun hc => ?_) (fun hc => ?_) <;> conv => whnf)
        | (refine Br.ieq (fun hc => ?_) (fun hc => ?_) <;> conv => whnf)
        | (refine Br.ine (fun hc => ?_) (fun hc => ?_) <;> conv => whnf)
        | (refine Br.mk (fun hc => ?_) (fun hc => ?_) <;> conv => whnf)
        | (refine Wr.i64 (by omega) ?_; conv => whnf)
        | (refine Ck.mk (by omega) ?_; conv => whnf)
        | (refine Wr.i64 (by simp only [List.length_drop, List.length_take, List.length_append, List.length_cons, List.length_nil]; omega) ?_; conv => whnf)
        | (refine Ck.mk (by simp only [List.length_drop, List.length_take, List.length_append, List.length_cons, List.length_nil]; omega) ?_; conv => whnf)
        | (refine NewG.st (by assumption) (fun bt h' hs' => ?_); conv => whnf)
        | (refine Has.load1 (by first | assumption | exact St.has (by assumption) (by repeat first | exact .head _ | apply List.Mem.tail) | exact St.arg (by assumption) (by assumption)) ?_; conv => whnf)
        | (refine Has.loadZ (by first | assumption | exact St.has (by assumption) (by repeat first | exact .head _ | apply List.Mem.tail) | exact St.arg (by assumption) (by assumption)) rfl (by first | (simp; done) | omega | (simp only [List.length_set, List.length_append, List.length_cons, List.length_nil, List.length_replicate, tab_length]; omega) | (simp; omega)) ?_; conv => whnf)
        | (refine Ck.mk (by simp; omega) ?_; conv => whnf))
      exact RetM.mk' (by rw [eD, show w.length = k by omega, he]) rfl hs1.toNew
  · have eD : dowD n w = ([], 0, false) := if_neg fun a => h ⟨idDI_two a.1, a.2⟩
    refine AC.enter Try.func28 Try.call28 rfl Try.ntmps28 (of_decide_eq_true (by rfl)) ?_
    repeat' (first
      | refine AW.seq ?_
      | (refine AW.region ?_; conv => whnf)
      | refine AW.block ?_
      | (refine AW.skip ?_; conv => whnf)
      | (refine AW.ret ?_; conv => whnf)
      | (refine AW.exit ?_; conv => whnf)
      | refine AW.cond (by rfl) ?_
      | (refine (sIdentityDiagram_ok _ _).mono ?_; rintro v h' ⟨b, rfl, hn⟩; have hs' := St.newCall (by assumption) hn; clear hn; conv => whnf)
      | (refine (sHookDiagram_ok _ _ (by omega) _).mono ?_; rintro v h' ⟨b, rfl, hn⟩; have hs' := St.newCall (by assumption) hn; clear hn; conv => whnf)
      | (refine (sMultiply_ok _ _ _ _ _ _ _ (by first | assumption | exact St.has (by assumption) (by repeat first | exact .head _ | apply List.Mem.tail) | exact St.arg (by assumption) (by assumption)) (by first | assumption | exact St.has (by assumption) (by repeat first | exact .head _ | apply List.Mem.tail) | exact St.arg (by assumption) (by assumption)) (by first | (simp; done) | omega | (simp only [List.length_set, List.length_append, List.length_cons, List.length_nil, List.length_replicate, tab_length]; omega) | (simp; omega)) (by first | (simp; done) | omega | (simp only [List.length_set, List.length_append, List.length_cons, List.length_nil, List.length_replicate, tab_length]; omega) | (simp; omega))).mono ?_; rintro v h' ⟨b, rfl, hn⟩; have hs' := St.newCall (by assumption) hn; clear hn; conv => whnf)
      | (refine Br.tt ?_; conv => whnf)
      | (refine Br.ff ?_; conv => whnf)
      | refine Br.not ?_
      | (refine Br.t (beq_self_eq_true _) ?_; conv => whnf)
      | (refine Br.t (by assumption) ?_; conv => whnf)
      | (refine Br.f (by assumption) ?_; conv => whnf)
      | (refine Br.dt (by omega) ?_; conv => whnf)
      | (refine Br.df (by omega) ?_; conv => whnf)
      | (refine Br.it (by omega) ?_; conv => whnf)
      | (refine Br.if (by omega) ?_; conv => whnf)
      | (refine Br.nt (by omega) ?_; conv => whnf)
      | (refine Br.nf (by omega) ?_; conv => whnf)
      | (refine Br.dec (fun hc => ?_) (fun hc => ?_) <;> conv => whnf)
      | (refine Br.ieq (fun hc => ?_) (fun hc => ?_) <;> conv => whnf)
      | (refine Br.ine (fun hc => ?_) (fun hc => ?_) <;> conv => whnf)
      | (refine Br.mk (fun hc => ?_) (fun hc => ?_) <;> conv => whnf)
      | (refine Wr.i64 (by omega) ?_; conv => whnf)
      | (refine Ck.mk (by omega) ?_; conv => whnf)
      | (refine Wr.i64 (by simp only [List.length_drop, List.length_take, List.length_append, List.length_cons, List.length_nil]; omega) ?_; conv => whnf)
      | (refine Ck.mk (by simp only [List.length_drop, List.length_take, List.length_append, List.length_cons, List.length_nil]; omega) ?_; conv => whnf)
      | (refine NewG.st (by assumption) (fun bt h' hs' => ?_); conv => whnf)
      | (refine Has.load1 (by first | assumption | exact St.has (by assumption) (by repeat first | exact .head _ | apply List.Mem.tail) | exact St.arg (by assumption) (by assumption)) ?_; conv => whnf)
      | (refine Has.loadZ (by first | assumption | exact St.has (by assumption) (by repeat first | exact .head _ | apply List.Mem.tail) | exact St.arg (by assumption) (by assumption)) rfl (by first | (simp; done) | omega | (simp only [List.length_set, List.length_append, List.length_cons, List.length_nil, List.length_replicate, tab_length]; omega) | (simp; omega)) ?_; conv => whnf)
      | (refine Ck.mk (by simp; omega) ?_; conv => whnf))
    all_goals first
      | exact RetM.mk' (l := []) eD rfl hs'.toNew
      | (exfalso; exact h ⟨idDI_two (by assumption), by omega⟩)


end Go.Proofs.Ytdfdlnjijccpeaa
