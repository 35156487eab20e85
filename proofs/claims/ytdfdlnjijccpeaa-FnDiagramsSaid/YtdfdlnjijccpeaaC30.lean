/-
  Contracts of the matchings of all paths are proved.
  They hold for up to six letters of each kind.
-/
import Derived.Test.YtdfdlnjijccpeaaC29
import Derived.Test.YtdfdlnjijccpeaaC19
set_option linter.unusedVariables false
set_option linter.unusedSimpArgs false
namespace Go.Proofs.Ytdfdlnjijccpeaa
open Go.Proofs.Ytdfdlnjijccpeaa.Ab Go.Proofs.Ytdfdlnjijccpeaa.Pl

def ptL (w : List UInt8) : List Int := (List.range w.length).map fun i => (((pt w i).getD 0 : Nat) : Int)
def okW (n : Nat) (w : List UInt8) : Bool := w.length == 2 * n && isDyck w && (List.range w.length).all (fun i => (pt w i).isSome) && (match stI w w.length with
  | some p => p.2 == ptL w
  | none => false) && isNC (ptL w)
theorem paths_fine : ∀ n, n < 7 → (dyAll (2 * n + 1) [] n n).all (okW n) = true := by decide +kernel
theorem ptL_len (w : List UInt8) : (ptL w).length = w.length := by simp [ptL]
theorem okW_spec {n : Nat} {w : List UInt8} (h : okW n w = true) : w.length = 2 * n ∧ isDyck w = true ∧ (∀ i, i < w.length → ∃ p : Nat, pt w i = some p ∧ (ptL w).getD i 0 = p) ∧ (∃ o, stI w w.length = some (o, ptL w)) ∧ isNC (ptL w) = true := by
  unfold okW at h
  simp only [Bool.and_eq_true, beq_iff_eq, List.all_eq_true, List.mem_range] at h
  obtain ⟨⟨⟨⟨h1, h2⟩, h3⟩, h4⟩, h5⟩ := h
  refine ⟨h1, h2, fun i hi => ?_, ?_, h5⟩
  · obtain ⟨p, hp⟩ := Option.isSome_iff_exists.1 (h3 i hi)
    refine ⟨p, hp, ?_⟩
    simp [ptL, List.getD, hi, hp]
  · cases e : stI w w.length with
    | none => rw [e] at h4; cases h4
    | some p =>
      rw [e] at h4
      obtain ⟨o, l⟩ := p
      simp only [beq_iff_eq] at h4
      exact ⟨o, by rw [← h4]⟩
/-- all paths of a size -/
def dyP (n : Nat) : List (List UInt8) := dyAll (2 * n + 1) [] n n
theorem dyP_len {n : Nat} (h : n ≤ 6) : (dyP n).length ≤ 8192 := by
  have := dyAll_len (2 * n + 1) [] n n
  have := Nat.pow_le_pow_right (n := 2) (by decide) (show 2 * n + 1 ≤ 13 by omega)
  unfold dyP
  omega
theorem dyP_at {n k : Nat} (h : n ≤ 6) (hk : k < (dyP n).length) : okW n ((dyP n).getD k []) = true := by
  have e : (dyP n).getD k [] = (dyP n)[k] := by simp [List.getD, hk]
  rw [e]
  exact List.all_eq_true.1 (paths_fine n (by omega)) _ (List.getElem_mem hk)

set_option maxHeartbeats 1000000 in
theorem matchings_ok (m : Int) (h0 : H) (hm : 0 ≤ m ∧ m ≤ 6) : AC env 124 [.int .i64 m] h0 fun v h' => ∃ b R, v = .slice b 0 (dyP m.toNat).length (dyP m.toNat).length ∧ rws R = (dyP m.toNat).map ptL ∧ R.length = (dyP m.toNat).length ∧ St h0 h' ((b, row (slcs R)) :: (blks R ++ [])) := by
  obtain ⟨n, rfl⟩ := Int.eq_ofNat_of_zero_le hm.1
  have hn6 : n ≤ 6 := by omega
  rw [Int.toNat_natCast]
  have hs := St.refl h0
  have hlen := dyP_len hn6
  have hat := fun k (hk : k < (dyP n).length) => okW_spec (dyP_at hn6 hk)
  have e0 : dyAll (2 * (n : Int).toNat + 1) [] n n = dyP n := rfl
  generalize dyP n = X at hlen hat e0 ⊢
  refine AC.enter Try.func124 Try.call124 rfl Try.ntmps124 (of_decide_eq_true (by rfl)) ?_
  repeat' (first
    | (refine NewG.st hs (fun bo h' hsA => ?_); conv => whnf)
    | (refine (allPaths_ok _ _ (by omega)).mono ?_; rw [e0]; rintro v h' ⟨bs, rfl, hn⟩; have hsB := St.newCall hsA hn; clear hn; conv => whnf)
    | refine AW.seq ?_
    | (refine AW.region ?_; conv => whnf)
    | refine AW.block ?_)
  refine AW.loop3 (fun (R : RL) (b k : Nat) => [(3, .slice b 0 k k), (8, .slice bs 0 X.length X.length), (9, .int .i64 X.length), (10, .int .i64 k)])
    (fun R b k h' => k ≤ X.length ∧ R.length = k ∧ rws R = (X.take k).map ptL ∧ St h0 h' ((b, row (slcs R)) :: (blks R ++ [(bs, row (strs X))]))) (fun _ _ k => X.length - k) [] bo 0
    (Less.cons rfl (Less.cons rfl (Less.cons rfl (Less.cons rfl (Less.nil _))))) ⟨by omega, rfl, by simp [rws], by simpa [slcs, blks] using hsB.perm (List.Perm.swap _ _ _)⟩ ?_
  rintro R b k h1 ⟨hk, hR, hrw, hs1⟩
  clear hs hsA hsB
  by_cases hlt : k < X.length
  · obtain ⟨c1, c2, c3, ⟨o, c4⟩, c5⟩ := hat k hlt
    have c4' : stI (X.getD (k : Int).toNat []) (X.getD (k : Int).toNat []).length = some (o, ptL (X.getD k [])) := c4
    have c1' : (X.getD (k : Int).toNat []).length = 2 * n := c1
    have lp := ptL_len (X.getD k [])
    repeat' (first
      | (refine Has.loadAt (hs1.has (.tail _ (List.mem_append_right _ (.head _)))) rfl (strs_get X k hlt) ?_; conv => whnf)
      | (refine (partners_ok _ _ _ _ c4' (by omega)).mono ?_; rintro v h' ⟨bp, rfl, hn⟩; have hs2 := St.newCall hs1 hn; clear hn; conv => whnf)
      | (refine NewG.st hs2 (fun bt h' hs3 => ?_); conv => whnf)
      | (refine AppG.stR hs3.tail hR.symm (by omega) (by omega) (by decide) (fun b2 h' hs4 => ?_); conv => whnf)
      | refine AW.seq ?_
      | (refine AW.region ?_; conv => whnf)
      | refine AW.block ?_
      | (refine AW.skip ?_; conv => whnf)
      | refine AW.cond (by rfl) ?_
      | (refine Br.dt (by omega) ?_; conv => whnf)
      | (refine Wr.i64 (by omega) ?_; conv => whnf)
      | (refine Ck.mk (by omega) ?_; conv => whnf)
      | (refine LoadsG.has (by first | assumption | exact St.has (by assumption) (by repeat first | exact .head _ | apply List.Mem.tail) | exact St.arg (by assumption) (by assumption)) (by simp) ?_; conv => whnf))
    refine ⟨_, b2, k + 1, (Less.cons rfl (Less.cons rfl (Less.cons rfl (Less.cons rfl (Less.nil _))))), ⟨by omega, by simp; omega, ?_, hs4⟩, by omega⟩
    rw [rws_append, hrw, List.take_succ_eq_append_getElem hlt, List.map_append]
    simp [rws, List.getD, hlt]
  · repeat' (first
      | refine AW.seq ?_
      | (refine AW.region ?_; conv => whnf)
      | (refine AW.ret ?_; conv => whnf)
      | (refine AW.exit ?_; conv => whnf)
      | refine AW.cond (by rfl) ?_
      | (refine Br.df (by omega) ?_; conv => whnf))
    have e : k = X.length := by omega
    rw [e, List.take_length] at hrw
    refine ⟨b, R, by rw [e], hrw, by omega, ?_⟩
    refine hs1.sub (.cons_cons _ ?_)
    rw [List.append_nil]
    exact List.sublist_append_left _ _

end Go.Proofs.Ytdfdlnjijccpeaa
