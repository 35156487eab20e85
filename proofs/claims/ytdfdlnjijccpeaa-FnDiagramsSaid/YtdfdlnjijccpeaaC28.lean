/-
  Contracts of the lists of paths are proved.
  They hold for all sizes.
-/
import Derived.Test.YtdfdlnjijccpeaaC17
set_option linter.unusedVariables false
set_option linter.unusedSimpArgs false
namespace Go.Proofs.Ytdfdlnjijccpeaa
open Go.Proofs.Ytdfdlnjijccpeaa.Ab Go.Proofs.Ytdfdlnjijccpeaa.Pl

theorem newAtD {h0 h : H} {L : List (Nat × Blk)} {b : Nat} {cs : List AV} (s : St h0 h L) (m : (b, row cs) ∈ L) : New h0 h b cs := ⟨s.is _ m, s.new _ m, s.keeps⟩
theorem slice_lenD {b n m : Nat} (e : n = m) : AV.slice b 0 n n = AV.slice b 0 m m := by rw [e]
/-- an inner function that gathers, its shared variable and the row -/
abbrev accD (F : Nat) (caps : List AV) (pm po b N : Nat) (out : List (List UInt8)) (R : List (Nat × Blk)) : List (Nat × Blk) :=
  (pm, row [.func F caps]) :: (po, row [.slice b 0 N N]) :: (b, row (strs out)) :: R

/-- paths that go on with so many letters u and d -/
def dyAll : Nat → List UInt8 → Int → Int → List (List UInt8)
  | 0, _, _, _ => []
  | f + 1, w, up, dn => if dn = 0 then [w] else (if 0 < up then dyAll f (w ++ [117]) (up - 1) dn else []) ++ (if up < dn then dyAll f (w ++ [100]) up (dn - 1) else [])
theorem dyAll_len : ∀ f w up dn, (dyAll f w up dn).length ≤ 2 ^ f := by
  intro f
  induction f with
  | zero => intro w up dn; simp [dyAll]
  | succ f ih =>
    intro w up dn
    have := Nat.pow_succ 2 f
    have p := Nat.pow_pos (n := f) (show 0 < 2 by decide)
    have a := ih (w ++ [117]) (up - 1) dn
    have b := ih (w ++ [100]) up (dn - 1)
    unfold dyAll
    split
    · simp; omega
    · rw [List.length_append]
      split <;> split <;> simp <;> omega

theorem l3All_ok : ∀ (f : Nat) (w : List UInt8) (up dn : Int) (h0 : H), 0 ≤ up → up ≤ dn → up + dn < f → f ≤ 20 → w.length + f ≤ 1000 →
    AC env 144 [.str w, .int .i64 up, .int .i64 dn] h0 fun v h' => ∃ b, v = .slice b 0 (dyAll f w up dn).length (dyAll f w up dn).length ∧ New h0 h' b (strs (dyAll f w up dn)) := by
  intro f
  induction f with
  | zero => intro w up dn h0 h1 h2 h3; omega
  | succ f ih =>
    intro w up dn h0 h1 h2 h3 h4 h5
    have hs := St.refl h0
    have p := Nat.pow_le_pow_right (n := 2) (by decide) (show f ≤ 20 by omega)
    have la := dyAll_len f (w ++ [117]) (up - 1) dn
    have lb := dyAll_len f (w ++ [100]) up (dn - 1)
    by_cases c : dn = 0
    · rw [show dyAll (f + 1) w up dn = [w] from if_pos c]
      refine AC.enter Try.func144 Try.call144 rfl Try.ntmps144 (of_decide_eq_true (by rfl)) ?_
      repeat' (first
        | refine AW.seq ?_
        | (refine AW.region ?_; conv => whnf)
        | (refine AW.ret ?_; conv => whnf)
        | refine AW.cond (by rfl) ?_
        | (refine Br.dt (by omega) ?_; conv => whnf)
        | (refine NewG.st (by assumption) (fun bt h' hs' => ?_); conv => whnf))
      exact ⟨_, rfl, hs'.toNew⟩
    · rw [show dyAll (f + 1) w up dn = (if 0 < up then dyAll f (w ++ [117]) (up - 1) dn else []) ++ (if up < dn then dyAll f (w ++ [100]) up (dn - 1) else []) from if_neg c]
      refine AC.enter Try.func144 Try.call144 rfl Try.ntmps144 (of_decide_eq_true (by rfl)) ?_
      repeat' (first
        | (refine (ih _ _ _ _ (by omega) (by omega) (by omega) (by omega) (by simp; omega)).mono ?_; rintro v h' ⟨b, rfl, hn⟩; have hs' := St.newCall (by assumption) hn; clear hn; conv => whnf)
        | (refine AppG.stSs (l := []) (by assumption) (by intro b'; repeat first | exact .here | apply Spot.there) (by simp) (by simp; omega) (by decide) (fun b' h' hs' => ?_); conv => whnf)
        | refine AW.seq ?_
        | (refine AW.region ?_; conv => whnf)
        | (refine AW.skip ?_; conv => whnf)
        | (refine AW.ret ?_; conv => whnf)
        | refine AW.cond (by rfl) ?_
        | (refine Br.dt (by omega) ?_; conv => whnf)
        | (refine Br.df (by omega) ?_; conv => whnf)
        | (refine Br.dec (fun hc => ?_) (fun hc => ?_) <;> conv => whnf)
        | (refine Wr.i64 (by omega) ?_; conv => whnf)
        | (refine Ck.mk (by simp only [List.length_drop, List.length_take, List.length_append, List.length_cons, List.length_nil]; omega) ?_; conv => whnf)
        | (refine NewG.st (by assumption) (fun bt h' hs' => ?_); conv => whnf)
        | (refine LoadsG.has (by first | assumption | exact St.has (by assumption) (by repeat first | exact .head _ | apply List.Mem.tail) | exact St.arg (by assumption) (by assumption)) (by simp) ?_; conv => whnf)
        | (refine AppG.stSs (by assumption) (by intro b'; repeat first | exact .here | apply Spot.there) (by first | (simp; done) | omega | (simp only [List.length_set, List.length_append, List.length_cons, List.length_nil, List.length_replicate, tab_length]; omega) | (simp; omega)) (by first | (simp; done) | omega | (simp only [List.length_set, List.length_append, List.length_cons, List.length_nil, List.length_replicate, tab_length]; omega) | (simp; omega)) (by decide) (fun b' h' hs' => ?_); conv => whnf))
      all_goals
        (try rw [if_pos (show 0 < up by omega)])
        (try rw [if_neg (show ¬ 0 < up by omega)])
        (try rw [if_pos (show up < dn by omega)])
        (try rw [if_neg (show ¬ up < dn by omega)])
        simp only [List.append_nil, List.nil_append] at hs' ⊢
        exact ⟨_, slice_lenD (by first | (simp; done) | (simp; omega)), newAtD hs' (by repeat first | exact .head _ | apply List.Mem.tail)⟩

theorem dyMore_ok (H0 : H) (R : List (Nat × Blk)) (pm po : Nat) : ∀ (f : Nat) (w : List UInt8) (up dn : Int) (hp : H) (out : List (List UInt8)) (b N : Nat),
    St H0 hp (accD 150 [.ptr po 0, .ptr pm 0] pm po b N out R) → N = out.length → 0 ≤ up → up ≤ dn → up + dn < f → w.length + f ≤ 1000 → out.length + 2 ^ f ≤ 100000000 →
    AC env 150 [.str w, .int .i64 up, .int .i64 dn, .ptr po 0, .ptr pm 0] hp fun v h' => v = .tup [] ∧ ∃ b' N', St H0 h' (accD 150 [.ptr po 0, .ptr pm 0] pm po b' N' (out ++ dyAll f w up dn) R) ∧ N' = (out ++ dyAll f w up dn).length := by
  intro f
  induction f with
  | zero => intro w up dn hp out b N hs hN h1 h2 h3; omega
  | succ f ih =>
    intro w up dn hp out b N hs hN h1 h2 h3 h4 h5
    have h6 : out.length ≤ 100000000 := Nat.le_trans (Nat.le_add_right _ _) h5
    by_cases c : dn = 0
    · have c' : up = 0 := by omega
      subst c c'
      rw [show dyAll (f + 1) w 0 0 = [w] from if_pos rfl]
      refine AC.enter Try.func150 Try.call150 rfl Try.ntmps150 (of_decide_eq_true (by rfl)) ?_
      repeat' (first
        | refine AW.seq ?_
        | (refine AW.region ?_; conv => whnf)
        | (refine AW.ret ?_; conv => whnf)
        | refine AW.cond (by rfl) ?_
        | (refine Br.tt ?_; conv => whnf)
        | (refine NewG.st (by assumption) (fun bt h' hs' => ?_); conv => whnf)
        | (refine Has.load1 (by first | assumption | exact St.has (by assumption) (by repeat first | exact .head _ | apply List.Mem.tail) | exact St.arg (by assumption) (by assumption)) ?_; conv => whnf)
        | (refine LoadsG.has (by first | assumption | exact St.has (by assumption) (by repeat first | exact .head _ | apply List.Mem.tail) | exact St.arg (by assumption) (by assumption)) (by simp) ?_; conv => whnf)
        | (refine StoreG.st1 (by assumption) (by repeat first | exact .here | apply Spot.there) rfl (fun h' hs' => ?_); conv => whnf)
        | (refine AppG.stS (by assumption) (by intro b'; repeat first | exact .here | apply Spot.there) (by first | (simp; done) | omega | (simp only [List.length_set, List.length_append, List.length_cons, List.length_nil, List.length_replicate, tab_length]; omega) | (simp; omega)) (by first | (simp; done) | omega | (simp only [List.length_set, List.length_append, List.length_cons, List.length_nil, List.length_replicate, tab_length]; omega) | (simp; omega)) (by decide) (fun b' h' hs' => ?_); conv => whnf))
      all_goals exact ⟨rfl, _, _, hs'.tail, by simp [hN]⟩
    · have p := Nat.pow_succ 2 f
      have q := Nat.pow_pos (n := f) (show 0 < 2 by decide)
      have la := dyAll_len f (w ++ [117]) (up - 1) dn
      have lb := dyAll_len f (w ++ [100]) up (dn - 1)
      rw [show dyAll (f + 1) w up dn = (if 0 < up then dyAll f (w ++ [117]) (up - 1) dn else []) ++ (if up < dn then dyAll f (w ++ [100]) up (dn - 1) else []) from if_neg c, ← List.append_assoc]
      by_cases c1 : 0 < up <;> by_cases c2 : up < dn
      all_goals
        (try rw [if_pos c1])
        (try rw [if_neg c1])
        (try rw [if_pos c2])
        (try rw [if_neg c2])
        (try rw [List.append_nil])
        (try rw [List.append_nil])
        refine AC.enter Try.func150 Try.call150 rfl Try.ntmps150 (of_decide_eq_true (by rfl)) ?_
        repeat' (first
          | (refine (ih _ _ _ _ _ _ _ (by assumption) (by first | (simp; done) | omega | (simp only [List.length_set, List.length_append, List.length_cons, List.length_nil, List.length_replicate, tab_length]; omega) | (simp; omega)) (by omega) (by omega) (by omega) (by simp; omega) (by first | omega | (simp only [List.length_append]; omega))).mono ?_; rintro v h' ⟨rfl, b', N', hs', e'⟩; conv => whnf)
          | refine AW.seq ?_
          | (refine AW.region ?_; conv => whnf)
          | (refine AW.skip ?_; conv => whnf)
          | (refine AW.ret ?_; conv => whnf)
          | refine AW.cond (by rfl) ?_
          | (refine Br.ff ?_; conv => whnf)
          | (refine Br.dt (by omega) ?_; conv => whnf)
          | (refine Br.df (by omega) ?_; conv => whnf)
          | (refine Wr.i64 (by omega) ?_; conv => whnf)
          | (refine Ck.mk (by simp only [List.length_drop, List.length_take, List.length_append, List.length_cons, List.length_nil]; omega) ?_; conv => whnf)
          | (refine NewG.st (by assumption) (fun bt h' hs' => ?_); conv => whnf)
          | (refine Has.load1 (by first | assumption | exact St.has (by assumption) (by repeat first | exact .head _ | apply List.Mem.tail) | exact St.arg (by assumption) (by assumption)) ?_; conv => whnf)
          | (refine LoadsG.has (by first | assumption | exact St.has (by assumption) (by repeat first | exact .head _ | apply List.Mem.tail) | exact St.arg (by assumption) (by assumption)) (by simp) ?_; conv => whnf)
          | (refine StoreG.st1 (by assumption) (by repeat first | exact .here | apply Spot.there) rfl (fun h' hs' => ?_); conv => whnf)
          | (refine AppG.stS (by assumption) (by intro b'; repeat first | exact .here | apply Spot.there) (by first | (simp; done) | omega | (simp only [List.length_set, List.length_append, List.length_cons, List.length_nil, List.length_replicate, tab_length]; omega) | (simp; omega)) (by first | (simp; done) | omega | (simp only [List.length_set, List.length_append, List.length_cons, List.length_nil, List.length_replicate, tab_length]; omega) | (simp; omega)) (by decide) (fun b' h' hs' => ?_); conv => whnf))
        first
          | exact ⟨rfl, _, _, hs', e'⟩
          | (exfalso; omega)

theorem allPaths_ok (n : Int) (h0 : H) (hn : 0 ≤ n ∧ n ≤ 6) : AC env 142 [.int .i64 n] h0 fun v h' => ∃ b, v = .slice b 0 (dyAll (2 * n.toNat + 1) [] n n).length (dyAll (2 * n.toNat + 1) [] n n).length ∧ New h0 h' b (strs (dyAll (2 * n.toNat + 1) [] n n)) := by
  have hs := St.refl h0
  have p := Nat.pow_le_pow_right (n := 2) (by decide) (show 2 * n.toNat + 1 ≤ 13 by omega)
  generalize hX : dyAll (2 * n.toNat + 1) [] n n = X
  refine AC.enter Try.func142 Try.call142 rfl Try.ntmps142 (of_decide_eq_true (by rfl)) ?_
  repeat' (first
    | refine AW.seq ?_
    | (refine AW.region ?_; conv => whnf)
    | (refine NewG.st (by assumption) (fun bt h' hs' => ?_); conv => whnf)
    | (refine Has.load1 (by first | assumption | exact St.has (by assumption) (by repeat first | exact .head _ | apply List.Mem.tail) | exact St.arg (by assumption) (by assumption)) ?_; conv => whnf)
    | (refine StoreG.st1 (by assumption) (by repeat first | exact .here | apply Spot.there) rfl (fun h' hs' => ?_); conv => whnf))
  refine (dyMore_ok h0 [] _ _ (2 * n.toNat + 1) [] n n _ [] _ 0 hs' rfl (by omega) (by omega) (by omega) (by simp; omega) (by simp; omega)).mono ?_
  rintro v h5 ⟨rfl, b5, N5, hs5, e5⟩
  rw [hX, List.nil_append] at e5 hs5
  subst e5
  conv => whnf
  repeat' (first
    | refine AW.seq ?_
    | (refine AW.region ?_; conv => whnf)
    | (refine AW.ret ?_; conv => whnf)
    | (refine Has.load1 (by first | assumption | exact St.has (by assumption) (by repeat first | exact .head _ | apply List.Mem.tail) | exact St.arg (by assumption) (by assumption)) ?_; conv => whnf))
  exact ⟨b5, rfl, (hs5.tail).tail.toNew⟩

theorem sPathsOf_ok (n : Int) (h0 : H) (hn : 0 ≤ n ∧ n ≤ 6) : AC env 125 [.int .i64 n] h0 fun v h' => ∃ b, v = .slice b 0 (dyAll (2 * n.toNat + 1) [] n n).length (dyAll (2 * n.toNat + 1) [] n n).length ∧ New h0 h' b (strs (dyAll (2 * n.toNat + 1) [] n n)) := by
  have hs := St.refl h0
  generalize hX : dyAll (2 * n.toNat + 1) [] n n = X
  refine AC.enter Try.func125 Try.call125 rfl Try.ntmps125 (of_decide_eq_true (by rfl)) ?_
  repeat' (first
    | refine AW.seq ?_
    | (refine AW.region ?_; conv => whnf)
    | (refine AW.skip ?_; conv => whnf)
    | refine AW.cond (by rfl) ?_
    | (refine (l1In_ok _ _ _ _).mono ?_; rintro v h' ⟨rfl, e'⟩; subst h'; conv => whnf)
    | refine Br.not ?_
    | (refine Br.dt (by omega) ?_; conv => whnf))
  refine (l3All_ok (2 * n.toNat + 1) [] n n _ (by omega) (by omega) (by omega) (by omega) (by simp; omega)).mono ?_
  rw [hX]
  rintro v h5 ⟨b5, rfl, hn5⟩
  conv => whnf
  repeat' (first
    | (refine AW.ret ?_; conv => whnf))
  exact ⟨b5, rfl, hn5⟩

end Go.Proofs.Ytdfdlnjijccpeaa
