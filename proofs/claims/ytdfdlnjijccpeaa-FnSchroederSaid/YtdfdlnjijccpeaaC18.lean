/-
  Contracts of the lists of words of Motzkin and of Schroeder are proved.
  They hold for all arguments.
-/
import Derived.Test.YtdfdlnjijccpeaaC17
set_option linter.unusedVariables false
set_option linter.unusedSimpArgs false
namespace Go.Proofs.Ytdfdlnjijccpeaa
open Go.Proofs.Ytdfdlnjijccpeaa.Ab Go.Proofs.Ytdfdlnjijccpeaa.Pl

theorem newAt {h0 h : H} {L : List (Nat × Blk)} {b : Nat} {cs : List AV} (s : St h0 h L) (m : (b, row cs) ∈ L) : New h0 h b cs := ⟨s.is _ m, s.new _ m, s.keeps⟩
theorem slice_len {b n m : Nat} (e : n = m) : AV.slice b 0 n n = AV.slice b 0 m m := by rw [e]
/-- an inner function that gathers, its shared variable and the row -/
abbrev accG (F : Nat) (caps : List AV) (pm po b N : Nat) (out : List (List UInt8)) (R : List (Nat × Blk)) : List (Nat × Blk) :=
  (pm, row [.func F caps]) :: (po, row [.slice b 0 N N]) :: (b, row (strs out)) :: R

/-- words that go on with so many letters from a height -/
def motzAll : Nat → List UInt8 → Int → List (List UInt8)
  | 0, w, h => if h > 0 ∨ h < 0 then [] else [w]
  | l + 1, w, h => if h > (l + 1 : Nat) ∨ h < 0 then [] else (motzAll l (w ++ [117]) (h + 1) ++ motzAll l (w ++ [108]) h) ++ motzAll l (w ++ [100]) (h - 1)
theorem motzAll_out {l : Nat} (w : List UInt8) {h : Int} (c : h > l ∨ h < 0) : motzAll l w h = [] := by
  cases l <;> (unfold motzAll; rw [if_pos (by simpa using c)])
theorem motzAll_len : ∀ l w h, (motzAll l w h).length ≤ 3 ^ l := by
  intro l
  induction l with
  | zero => intro w h; unfold motzAll; split <;> simp
  | succ l ih =>
    intro w h
    have := Nat.pow_succ 3 l
    have p := Nat.pow_pos (n := l) (show 0 < 3 by decide)
    have a := ih (w ++ [117]) (h + 1)
    have b := ih (w ++ [108]) h
    have c := ih (w ++ [100]) (h - 1)
    unfold motzAll
    split
    · simp
    · simp only [List.length_append]; omega
theorem motzAll_in {l : Nat} (w : List UInt8) {h : Int} (c : 0 ≤ h ∧ h ≤ (l + 1 : Nat)) : motzAll (l + 1) w h = (motzAll l (w ++ [117]) (h + 1) ++ motzAll l (w ++ [108]) h) ++ motzAll l (w ++ [100]) (h - 1) := if_neg (by omega)



/-- the words of Motzkin, and whether there are some -/
def motzP (n : Int) : List (List UInt8) × Bool := if 0 ≤ n ∧ n ≤ 7 then (motzAll n.toNat [] 0, true) else ([], false)
theorem motzP_len (n : Int) : (motzP n).1.length ≤ 2187 := by
  unfold motzP
  split
  · have := Nat.pow_le_pow_right (n := 3) (by decide) (show n.toNat ≤ 7 by omega)
    have := motzAll_len n.toNat [] 0
    dsimp only
    omega
  · simp




/-- words that go on with so many letters u and l left, from a height -/
def schrAll : Nat → List UInt8 → Int → Int → List (List UInt8)
  | 0, _, _, _ => []
  | f + 1, w, li, h => if li = 0 ∧ h = 0 then [w] else (if 0 < li then schrAll f (w ++ [117]) (li - 1) (h + 1) ++ schrAll f (w ++ [108]) (li - 1) h else []) ++ (if 0 < h then schrAll f (w ++ [100]) li (h - 1) else [])
theorem schrAll_len : ∀ f w li h, (schrAll f w li h).length ≤ 3 ^ f := by
  intro f
  induction f with
  | zero => intro w li h; simp [schrAll]
  | succ f ih =>
    intro w li h
    have := Nat.pow_succ 3 f
    have p := Nat.pow_pos (n := f) (show 0 < 3 by decide)
    have a := ih (w ++ [117]) (li - 1) (h + 1)
    have b := ih (w ++ [108]) (li - 1) h
    have c := ih (w ++ [100]) li (h - 1)
    unfold schrAll
    split
    · simp; omega
    · rw [List.length_append]
      split <;> split <;> simp <;> omega

theorem l26All_ok : ∀ (f : Nat) (w : List UInt8) (li left h : Int) (h0 : H), left = 2 * li + h → left < f → f ≤ 9 → w.length + f ≤ 1000 → 0 ≤ li → 0 ≤ h →
    AC env 128 [.str w, .int .i64 left, .int .i64 h] h0 fun v h' => ∃ b, v = .slice b 0 (schrAll f w li h).length (schrAll f w li h).length ∧ New h0 h' b (strs (schrAll f w li h)) := by
  intro f
  induction f with
  | zero => intro w li left h h0 h1 h2 h3 h4 h5 h6; omega
  | succ f ih =>
    intro w li left h h0 h1 h2 h3 h4 h5 h6
    have hs := St.refl h0
    have p := Nat.pow_le_pow_right (n := 3) (by decide) (show f ≤ 8 by omega)
    have la := schrAll_len f (w ++ [117]) (li - 1) (h + 1)
    have lb := schrAll_len f (w ++ [108]) (li - 1) h
    have lc := schrAll_len f (w ++ [100]) li (h - 1)
    by_cases hz : li = 0 ∧ h = 0
    · rw [show schrAll (f + 1) w li h = [w] from if_pos hz]
      refine AC.enter Try.func128 Try.call128 rfl Try.ntmps128 (of_decide_eq_true (by rfl)) ?_
      repeat' (first
        | refine AW.seq ?_
        | (refine AW.region ?_; conv => whnf)
        | (refine AW.ret ?_; conv => whnf)
        | refine AW.cond (by rfl) ?_
        | (refine Br.dt (by omega) ?_; conv => whnf)
        | (refine NewG.st (by assumption) (fun bt h' hs' => ?_); conv => whnf))
      exact ⟨_, rfl, hs'.toNew⟩
    · rw [schrAll, if_neg hz]
      refine AC.enter Try.func128 Try.call128 rfl Try.ntmps128 (of_decide_eq_true (by rfl)) ?_
      repeat' (first
        | (refine (ih _ (li - 1) _ _ _ (by omega) (by omega) (by omega) (by simp; omega) (by omega) (by omega)).mono ?_; rintro v h' ⟨b, rfl, hn⟩; have hs' := St.newCall (by assumption) hn; clear hn; conv => whnf)
        | (refine (ih _ li _ _ _ (by omega) (by omega) (by omega) (by simp; omega) (by omega) (by omega)).mono ?_; rintro v h' ⟨b, rfl, hn⟩; have hs' := St.newCall (by assumption) hn; clear hn; conv => whnf)
        | (refine AppG.stSs (l := []) (by assumption) (by intro b'; repeat first | exact .here | apply Spot.there) (by simp) (by simp; omega) (by decide) (fun b' h' hs' => ?_); conv => whnf)
        | refine AW.seq ?_
        | (refine AW.region ?_; conv => whnf)
        | (refine AW.skip ?_; conv => whnf)
        | (refine AW.ret ?_; conv => whnf)
        | refine AW.cond (by rfl) ?_
        | (refine Br.dt (by omega) ?_; conv => whnf)
        | (refine Br.df (by omega) ?_; conv => whnf)
        | (refine Br.dec (fun hc => ?_) (fun hc => ?_) <;> conv => whnf)
        | (refine Wr.i64 (by omega) ?_; conv => whnf)
        | (refine Ck.mk (by simp only [List.length_drop, List.length_take, List.length_append, List.length_cons, List.length_nil]; omega) ?_; conv => whnf)
        | (refine NewG.st (by assumption) (fun bt h' hs' => ?_); conv => whnf)
        | (refine LoadsG.has (by first | assumption | exact St.has (by assumption) (by repeat first | exact .head _ | apply List.Mem.tail) | exact St.arg (by assumption) (by assumption)) (by simp) ?_; conv => whnf)
        | (refine AppG.stSs (by assumption) (by intro b'; repeat first | exact .here | apply Spot.there) (by first | (simp; done) | omega | (simp only [List.length_set, List.length_append, List.length_cons, List.length_nil, List.length_replicate, tab_length]; omega) | (simp; omega)) (by first | (simp; done) | omega | (simp only [List.length_set, List.length_append, List.length_cons, List.length_nil, List.length_replicate, tab_length]; omega) | (simp; omega)) (by decide) (fun b' h' hs' => ?_); conv => whnf))
      all_goals
        (first | rw [if_pos (show 0 < li by omega)] | rw [if_neg (show ¬ 0 < li by omega)])
        (first | rw [if_pos (show 0 < h by omega)] | rw [if_neg (show ¬ 0 < h by omega)])
        simp only [List.append_nil, List.nil_append] at hs' ⊢
        exact ⟨_, slice_len (by first | (simp; done) | (simp; omega)), newAt hs' (by repeat first | exact .head _ | apply List.Mem.tail)⟩

theorem schrMore_ok (H0 : H) (R : List (Nat × Blk)) (pm po : Nat) : ∀ (f : Nat) (w : List UInt8) (li h : Int) (hp : H) (out : List (List UInt8)) (b N : Nat),
    St H0 hp (accG 127 [.ptr po 0, .ptr pm 0] pm po b N out R) → N = out.length → 2 * li + h < f → f ≤ 9 → w.length + f ≤ 1000 → 0 ≤ li → 0 ≤ h → out.length + 3 ^ f ≤ 100000000 →
    AC env 127 [.str w, .int .i64 li, .int .i64 h, .ptr po 0, .ptr pm 0] hp fun v h' => v = .tup [] ∧ ∃ b' N', St H0 h' (accG 127 [.ptr po 0, .ptr pm 0] pm po b' N' (out ++ schrAll f w li h) R) ∧ N' = (out ++ schrAll f w li h).length := by
  intro f
  induction f with
  | zero => intro w li h hp out b N hs hN h1 h2 h3 h4 h5 h6; omega
  | succ f ih =>
    intro w li h hp out b N hs hN h1 h2 h3 h4 h5 h6
    have p := Nat.pow_succ 3 f
    have la := schrAll_len f (w ++ [117]) (li - 1) (h + 1)
    have lb := schrAll_len f (w ++ [108]) (li - 1) h
    have lc := schrAll_len f (w ++ [100]) li (h - 1)
    by_cases hz : li = 0 ∧ h = 0
    · rw [show schrAll (f + 1) w li h = [w] from if_pos hz]
      refine AC.enter Try.func127 Try.call127 rfl Try.ntmps127 (of_decide_eq_true (by rfl)) ?_
      repeat' (first
        | refine AW.seq ?_
        | (refine AW.region ?_; conv => whnf)
        | (refine AW.ret ?_; conv => whnf)
        | refine AW.cond (by rfl) ?_
        | (refine Br.dt (by omega) ?_; conv => whnf)
        | (refine NewG.st (by assumption) (fun bt h' hs' => ?_); conv => whnf)
        | (refine Has.load1 (by first | assumption | exact St.has (by assumption) (by repeat first | exact .head _ | apply List.Mem.tail) | exact St.arg (by assumption) (by assumption)) ?_; conv => whnf)
        | (refine LoadsG.has (by first | assumption | exact St.has (by assumption) (by repeat first | exact .head _ | apply List.Mem.tail) | exact St.arg (by assumption) (by assumption)) (by simp) ?_; conv => whnf)
        | (refine StoreG.st1 (by assumption) (by repeat first | exact .here | apply Spot.there) rfl (fun h' hs' => ?_); conv => whnf)
        | (refine AppG.stS (by assumption) (by intro b'; repeat first | exact .here | apply Spot.there) (by first | (simp; done) | omega | (simp only [List.length_set, List.length_append, List.length_cons, List.length_nil, List.length_replicate, tab_length]; omega) | (simp; omega)) (by first | (simp; done) | omega | (simp only [List.length_set, List.length_append, List.length_cons, List.length_nil, List.length_replicate, tab_length]; omega) | (simp; omega)) (by decide) (fun b' h' hs' => ?_); conv => whnf))
      all_goals exact ⟨rfl, _, _, hs'.tail, by simp [hN]⟩
    · rw [schrAll, if_neg hz]
      refine AC.enter Try.func127 Try.call127 rfl Try.ntmps127 (of_decide_eq_true (by rfl)) ?_
      repeat' (first
        | (refine (ih _ _ _ _ _ _ _ (by assumption) (by first | (simp; done) | omega | (simp only [List.length_set, List.length_append, List.length_cons, List.length_nil, List.length_replicate, tab_length]; omega) | (simp; omega)) (by omega) (by omega) (by simp; omega) (by omega) (by omega) (by first | omega | (simp only [List.length_append]; omega))).mono ?_; rintro v h' ⟨rfl, b', N', hs', e'⟩; conv => whnf)
        | refine AW.seq ?_
        | (refine AW.region ?_; conv => whnf)
        | (refine AW.skip ?_; conv => whnf)
        | refine AW.cond (by rfl) ?_
        | (refine Br.ff ?_; conv => whnf)
        | (refine Br.dt (by omega) ?_; conv => whnf)
        | (refine Br.df (by omega) ?_; conv => whnf)
        | (refine Br.dec (fun hc => ?_) (fun hc => ?_) <;> conv => whnf)
        | (refine Wr.i64 (by omega) ?_; conv => whnf)
        | (refine Ck.mk (by simp only [List.length_drop, List.length_take, List.length_append, List.length_cons, List.length_nil]; omega) ?_; conv => whnf)
        | (refine Has.load1 (by first | assumption | exact St.has (by assumption) (by repeat first | exact .head _ | apply List.Mem.tail) | exact St.arg (by assumption) (by assumption)) ?_; conv => whnf))
      all_goals
        (first | rw [if_pos (show 0 < li by omega)] | rw [if_neg (show ¬ 0 < li by omega)])
        (first | rw [if_pos (show 0 < h by omega)] | rw [if_neg (show ¬ 0 < h by omega)])
        simp only [List.append_nil, List.nil_append, ← List.append_assoc] at *
        exact ⟨by trivial, _, _, hs', e'⟩

/-- the words of Schroeder, and whether there are some -/
def schrP (n : Int) : List (List UInt8) × Bool := if 0 ≤ n ∧ n ≤ 4 then (schrAll 9 [] n 0, true) else ([], false)
theorem schrP_len (n : Int) : (schrP n).1.length ≤ 19683 := by
  unfold schrP
  split
  · exact schrAll_len 9 [] n 0
  · simp

theorem iSchroederPaths_ok (n : Int) (h0 : H) : AC env 76 [.int .i64 n] h0 fun v h' => ∃ b, v = .tup [.slice b 0 (schrP n).1.length (schrP n).1.length, .bool (schrP n).2] ∧ New h0 h' b (strs (schrP n).1) := by
  have hs := St.refl h0
  by_cases hr : 0 ≤ n ∧ n ≤ 4
  · have e0 : schrP n = (schrAll 9 [] n 0, true) := if_pos hr
    generalize hX : schrAll 9 [] n 0 = X at e0
    rw [e0]
    refine AC.enter Try.func76 Try.call76 rfl Try.ntmps76 (of_decide_eq_true (by rfl)) ?_
    repeat' (first
      | refine AW.seq ?_
      | (refine AW.region ?_; conv => whnf)
      | (refine AW.skip ?_; conv => whnf)
      | refine AW.cond (by rfl) ?_
      | (refine (within_ok _ _ _ _).mono ?_; rintro v h' ⟨rfl, e'⟩; subst h'; conv => whnf)
      | refine Br.not ?_
      | (refine Br.dt (by omega) ?_; conv => whnf)
      | (refine NewG.st (by assumption) (fun bt h' hs' => ?_); conv => whnf)
      | (refine Has.load1 (by first | assumption | exact St.has (by assumption) (by repeat first | exact .head _ | apply List.Mem.tail) | exact St.arg (by assumption) (by assumption)) ?_; conv => whnf)
      | (refine StoreG.st1 (by assumption) (by repeat first | exact .here | apply Spot.there) rfl (fun h' hs' => ?_); conv => whnf))
    refine (schrMore_ok h0 [] _ _ 9 [] n 0 _ [] _ 0 hs' rfl (by omega) (by omega) (by simp) (by omega) (by omega) (by simp)).mono ?_
    rw [hX, List.nil_append]
    rintro v h5 ⟨rfl, b5, N5, hs5, rfl⟩
    conv => whnf
    repeat' (first
      | refine AW.seq ?_
      | (refine AW.region ?_; conv => whnf)
      | (refine AW.ret ?_; conv => whnf)
      | (refine Has.load1 (by first | assumption | exact St.has (by assumption) (by repeat first | exact .head _ | apply List.Mem.tail) | exact St.arg (by assumption) (by assumption)) ?_; conv => whnf))
    exact ⟨b5, rfl, (hs5.tail).tail.toNew⟩
  · rw [show schrP n = ([], false) from if_neg hr]
    refine AC.enter Try.func76 Try.call76 rfl Try.ntmps76 (of_decide_eq_true (by rfl)) ?_
    repeat' (first
      | refine AW.seq ?_
      | (refine AW.region ?_; conv => whnf)
      | (refine AW.ret ?_; conv => whnf)
      | refine AW.cond (by rfl) ?_
      | (refine (within_ok _ _ _ _).mono ?_; rintro v h' ⟨rfl, e'⟩; subst h'; conv => whnf)
      | refine Br.not ?_
      | (refine Br.df (by omega) ?_; conv => whnf)
      | (refine NewG.st (by assumption) (fun bt h' hs' => ?_); conv => whnf)
      | (refine Has.load1 (by first | assumption | exact St.has (by assumption) (by repeat first | exact .head _ | apply List.Mem.tail) | exact St.arg (by assumption) (by assumption)) ?_; conv => whnf)
      | (refine StoreG.st1 (by assumption) (by repeat first | exact .here | apply Spot.there) rfl (fun h' hs' => ?_); conv => whnf))
    all_goals exact ⟨_, rfl, St.toNew hs'.tail⟩

theorem sSchroederPaths_ok (n : Int) (h0 : H) : AC env 77 [.int .i64 n] h0 fun v h' => ∃ b, v = .tup [.slice b 0 (schrP n).1.length (schrP n).1.length, .bool (schrP n).2] ∧ New h0 h' b (strs (schrP n).1) := by
  have hs := St.refl h0
  by_cases hr : 0 ≤ n ∧ n ≤ 4
  · have e0 : schrP n = (schrAll 9 [] n 0, true) := if_pos hr
    generalize hX : schrAll 9 [] n 0 = X at e0
    rw [e0]
    refine AC.enter Try.func77 Try.call77 rfl Try.ntmps77 (of_decide_eq_true (by rfl)) ?_
    repeat' (first
      | refine AW.seq ?_
      | (refine AW.region ?_; conv => whnf)
      | (refine AW.skip ?_; conv => whnf)
      | refine AW.cond (by rfl) ?_
      | (refine (l1In_ok _ _ _ _).mono ?_; rintro v h' ⟨rfl, e'⟩; subst h'; conv => whnf)
      | refine Br.not ?_
      | (refine Br.dt (by omega) ?_; conv => whnf)
      | (refine Wr.i64 (by omega) ?_; conv => whnf))
    refine (l26All_ok 9 [] n _ 0 _ (by omega) (by omega) (by omega) (by simp) (by omega) (by omega)).mono ?_
    rw [hX]
    rintro v h5 ⟨b5, rfl, hn5⟩
    conv => whnf
    repeat' (first
      | (refine AW.ret ?_; conv => whnf))
    exact ⟨b5, rfl, hn5⟩
  · rw [show schrP n = ([], false) from if_neg hr]
    refine AC.enter Try.func77 Try.call77 rfl Try.ntmps77 (of_decide_eq_true (by rfl)) ?_
    repeat' (first
      | refine AW.seq ?_
      | (refine AW.region ?_; conv => whnf)
      | (refine AW.ret ?_; conv => whnf)
      | refine AW.cond (by rfl) ?_
      | (refine (l1In_ok _ _ _ _).mono ?_; rintro v h' ⟨rfl, e'⟩; subst h'; conv => whnf)
      | refine Br.not ?_
      | (refine Br.df (by omega) ?_; conv => whnf)
      | (refine NewG.st (by assumption) (fun bt h' hs' => ?_); conv => whnf))
    all_goals exact ⟨_, rfl, St.toNew hs'⟩


end Go.Proofs.Ytdfdlnjijccpeaa
