/-
  Contracts of the lists of words of Fuss are proved.
  They hold for all arguments.
-/
import Derived.Test.YtdfdlnjijccpeaaC14
set_option linter.unusedVariables false
set_option linter.unusedSimpArgs false
namespace Go.Proofs.Ytdfdlnjijccpeaa
open Go.Proofs.Ytdfdlnjijccpeaa.Ab Go.Proofs.Ytdfdlnjijccpeaa.Pl

/-- words that go on, u before d -/
def fussAll (m : Nat) : Nat → List UInt8 → Nat → Nat → List (List UInt8)
  | 0, _, _, _ => []
  | f + 1, w, up, h => if up = 0 ∧ h = 0 then [w] else (if 0 < up then fussAll m f (w ++ [117]) (up - 1) (h + m - 1) else []) ++ (if 0 < h then fussAll m f (w ++ [100]) up (h - 1) else [])

theorem fussAll_len (m : Nat) : ∀ f w up h, (fussAll m f w up h).length ≤ 2 ^ f := by
  intro f
  induction f with
  | zero => intro w up h; simp [fussAll]
  | succ f ih =>
    intro w up h
    have := Nat.pow_succ 2 f
    have p := Nat.pow_pos (n := f) (show 0 < 2 by decide)
    have a := ih (w ++ [117]) (up - 1) (h + m - 1)
    have b := ih (w ++ [100]) up (h - 1)
    simp only [fussAll]
    split
    · simp; omega
    · rw [List.length_append]
      split <;> split <;> simp <;> omega

theorem l27All_ok (m : Nat) (hm : 1 ≤ m ∧ m ≤ 4) : ∀ (f : Nat) (w : List UInt8) (up h : Nat) (h0 : H), f ≤ 25 → w.length + f ≤ 1000 → up * (m + 1) + h < f →
    AC env 112 [.int .i64 m, .str w, .int .i64 up, .int .i64 h] h0 fun v h' => ∃ b, v = .slice b 0 (fussAll m f w up h).length (fussAll m f w up h).length ∧ New h0 h' b (strs (fussAll m f w up h)) := by
  intro f
  induction f with
  | zero => intro w up h h0 h1 h2 h3; omega
  | succ f ih =>
    intro w up h h0 h1 h2 h3
    by_cases hz : up = 0 ∧ h = 0
    · rw [show fussAll m (f + 1) w up h = [w] from if_pos hz]
      refine AC.enter Try.func112 Try.call112 rfl Try.ntmps112 (of_decide_eq_true (by rfl)) ?_
      repeat' (first
        | refine AW.seq ?_
        | (refine AW.region ?_; conv => whnf)
        | (refine AW.ret ?_; conv => whnf)
        | refine AW.cond (by rfl) ?_
        | (refine Br.dt (by omega) ?_; conv => whnf)
        | (refine NewG.mk (fun bt hbt => ?_); conv => whnf))
      exact ⟨bt, rfl, New.make (Keeps.refl _) hbt⟩
    · have p := Nat.pow_le_pow_right (n := 2) (by decide) (show f ≤ 24 by omega)
      have lu := fussAll_len m f (w ++ [117]) (up - 1) (h + m - 1)
      have ld := fussAll_len m f (w ++ [100]) up (h - 1)
      have ew : (w ++ [117]).length = w.length + 1 ∧ (w ++ [100]).length = w.length + 1 := by simp
      have hup : up ≤ up * (m + 1) := Nat.le_mul_of_pos_right _ (by omega)
      refine AC.enter Try.func112 Try.call112 rfl Try.ntmps112 (of_decide_eq_true (by rfl)) ?_
      by_cases hu : up = 0
      · have hh : h ≠ 0 := fun e => hz ⟨hu, e⟩
        rw [show fussAll m (f + 1) w up h = [] ++ fussAll m f (w ++ [100]) up (h - 1) by rw [fussAll, if_neg hz, if_neg (by omega), if_pos (by omega)]]
        repeat' (first
          | refine AW.seq ?_
          | (refine AW.region ?_; conv => whnf)
          | (refine AW.skip ?_; conv => whnf)
          | refine AW.cond (by rfl) ?_
          | (refine Br.dt (by omega) ?_; conv => whnf)
          | (refine Br.df (by omega) ?_; conv => whnf)
          | (refine Wr.i64 (by omega) ?_; conv => whnf)
          | (refine Ck.mk (by simp only [List.length_drop, List.length_take, List.length_append, List.length_cons, List.length_nil]; omega) ?_; conv => whnf)
          | (refine NewG.mk (fun bt hbt => ?_); conv => whnf))
        rw [show (h : Int) - 1 = ((h - 1 : Nat) : Int) by omega]
        refine (ih (w ++ [100]) up (h - 1) _ (by omega) (by omega) (by omega)).mono ?_
        rintro v h4 ⟨b, rfl, hn⟩
        conv => whnf
        refine New.loads hn (strs_length _).symm ?_
        conv => whnf
        refine New.appS (l := []) ((New.make (Keeps.refl h0) hbt).keep hn.keeps) rfl (by simp; omega) (by decide) (fun b' h' hn' ho' => ?_)
        conv => whnf
        repeat' (first
          | refine AW.seq ?_
          | (refine AW.region ?_; conv => whnf)
          | (refine AW.ret ?_; conv => whnf))
        exact ⟨b', by simp, hn'⟩
      · obtain ⟨u, rfl⟩ : ∃ u, up = u + 1 := ⟨up - 1, by omega⟩
        have e3 : (u + 1) * (m + 1) = u * (m + 1) + (m + 1) := Nat.succ_mul u (m + 1)
        have eu : u ≤ u * (m + 1) := Nat.le_mul_of_pos_right _ (by omega)
        rw [Nat.add_sub_cancel] at lu
        by_cases hh : h = 0
        · rw [show fussAll m (f + 1) w (u + 1) h = [] ++ fussAll m f (w ++ [117]) u (h + m - 1) by rw [fussAll, if_neg hz, if_pos (by omega), if_neg (by omega), Nat.add_sub_cancel]; simp]
          repeat' (first
            | refine AW.seq ?_
            | (refine AW.region ?_; conv => whnf)
            | (refine AW.skip ?_; conv => whnf)
            | refine AW.cond (by rfl) ?_
            | (refine Br.ff ?_; conv => whnf)
            | (refine Br.dt (by omega) ?_; conv => whnf)
            | (refine Wr.i64 (by omega) ?_; conv => whnf)
            | (refine Ck.mk (by simp only [List.length_drop, List.length_take, List.length_append, List.length_cons, List.length_nil]; omega) ?_; conv => whnf)
            | (refine NewG.mk (fun bt hbt => ?_); conv => whnf))
          rw [show ((u + 1 : Nat) : Int) - 1 = (u : Int) by omega, show (h : Int) + m - 1 = ((h + m - 1 : Nat) : Int) by omega]
          refine (ih (w ++ [117]) u (h + m - 1) _ (by omega) (by omega) (by omega)).mono ?_
          rintro v h4 ⟨b, rfl, hn⟩
          conv => whnf
          refine New.loads hn (strs_length _).symm ?_
          conv => whnf
          refine New.appS (l := []) ((New.make (Keeps.refl h0) hbt).keep hn.keeps) rfl (by simp; omega) (by decide) (fun b' h' hn' ho' => ?_)
          conv => whnf
          repeat' (first
            | refine AW.seq ?_
            | (refine AW.region ?_; conv => whnf)
            | (refine AW.skip ?_; conv => whnf)
            | (refine AW.ret ?_; conv => whnf)
            | refine AW.cond (by rfl) ?_
            | (refine Br.df (by omega) ?_; conv => whnf))
          exact ⟨b', by simp, hn'⟩
        · rw [show fussAll m (f + 1) w (u + 1) h = ([] ++ fussAll m f (w ++ [117]) u (h + m - 1)) ++ fussAll m f (w ++ [100]) (u + 1) (h - 1) by rw [fussAll, if_neg hz, if_pos (by omega), if_pos (by omega), Nat.add_sub_cancel]; rfl]
          repeat' (first
            | refine AW.seq ?_
            | (refine AW.region ?_; conv => whnf)
            | (refine AW.skip ?_; conv => whnf)
            | refine AW.cond (by rfl) ?_
            | (refine Br.ff ?_; conv => whnf)
            | (refine Br.dt (by omega) ?_; conv => whnf)
            | (refine Wr.i64 (by omega) ?_; conv => whnf)
            | (refine Ck.mk (by simp only [List.length_drop, List.length_take, List.length_append, List.length_cons, List.length_nil]; omega) ?_; conv => whnf)
            | (refine NewG.mk (fun bt hbt => ?_); conv => whnf))
          rw [show ((u + 1 : Nat) : Int) - 1 = (u : Int) by omega, show (h : Int) + m - 1 = ((h + m - 1 : Nat) : Int) by omega]
          refine (ih (w ++ [117]) u (h + m - 1) _ (by omega) (by omega) (by omega)).mono ?_
          rintro v h4 ⟨b, rfl, hn⟩
          conv => whnf
          refine New.loads hn (strs_length _).symm ?_
          conv => whnf
          refine New.appS (l := []) ((New.make (Keeps.refl h0) hbt).keep hn.keeps) rfl (by simp; omega) (by decide) (fun b' h' hn' ho' => ?_)
          conv => whnf
          repeat' (first
            | refine AW.seq ?_
            | (refine AW.region ?_; conv => whnf)
            | refine AW.cond (by rfl) ?_
            | (refine Br.dt (by omega) ?_; conv => whnf)
            | (refine Wr.i64 (by omega) ?_; conv => whnf)
            | (refine Ck.mk (by simp only [List.length_drop, List.length_take, List.length_append, List.length_cons, List.length_nil]; omega) ?_; conv => whnf))
          have hA := hn'
          rw [show (h : Int) - 1 = ((h - 1 : Nat) : Int) by omega]
          refine (ih (w ++ [100]) (u + 1) (h - 1) _ (by omega) (by omega) (by omega)).mono ?_
          rintro v h4 ⟨b, rfl, hn⟩
          conv => whnf
          refine New.loads hn (strs_length _).symm ?_
          conv => whnf
          refine New.appS (l := ([] ++ fussAll m f (w ++ [117]) u (h + m - 1))) (hA.keep hn.keeps) (by simp) (by simp; omega) (by decide) (fun b' h' hn' ho' => ?_)
          conv => whnf
          repeat' (first
            | refine AW.seq ?_
            | (refine AW.region ?_; conv => whnf)
            | (refine AW.ret ?_; conv => whnf))
          exact ⟨b', by simp, hn'⟩

end Go.Proofs.Ytdfdlnjijccpeaa
