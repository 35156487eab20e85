/-
  Contracts of words of Fuss that are joined, ranked and split are proved.
  They hold for all arguments.
-/
import Derived.Test.YthadkebcjlpkhaaH4
import Derived.Test.YthadkebcjlpkhaaH0
import Derived.Test.YthadkebcjlpkhaaH3
set_option linter.unusedVariables false
set_option linter.unusedSimpArgs false
namespace Go.Proofs.Ythadkebcjlpkhaa
open Go.Proofs.Ythadkebcjlpkhaa.Ab Go.Proofs.Ythadkebcjlpkhaa.Pl

theorem strsArg_two {h : H} {v : AV} (m : StrsArg h v) : ∃ l, (∀ s ∈ l, s.length ≤ 9223372036854775807) ∧ l.length ≤ 9223372036854775807 ∧ CellsAt h v (strs l) ∧ ((v = .nilslice ∧ l = []) ∨ ∃ b c, v = .slice b 0 l.length c) := by
  obtain ⟨l, bd, hl, hv⟩ := m
  refine ⟨l, bd, hl, hv, ?_⟩
  rcases hv with ⟨rfl, e⟩ | ⟨b, c, rfl, hb⟩
  · exact .inl ⟨rfl, List.eq_nil_of_length_eq_zero (by rw [← strs_length, e]; rfl)⟩
  · exact .inr ⟨b, c, by rw [strs_length]⟩
theorem getD_bd {l : List (List UInt8)} {M : Nat} (h : ∀ s ∈ l, s.length ≤ M) (i : Nat) : (l.getD i []).length ≤ M := by
  by_cases hi : i < l.length
  · rw [List.getD, List.getElem?_eq_getElem hi]
    exact h _ (List.getElem_mem hi)
  · rw [List.getD, List.getElem?_eq_none (by omega)]
    exact Nat.zero_le _



/-- words that are joined by d, so many of them -/
def glueTo (l : List (List UInt8)) : Nat → List UInt8
  | 0 => []
  | i + 1 => (glueTo l i ++ (if 0 < i then [100] else [])) ++ l.getD i []
theorem glueTo_len {l : List (List UInt8)} (h : ∀ i, (l.getD i []).length ≤ 24) : ∀ i, (glueTo l i).length ≤ 25 * i := by
  intro i
  induction i with
  | zero => simp [glueTo]
  | succ i ih =>
    have := h i
    simp only [glueTo, List.length_append]
    split <;> simp only [List.length_cons, List.length_nil] <;> omega
def joinOk (m : Int) (l : List (List UInt8)) : Prop := (1 ≤ m ∧ m ≤ 4) ∧ (l.length : Int) = m ∧ (∀ i, i < l.length → isFuss m (l.getD i []) = true) ∧ isFuss m (117 :: glueTo l l.length) = true
instance (m : Int) (l : List (List UInt8)) : Decidable (joinOk m l) := by unfold joinOk; infer_instance
def joinF (m : Int) (l : List (List UInt8)) : List UInt8 × Bool := if joinOk m l then (117 :: glueTo l l.length, true) else ([], false)
theorem isFuss_len {m : Int} {w : List UInt8} (h : isFuss m w = true) : (1 ≤ m ∧ m ≤ 4) ∧ w.length ≤ 24 := by
  unfold isFuss at h
  simp only [Bool.and_eq_true, decide_eq_true_eq] at h
  exact h.1

theorem glued_ok (l : List (List UInt8)) (b C : Nat) (h0 : H) (hb : Has h0 b (strs l)) (hl : l.length ≤ 4) (hw : ∀ i, (l.getD i []).length ≤ 24) : AC env 24 [.slice b 0 l.length C, .str [100]] h0 fun v h' => v = .str (glueTo l l.length) ∧ h' = h0 := by
  refine AC.enter Try.func24 Try.call24 rfl Try.ntmps24 (of_decide_eq_true (by rfl)) ?_
  repeat' (first
    | refine AW.seq ?_
    | (refine AW.region ?_; conv => whnf)
    | refine AW.block ?_)
  refine AW.loop2 (fun (s : List UInt8) (i : Nat) => [(1, .str [100]), (5, .str s), (8, .slice b 0 l.length C), (9, .int .i64 l.length), (10, .int .i64 i)]) (fun s i h' => i ≤ l.length ∧ s = glueTo l i ∧ h' = h0) (fun _ i => l.length - i) [] 0
    (Less.cons rfl (Less.cons rfl (Less.cons rfl (Less.cons rfl (Less.cons rfl (Less.nil _)))))) ⟨by omega, rfl, rfl⟩ ?_
  rintro s i h1 ⟨hi, rfl, rfl⟩
  have bi : (l.getD (i : Int).toNat []).length ≤ 24 := hw i
  have bg := glueTo_len hw i
  repeat' (first
    | refine AW.seq ?_
    | (refine AW.region ?_; conv => whnf)
    | refine AW.block ?_
    | (refine AW.skip ?_; conv => whnf)
    | (refine AW.ret ?_; conv => whnf)
    | (refine AW.exit ?_; conv => whnf)
    | refine AW.cond (by rfl) ?_
    | (refine Br.dec (fun hc => ?_) (fun hc => ?_) <;> conv => whnf)
    | (refine Wr.i64 (by omega) ?_; conv => whnf)
    | (refine Ck.mk (by omega) ?_; conv => whnf)
    | (refine Ck.mk (by simp only [List.length_drop, List.length_take, List.length_append, List.length_cons, List.length_nil]; omega) ?_; conv => whnf)
    | (refine Has.loadS (by first | assumption | exact St.has (by assumption) (by repeat first | exact .head _ | apply List.Mem.tail) | exact St.arg (by assumption) (by assumption)) rfl (by first | (simp; done) | omega | (simp only [List.length_set, List.length_append, List.length_cons, List.length_nil, List.length_replicate, tab_length]; omega) | (simp; omega)) ?_; conv => whnf))
  · exact ⟨_, i + 1, (Less.cons rfl (Less.cons rfl (Less.cons rfl (Less.cons rfl (Less.cons rfl (Less.nil _)))))), ⟨by omega, by rw [glueTo, if_pos (by omega)]; rfl, rfl⟩, by omega⟩
  · exact ⟨_, i + 1, (Less.cons rfl (Less.cons rfl (Less.cons rfl (Less.cons rfl (Less.cons rfl (Less.nil _)))))), ⟨by omega, by rw [glueTo, if_neg (by omega), List.append_nil]; rfl, rfl⟩, by omega⟩
  · rw [show i = l.length by omega]
    exact ⟨rfl, rfl⟩




/-- the first place of a word in a list, or -1 -/
def rankIn (l : List (List UInt8)) (w : List UInt8) : Int := if l.findIdx (· == w) < l.length then (l.findIdx (· == w) : Int) else -1
theorem rankIn_hit {l : List (List UInt8)} {w : List UInt8} {i : Nat} (hi : i < l.length) (h : l.getD i [] = w) (no : ∀ j, j < i → l.getD j [] ≠ w) : rankIn l w = i := by
  have e : l.findIdx (· == w) = i := by
    refine (List.findIdx_eq hi).2 ⟨?_, fun j hj => ?_⟩
    · have : l[i] = w := by simpa [List.getD, hi] using h
      simp [this]
    · have := no j hj
      have hj2 : j < l.length := by omega
      have h3 : ¬ l[j] = w := by simpa [List.getD, hj2] using this
      simp [h3]
  unfold rankIn
  rw [e, if_pos hi]
theorem rankIn_none {l : List (List UInt8)} {w : List UInt8} (no : ∀ j, j < l.length → l.getD j [] ≠ w) : rankIn l w = -1 := by
  unfold rankIn
  rw [if_neg]
  intro h
  have h2 := List.findIdx_getElem (w := h)
  have := no _ h
  rw [List.getD, List.getElem?_eq_getElem h] at this
  exact this (by simpa using h2)
def rankF (m : Int) (w : List UInt8) : Int := if isFuss m w = true then rankIn (fussP m (cntB w 117)).1 w else -1




/-- the height of a word of Fuss behind so many letters -/
def hF (m : Int) (w : List UInt8) (i : Nat) : Int := (walkH (m - 1) (-1) false (w.take i) 0).getD 0
theorem hF_step {m : Int} {w : List UInt8} (h : isFuss m w = true) {i : Nat} (hi : i < w.length) : 0 ≤ hF m w i ∧ hF m w i ≤ 72 ∧ 0 ≤ hF m w (i + 1) ∧ ((w.getD i 0 = 117 ∧ hF m w (i + 1) = hF m w i + m - 1) ∨ (w.getD i 0 = 100 ∧ hF m w (i + 1) = hF m w i - 1)) := by
  have hb := isFuss_len h
  have hw : walkH (m - 1) (-1) false w 0 = some 0 := by
    unfold isFuss at h
    simp only [Bool.and_eq_true, beq_iff_eq] at h
    exact h.2
  cases hx : walkH (m - 1) (-1) false (w.take i) 0 with
  | none => rw [walkH_take_none hx] at hw; cases hw
  | some g =>
    have e : hF m w i = g := by rw [hF, hx]; rfl
    have bd := walkH_bd (by omega) (by omega) _ _ _ (by omega) hx
    have bl : (w.take i).length ≤ 24 := by simp; omega
    have b2 : (m - 1) * ((w.take i).length : Int) ≤ 3 * 24 := Int.mul_le_mul (by omega) (by omega) (by omega) (by omega)
    rw [e]
    by_cases h1 : w.getD i 0 = 117
    · have hst : stepOf (m - 1) (-1) false (w.getD i 0) = some (m - 1) := stepOf_u ((byte_117 _).2 h1)
      have nx := walkH_next hi hx hst (by omega)
      have e2 : hF m w (i + 1) = g + (m - 1) := by rw [hF, nx]; rfl
      exact ⟨by omega, by omega, by omega, .inl ⟨h1, by omega⟩⟩
    · by_cases h2 : w.getD i 0 = 100
      · have hst : stepOf (m - 1) (-1) false (w.getD i 0) = some (-1) := stepOf_d ((byte_100 _).2 h2)
        by_cases hlow : g + (-1) < 0
        · rw [walkH_low hi hx hst hlow] at hw; cases hw
        · have nx := walkH_next hi hx hst hlow
          have e2 : hF m w (i + 1) = g + (-1) := by rw [hF, nx]; rfl
          exact ⟨by omega, by omega, by omega, .inr ⟨h2, by omega⟩⟩
      · rw [walkH_bad hi hx (stepOf_no (fun e => h1 ((byte_117 _).1 e)) (fun e => h2 ((byte_100 _).1 e)) (.inr rfl))] at hw
        cases hw
theorem hF_zero (m : Int) (w : List UInt8) : hF m w 0 = 0 := rfl
theorem hF_end {m : Int} {w : List UInt8} (h : isFuss m w = true) : hF m w w.length = 0 := by
  have hw : walkH (m - 1) (-1) false w 0 = some 0 := by
    unfold isFuss at h
    simp only [Bool.and_eq_true, beq_iff_eq] at h
    exact h.2
  rw [hF, List.take_length, hw]
  rfl

/-- the parts that are cut off before a place, where the next one begins, and its height -/
def splTo (m : Int) (w : List UInt8) : Nat → List (List UInt8) × Nat × Int
  | 0 => ([], 1, m - 1)
  | i + 1 => let r := splTo m w i
    if 0 < i ∧ 0 < r.2.2 ∧ w.getD i 0 ≠ 117 ∧ hF m w (i + 1) < r.2.2 then (r.1 ++ [(w.take i).drop r.2.1], i + 1, r.2.2 - 1) else r
theorem splTo_cut {m : Int} {w : List UInt8} {i f : Nat} {o : List (List UInt8)} {lv : Int} (e : splTo m w i = (o, f, lv)) (h : 0 < i ∧ 0 < lv ∧ w.getD i 0 ≠ 117 ∧ hF m w (i + 1) < lv) : splTo m w (i + 1) = (o ++ [(w.take i).drop f], i + 1, lv - 1) := by
  simp only [splTo, e]
  rw [if_pos h]
theorem splTo_on {m : Int} {w : List UInt8} {i f : Nat} {o : List (List UInt8)} {lv : Int} (e : splTo m w i = (o, f, lv)) (h : ¬ (0 < i ∧ 0 < lv ∧ w.getD i 0 ≠ 117 ∧ hF m w (i + 1) < lv)) : splTo m w (i + 1) = (o, f, lv) := by
  simp only [splTo, e]
  rw [if_neg h]
theorem splTo_done {m : Int} {w : List UInt8} {i f : Nat} {o : List (List UInt8)} {lv : Int} (e : splTo m w i = (o, f, lv)) (h : lv ≤ 0) : ∀ j, i ≤ j → splTo m w j = (o, f, lv) := by
  intro j
  induction j with
  | zero => intro hj; have : i = 0 := by omega
            subst this; exact e
  | succ j ih =>
    intro hj
    by_cases hij : i = j + 1
    · subst hij; exact e
    · exact splTo_on (ih (by omega)) (by omega)
theorem splTo_len (m : Int) (w : List UInt8) : ∀ i, (splTo m w i).1.length ≤ i := by
  intro i
  induction i with
  | zero => simp [splTo]
  | succ i ih =>
    simp only [splTo]
    split
    · rw [List.length_append]; simp; omega
    · omega
def finS (m : Int) (w : List UInt8) : List (List UInt8) := (splTo m w w.length).1 ++ [w.drop (splTo m w w.length).2.1]
def splitF (m : Int) (w : List UInt8) : List (List UInt8) × Bool := if isFuss m w = true ∧ w ≠ [] then (finS m w, true) else ([], false)
theorem finS_eq {m : Int} {w : List UInt8} {f : Nat} {o : List (List UInt8)} {lv : Int} (e : splTo m w w.length = (o, f, lv)) : finS m w = o ++ [w.drop f] := by rw [finS, e]
theorem splitF_len (m : Int) (w : List UInt8) : (splitF m w).1.length ≤ 25 := by
  unfold splitF
  split
  · rename_i h
    have := (isFuss_len h.1).2
    have := splTo_len m w w.length
    simp only [finS, List.length_append, List.length_cons, List.length_nil]
    omega
  · simp
def RetS (p : List (List UInt8) × Bool) (h0 : H) (v : AV) (h' : H) : Prop := ∃ b, v = .tup [.slice b 0 p.1.length p.1.length, .bool p.2] ∧ New h0 h' b (strs p.1)
theorem RetS.mk' {p : List (List UInt8) × Bool} {h0 h' : H} {b n : Nat} {l : List (List UInt8)} {t : Bool} (e : p = (l, t)) (hn : n = l.length) (m : New h0 h' b (strs l)) : RetS p h0 (.tup [.slice b 0 n n, .bool t]) h' := by
  subst e hn
  exact ⟨b, rfl, m⟩




end Go.Proofs.Ythadkebcjlpkhaa

/-
  Contracts of the functions that draw texts and Fuss words are proved.
  They hold for all codes of at most 1048576 bytes.
-/
set_option linter.unusedVariables false
set_option linter.unusedSimpArgs false
namespace Go.Proofs.Ythadkebcjlpkhaa
open Go.Proofs.Ythadkebcjlpkhaa.Ab Go.Proofs.Ythadkebcjlpkhaa.Pl

theorem wrap_u8 (y : Int) : 0 ≤ IntKind.u8.wrap y ∧ IntKind.u8.wrap y ≤ 255 := by
  rw [IntKind.wrap_u8]
  omega
theorem one_byte {z : Int} (h : 0 ≤ z ∧ z ≤ 255) : [AV.int .u8 z] = bytesAV [UInt8.ofNat z.toNat] := by
  unfold bytesAV
  rw [List.map_cons, List.map_nil, u8_of h]
theorem Oneb.text {h : H} {b : Nat} {y : Int} {K : AV → Prop} (m : h b = some (.cells true 1 [.int .u8 (IntKind.u8.wrap y)])) (hk : K (.str [UInt8.ofNat (IntKind.u8.wrap y).toNat])) : TextG h b 0 1 K :=
  TextG.mk true 1 _ [UInt8.ofNat (IntKind.u8.wrap y).toNat] m (by simp) (one_byte (wrap_u8 y)) hk
theorem CurSt.at {H0 h : H} {c b : Nat} {x : Blk} {L : List (Nat × Blk)} (s : CurSt H0 h c ((b, x) :: L)) : h b = some x := s.st.is _ (.head _)
theorem CurSt.app {H0 h : H} {c b bytes N C : Nat} {p : Nat × Blk} {s : List UInt8} {y : Int} {L : List (Nat × Blk)} {K : AV → H → Prop} (k : CurSt H0 h c (p :: (b, row (bytesAV s)) :: L)) (hN : N = s.length) (hb : s.length + 1 ≤ 1000000000) (hy : bytes ≤ 1000)
    (hk : ∀ b' h', CurSt H0 h' c ((b', row (bytesAV (s ++ [UInt8.ofNat (IntKind.u8.wrap y).toNat]))) :: L) → K (.slice b' 0 (N + 1) (N + 1)) h') : AppG h (.slice b 0 N C) bytes [.int .u8 (IntKind.u8.wrap y)] 1 K := by
  obtain ⟨v, l, i, q, h1, h2, h3, h4⟩ := k.ex
  have h4 : St H0 h ((c, curB v i q) :: (b, row (bytesAV s)) :: L) := h4.sub (List.Sublist.cons_cons _ (List.sublist_cons_self _ _))
  refine AppG.stV (L' := fun b' => (c, curB v i q) :: (b', row (bytesAV s ++ [.int .u8 (IntKind.u8.wrap y)])) :: L) h4 (fun b' => .there .here) (by rw [bytesAV_length]; exact hN) (by rw [bytesAV_length]; exact hb) hy rfl fun b' h' hs' => hk b' h' ⟨v, l, i, q, h1, h2, h3, ?_⟩
  rw [bytesAV_snoc s (wrap_u8 y)] at hs'
  exact hs'



/-! Fuss words that are drawn -/
def DrawW (H0 : H) (c : Nat) (w : AV) (h' : H) : Prop := ∃ (m : Int) (x : List UInt8), w = .tup [.int .i64 m, .str x] ∧ (-1 ≤ m ∧ m ≤ 5) ∧ (x.length ≤ 17 ∧ (1 ≤ m → m ≤ 4 → (x.length : Int) ≤ 4 * m + 1)) ∧ CurSt H0 h' c []


end Go.Proofs.Ythadkebcjlpkhaa

/-
  Contracts of the functions that draw paths are proved.
  They hold for all codes of at most 1048576 bytes.
-/
set_option linter.unusedVariables false
set_option linter.unusedSimpArgs false
namespace Go.Proofs.Ythadkebcjlpkhaa
open Go.Proofs.Ythadkebcjlpkhaa.Ab Go.Proofs.Ythadkebcjlpkhaa.Pl



def greatW : List UInt8 := [117, 117, 117, 117, 117, 117, 117, 117, 100, 100, 100, 100, 100, 100, 100, 100]
def greatX : List UInt8 := [117, 117, 117, 117, 117, 117, 117, 117, 117, 100, 100, 100, 100, 100, 100, 100, 100, 100]
def PathLike (x : List UInt8) : Prop := x.length ≤ 13 ∨ x = greatW ∨ x = greatX


end Go.Proofs.Ythadkebcjlpkhaa

/-
  Contracts of the lists of paths are proved.
  They hold for all sizes.
-/
set_option linter.unusedVariables false
set_option linter.unusedSimpArgs false
namespace Go.Proofs.Ythadkebcjlpkhaa
open Go.Proofs.Ythadkebcjlpkhaa.Ab Go.Proofs.Ythadkebcjlpkhaa.Pl

theorem newAtD {h0 h : H} {L : List (Nat × Blk)} {b : Nat} {cs : List AV} (s : St h0 h L) (m : (b, row cs) ∈ L) : New h0 h b cs := ⟨s.is _ m, s.new _ m, s.keeps⟩
theorem slice_lenD {b n m : Nat} (e : n = m) : AV.slice b 0 n n = AV.slice b 0 m m := by rw [e]
/-- an inner function that gathers, its shared variable and the row -/
abbrev accD (F : Nat) (caps : List AV) (pm po b N : Nat) (out : List (List UInt8)) (R : List (Nat × Blk)) : List (Nat × Blk) :=
  (pm, row [.func F caps]) :: (po, row [.slice b 0 N N]) :: (b, row (strs out)) :: R

/-- paths that go on with so many letters u and d -/
def dyAll : Nat → List UInt8 → Int → Int → List (List UInt8)
  | 0, _, _, _ => []
  | f + 1, w, up, dn => if dn = 0 then [w] else (if 0 < up then dyAll f (w ++ [117]) (up - 1) dn else []) ++ (if up < dn then dyAll f (w ++ [100]) up (dn - 1) else [])
theorem dyAll_len : ∀ f w up dn, (dyAll f w up dn).length ≤ 2 ^ f := by
  intro f
  induction f with
  | zero => intro w up dn; simp [dyAll]
  | succ f ih =>
    intro w up dn
    have := Nat.pow_succ 2 f
    have p := Nat.pow_pos (n := f) (show 0 < 2 by decide)
    have a := ih (w ++ [117]) (up - 1) dn
    have b := ih (w ++ [100]) up (dn - 1)
    unfold dyAll
    split
    · simp; omega
    · rw [List.length_append]
      split <;> split <;> simp <;> omega





end Go.Proofs.Ythadkebcjlpkhaa
