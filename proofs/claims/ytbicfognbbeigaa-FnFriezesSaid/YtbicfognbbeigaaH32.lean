/-
  Contracts of the functions that draw texts and Fuss words are proved.
  They hold for all codes of at most 1048576 bytes.
-/
import Derived.Test.YtbicfognbbeigaaC67
import Derived.Test.YtbicfognbbeigaaH31
import Derived.Test.YtbicfognbbeigaaH2
import Derived.Test.YtbicfognbbeigaaGY
set_option linter.unusedVariables false
set_option linter.unusedSimpArgs false
namespace Go.Proofs.Ytbicfognbbeigaa
open Go.Proofs.Ytbicfognbbeigaa.Ab Go.Proofs.Ytbicfognbbeigaa.Pl

theorem wrap_u8 (y : Int) : 0 ≤ IntKind.u8.wrap y ∧ IntKind.u8.wrap y ≤ 255 := by
  rw [IntKind.wrap_u8]
  omega
theorem one_byte {z : Int} (h : 0 ≤ z ∧ z ≤ 255) : [AV.int .u8 z] = bytesAV [UInt8.ofNat z.toNat] := by
  unfold bytesAV
  rw [List.map_cons, List.map_nil, u8_of h]
theorem Oneb.text {h : H} {b : Nat} {y : Int} {K : AV → Prop} (m : h b = some (.cells true 1 [.int .u8 (IntKind.u8.wrap y)])) (hk : K (.str [UInt8.ofNat (IntKind.u8.wrap y).toNat])) : TextG h b 0 1 K :=
  TextG.mk true 1 _ [UInt8.ofNat (IntKind.u8.wrap y).toNat] m (by simp) (one_byte (wrap_u8 y)) hk
theorem CurSt.at {H0 h : H} {c b : Nat} {x : Blk} {L : List (Nat × Blk)} (s : CurSt H0 h c ((b, x) :: L)) : h b = some x := s.st.is _ (.head _)
theorem CurSt.app {H0 h : H} {c b bytes N C : Nat} {p : Nat × Blk} {s : List UInt8} {y : Int} {L : List (Nat × Blk)} {K : AV → H → Prop} (k : CurSt H0 h c (p :: (b, row (bytesAV s)) :: L)) (hN : N = s.length) (hb : s.length + 1 ≤ 1000000000) (hy : bytes ≤ 1000)
    (hk : ∀ b' h', CurSt H0 h' c ((b', row (bytesAV (s ++ [UInt8.ofNat (IntKind.u8.wrap y).toNat]))) :: L) → K (.slice b' 0 (N + 1) (N + 1)) h') : AppG h (.slice b 0 N C) bytes [.int .u8 (IntKind.u8.wrap y)] 1 K := by
  obtain ⟨v, l, i, q, h1, h2, h3, h4⟩ := k.ex
  have h4 : St H0 h ((c, curB v i q) :: (b, row (bytesAV s)) :: L) := h4.sub (List.Sublist.cons_cons _ (List.sublist_cons_self _ _))
  refine AppG.stV (L' := fun b' => (c, curB v i q) :: (b', row (bytesAV s ++ [.int .u8 (IntKind.u8.wrap y)])) :: L) h4 (fun b' => .there .here) (by rw [bytesAV_length]; exact hN) (by rw [bytesAV_length]; exact hb) hy rfl fun b' h' hs' => hk b' h' ⟨v, l, i, q, h1, h2, h3, ?_⟩
  rw [bytesAV_snoc s (wrap_u8 y)] at hs'
  exact hs'



/-! Fuss words that are drawn -/
def DrawW (H0 : H) (c : Nat) (w : AV) (h' : H) : Prop := ∃ (m : Int) (x : List UInt8), w = .tup [.int .i64 m, .str x] ∧ (-1 ≤ m ∧ m ≤ 5) ∧ (x.length ≤ 17 ∧ (1 ≤ m → m ≤ 4 → (x.length : Int) ≤ 4 * m + 1)) ∧ CurSt H0 h' c []


end Go.Proofs.Ytbicfognbbeigaa

/-
  Contracts of the functions that draw paths are proved.
  They hold for all codes of at most 1048576 bytes.
-/
set_option linter.unusedVariables false
set_option linter.unusedSimpArgs false
namespace Go.Proofs.Ytbicfognbbeigaa
open Go.Proofs.Ytbicfognbbeigaa.Ab Go.Proofs.Ytbicfognbbeigaa.Pl

theorem l2Draw_ok (n : Int) (H0 h : H) (c : Nat) (L : List (Nat × Blk)) (s : CurSt H0 h c L) (hn : 0 ≤ n ∧ n ≤ 100) : AC env 78 [.ptr c 0, .int .i64 n] h fun w h' => ∃ x : List UInt8, w = .str x ∧ (x.length : Int) ≤ 2 * n ∧ CurSt H0 h' c L := by
  refine AC.enter Try.func78 Try.call78 rfl Try.ntmps78 (of_decide_eq_true (by rfl)) ?_
  repeat' (first
    | refine AW.seq ?_
    | (refine AW.region ?_; conv => whnf)
    | refine AW.block ?_)
  refine AW.loop3 (fun (u d : Int) (w : List UInt8) => [(0, .ptr c 0), (1, .int .i64 n), (5, .str w), (6, .int .i64 u), (7, .int .i64 d)]) (fun u d w h' => (0 ≤ d ∧ d ≤ u ∧ u ≤ n) ∧ w.length = u + d ∧ CurSt H0 h' c L) (fun u d _ => (2 * n - u - d).toNat) 0 0 []
    (Less.cons rfl (Less.cons rfl (Less.cons rfl (Less.cons rfl (Less.cons rfl (Less.nil _)))))) ⟨by omega, by simp, s⟩ ?_
  rintro u d w h1 ⟨hd, hw, hc1⟩
  clear s
  by_cases hlt : d < n
  · repeat' (first
      | refine AW.seq ?_
      | (refine AW.region ?_; conv => whnf)
      | refine AW.block ?_
      | (refine AW.skip ?_; conv => whnf)
      | refine AW.cond (by rfl) ?_
      | (refine (l1Once_ok _ _ _ _ _ (by assumption)).mono ?_; rintro w h' ⟨xO, rfl, hcur⟩; conv => whnf)
      | (refine Br.tt ?_; conv => whnf)
      | (refine Br.ff ?_; conv => whnf)
      | (refine Br.dt (by omega) ?_; conv => whnf)
      | (refine Br.df (by omega) ?_; conv => whnf)
      | (refine Br.dec (fun hc => ?_) (fun hc => ?_) <;> conv => whnf)
      | (refine Br.mk (fun hc => ?_) (fun hc => ?_) <;> conv => whnf)
      | (refine Wr.i64 (by omega) ?_; conv => whnf)
      | (refine Ck.mk (by simp only [List.length_drop, List.length_take, List.length_append, List.length_cons, List.length_nil]; omega) ?_; conv => whnf))
    all_goals first
      | exact ⟨u + 1, d, _, (Less.cons rfl (Less.cons rfl (Less.cons rfl (Less.cons rfl (Less.cons rfl (Less.nil _)))))), ⟨by omega, by simp only [List.length_append, List.length_cons, List.length_nil]; omega, by assumption⟩, by omega⟩
      | exact ⟨u, d + 1, _, (Less.cons rfl (Less.cons rfl (Less.cons rfl (Less.cons rfl (Less.cons rfl (Less.nil _)))))), ⟨by omega, by simp only [List.length_append, List.length_cons, List.length_nil]; omega, by assumption⟩, by omega⟩
  · repeat' (first
      | refine AW.seq ?_
      | (refine AW.region ?_; conv => whnf)
      | (refine AW.ret ?_; conv => whnf)
      | (refine AW.exit ?_; conv => whnf)
      | refine AW.cond (by rfl) ?_
      | (refine Br.df (by omega) ?_; conv => whnf))
    exact ⟨w, rfl, by omega, hc1⟩

theorem l2Path_ok (H0 h : H) (c : Nat) (L : List (Nat × Blk)) (s : CurSt H0 h c L) : AC env 60 [.ptr c 0] h fun w h' => ∃ x : List UInt8, w = .str x ∧ x.length ≤ 12 ∧ CurSt H0 h' c L := by
  refine AC.enter Try.func60 Try.call60 rfl Try.ntmps60 (of_decide_eq_true (by rfl)) ?_
  repeat' (first
    | (refine (l2Draw_ok _ _ _ _ _ (by assumption) (by omega)).mono ?_; rintro w h' ⟨x, rfl, hx, hcur⟩; conv => whnf)
    | refine AW.seq ?_
    | (refine AW.region ?_; conv => whnf)
    | (refine AW.ret ?_; conv => whnf)
    | (refine (l1Below_ok _ _ _ _ _ (by assumption)).mono ?_; rintro w h' ⟨xB, rfl, hxB, hxB2, hcur⟩; conv => whnf))
  exact ⟨x, rfl, by omega, hcur⟩

def greatW : List UInt8 := [117, 117, 117, 117, 117, 117, 117, 117, 100, 100, 100, 100, 100, 100, 100, 100]
def greatX : List UInt8 := [117, 117, 117, 117, 117, 117, 117, 117, 117, 100, 100, 100, 100, 100, 100, 100, 100, 100]
def PathLike (x : List UInt8) : Prop := x.length ≤ 13 ∨ x = greatW ∨ x = greatX


end Go.Proofs.Ytbicfognbbeigaa

/-
  Contracts of the lists of paths are proved.
  They hold for all sizes.
-/
set_option linter.unusedVariables false
set_option linter.unusedSimpArgs false
namespace Go.Proofs.Ytbicfognbbeigaa
open Go.Proofs.Ytbicfognbbeigaa.Ab Go.Proofs.Ytbicfognbbeigaa.Pl

theorem newAtD {h0 h : H} {L : List (Nat × Blk)} {b : Nat} {cs : List AV} (s : St h0 h L) (m : (b, row cs) ∈ L) : New h0 h b cs := ⟨s.is _ m, s.new _ m, s.keeps⟩
theorem slice_lenD {b n m : Nat} (e : n = m) : AV.slice b 0 n n = AV.slice b 0 m m := by rw [e]
/-- an inner function that gathers, its shared variable and the row -/
abbrev accD (F : Nat) (caps : List AV) (pm po b N : Nat) (out : List (List UInt8)) (R : List (Nat × Blk)) : List (Nat × Blk) :=
  (pm, row [.func F caps]) :: (po, row [.slice b 0 N N]) :: (b, row (strs out)) :: R

/-- paths that go on with so many letters u and d -/
def dyAll : Nat → List UInt8 → Int → Int → List (List UInt8)
  | 0, _, _, _ => []
  | f + 1, w, up, dn => if dn = 0 then [w] else (if 0 < up then dyAll f (w ++ [117]) (up - 1) dn else []) ++ (if up < dn then dyAll f (w ++ [100]) up (dn - 1) else [])
theorem dyAll_len : ∀ f w up dn, (dyAll f w up dn).length ≤ 2 ^ f := by
  intro f
  induction f with
  | zero => intro w up dn; simp [dyAll]
  | succ f ih =>
    intro w up dn
    have := Nat.pow_succ 2 f
    have p := Nat.pow_pos (n := f) (show 0 < 2 by decide)
    have a := ih (w ++ [117]) (up - 1) dn
    have b := ih (w ++ [100]) up (dn - 1)
    unfold dyAll
    split
    · simp; omega
    · rw [List.length_append]
      split <;> split <;> simp <;> omega





end Go.Proofs.Ytbicfognbbeigaa

/-
  Contracts of the matching of a path are proved.
  They hold for all paths for which the two ways agree.
-/
set_option linter.unusedVariables false
set_option linter.unusedSimpArgs false
namespace Go.Proofs.Ytbicfognbbeigaa
open Go.Proofs.Ytbicfognbbeigaa.Ab Go.Proofs.Ytbicfognbbeigaa.Pl

def isU (x : UInt8) : Bool := x.toNat == 117
/-- the letter that belongs to one, onward -/
def scF (w : List UInt8) : Nat → Nat → Int → Option Nat
  | 0, _, _ => none
  | f + 1, k, h => if (if ((w.getD k 0).toNat : Int) = 117 then h + 1 else h - 1) = 0 then some k else scF w f (k + 1) (if ((w.getD k 0).toNat : Int) = 117 then h + 1 else h - 1)
/-- and backward -/
def scB (w : List UInt8) : Nat → Int → Option Nat
  | 0, _ => none
  | f + 1, h => if (if ((w.getD f 0).toNat : Int) = 100 then h + 1 else h - 1) = 0 then some f else scB w f (if ((w.getD f 0).toNat : Int) = 100 then h + 1 else h - 1)
def pt (w : List UInt8) (i : Nat) : Option Nat := if ((w.getD i 0).toNat : Int) = 117 then scF w (w.length - i) i 0 else scB w (i + 1) 0

/-- the open letters and the pairs so far -/
def stI (w : List UInt8) : Nat → Option (List Int × List Int)
  | 0 => some ([], List.replicate w.length 0)
  | k + 1 => match stI w k with
    | none => none
    | some (o, l) => if ((w.getD k 0).toNat : Int) = 117 then some (o ++ [(k : Int)], l) else if o.length = 0 then none else some (o.take (o.length - 1), (l.set k (o.getD (o.length - 1) 0)).set (o.getD (o.length - 1) 0).toNat k)
theorem stI_u {w : List UInt8} {k : Nat} {o l : List Int} (e : stI w k = some (o, l)) (h : ((w.getD k 0).toNat : Int) = 117) : stI w (k + 1) = some (o ++ [(k : Int)], l) := by
  simp only [stI, e, if_pos h]
theorem stI_d {w : List UInt8} {k : Nat} {o l : List Int} (e : stI w k = some (o, l)) (h : ¬ ((w.getD k 0).toNat : Int) = 117) (h2 : o.length ≠ 0) : stI w (k + 1) = some (o.take (o.length - 1), (l.set k (o.getD (o.length - 1) 0)).set (o.getD (o.length - 1) 0).toNat k) := by
  simp only [stI, e, if_neg h, if_neg h2]
theorem stI_e {w : List UInt8} {k : Nat} {o l : List Int} (e : stI w k = some (o, l)) (h : ¬ ((w.getD k 0).toNat : Int) = 117) (h2 : o.length = 0) : stI w (k + 1) = none := by
  simp only [stI, e, if_neg h, if_pos h2]
theorem stI_none {w : List UInt8} {k : Nat} (e : stI w k = none) : ∀ j, k ≤ j → stI w j = none := by
  intro j hj
  induction j with
  | zero => rw [← e, show k = 0 by omega]
  | succ j ih =>
    by_cases h : k = j + 1
    · rw [← h, e]
    · simp only [stI, ih (by omega)]
theorem stI_in {w : List UInt8} : ∀ k o l, k ≤ w.length → stI w k = some (o, l) → l.length = w.length ∧ o.length ≤ k ∧ ∀ i, i < o.length → 0 ≤ o.getD i 0 ∧ o.getD i 0 < k := by
  intro k
  induction k with
  | zero =>
    intro o l _ e
    simp only [stI] at e
    injection e with e
    injection e with e1 e2
    subst e1 e2
    exact ⟨by simp, by simp, fun i hi => by simp at hi⟩
  | succ k ih =>
    intro o l hk e
    cases e1 : stI w k with
    | none => simp only [stI, e1] at e; cases e
    | some p =>
      obtain ⟨o', l'⟩ := p
      obtain ⟨g1, g2, g3⟩ := ih o' l' (by omega) e1
      by_cases h : ((w.getD k 0).toNat : Int) = 117
      · rw [stI_u e1 h] at e
        injection e with e
        injection e with e2 e3
        subst e2 e3
        refine ⟨g1, by simp; omega, fun i hi => ?_⟩
        simp only [List.length_append, List.length_cons, List.length_nil] at hi
        by_cases c : i < o'.length
        · have := g3 i c
          have e4 : (o' ++ [(k : Int)]).getD i 0 = o'.getD i 0 := by simp [List.getD, List.getElem?_append_left c]
          rw [e4]
          omega
        · have e4 : (o' ++ [(k : Int)]).getD i 0 = k := by
            rw [show i = o'.length by omega]
            simp [List.getD]
          rw [e4]
          omega
      · by_cases h2 : o'.length = 0
        · rw [stI_e e1 h h2] at e
          cases e
        · rw [stI_d e1 h h2] at e
          injection e with e
          injection e with e2 e3
          subst e2 e3
          refine ⟨by simp [g1], by simp; omega, fun i hi => ?_⟩
          simp only [List.length_take] at hi
          have := g3 i (by omega)
          have e4 : (o'.take (o'.length - 1)).getD i 0 = o'.getD i 0 := by rw [List.getD, List.getD, List.getElem?_take, if_pos (by omega)]
          rw [e4]
          omega


theorem scF_at {w : List UInt8} {f k p : Nat} {h : Int} (e : scF w (f + 1) k h = some p) (y : Int) (hy : (if ((w.getD k 0).toNat : Int) = 117 then h + 1 else h - 1) = y) : (y = 0 ∧ p = k) ∨ (y ≠ 0 ∧ scF w f (k + 1) y = some p) := by
  simp only [scF, hy] at e
  by_cases c : y = 0
  · rw [if_pos c] at e
    injection e with e
    exact .inl ⟨c, e.symm⟩
  · rw [if_neg c] at e
    exact .inr ⟨c, e⟩
theorem scB_at {w : List UInt8} {f p : Nat} {h : Int} (e : scB w (f + 1) h = some p) (y : Int) (hy : (if ((w.getD f 0).toNat : Int) = 100 then h + 1 else h - 1) = y) : (y = 0 ∧ p = f) ∨ (y ≠ 0 ∧ scB w f y = some p) := by
  simp only [scB, hy] at e
  by_cases c : y = 0
  · rw [if_pos c] at e
    injection e with e
    exact .inl ⟨c, e.symm⟩
  · rw [if_neg c] at e
    exact .inr ⟨c, e⟩



end Go.Proofs.Ytbicfognbbeigaa

/-
  Contracts of the matchings of all paths are proved.
  They hold for up to six letters of each kind.
-/
set_option linter.unusedVariables false
set_option linter.unusedSimpArgs false
namespace Go.Proofs.Ytbicfognbbeigaa
open Go.Proofs.Ytbicfognbbeigaa.Ab Go.Proofs.Ytbicfognbbeigaa.Pl

def ptL (w : List UInt8) : List Int := (List.range w.length).map fun i => (((pt w i).getD 0 : Nat) : Int)
def okW (n : Nat) (w : List UInt8) : Bool := w.length == 2 * n && isDyck w && (List.range w.length).all (fun i => (pt w i).isSome) && (match stI w w.length with
  | some p => p.2 == ptL w
  | none => false) && isNC (ptL w)
theorem paths_fine : ∀ n, n < 7 → (dyAll (2 * n + 1) [] n n).all (okW n) = true := by decide +kernel
theorem ptL_len (w : List UInt8) : (ptL w).length = w.length := by simp [ptL]
theorem okW_spec {n : Nat} {w : List UInt8} (h : okW n w = true) : w.length = 2 * n ∧ isDyck w = true ∧ (∀ i, i < w.length → ∃ p : Nat, pt w i = some p ∧ (ptL w).getD i 0 = p) ∧ (∃ o, stI w w.length = some (o, ptL w)) ∧ isNC (ptL w) = true := by
  unfold okW at h
  simp only [Bool.and_eq_true, beq_iff_eq, List.all_eq_true, List.mem_range] at h
  obtain ⟨⟨⟨⟨h1, h2⟩, h3⟩, h4⟩, h5⟩ := h
  refine ⟨h1, h2, fun i hi => ?_, ?_, h5⟩
  · obtain ⟨p, hp⟩ := Option.isSome_iff_exists.1 (h3 i hi)
    refine ⟨p, hp, ?_⟩
    simp [ptL, List.getD, hi, hp]
  · cases e : stI w w.length with
    | none => rw [e] at h4; cases h4
    | some p =>
      rw [e] at h4
      obtain ⟨o, l⟩ := p
      simp only [beq_iff_eq] at h4
      exact ⟨o, by rw [← h4]⟩
/-- all paths of a size -/
def dyP (n : Nat) : List (List UInt8) := dyAll (2 * n + 1) [] n n
theorem dyP_len {n : Nat} (h : n ≤ 6) : (dyP n).length ≤ 8192 := by
  have := dyAll_len (2 * n + 1) [] n n
  have := Nat.pow_le_pow_right (n := 2) (by decide) (show 2 * n + 1 ≤ 13 by omega)
  unfold dyP
  omega
theorem dyP_at {n k : Nat} (h : n ≤ 6) (hk : k < (dyP n).length) : okW n ((dyP n).getD k []) = true := by
  have e : (dyP n).getD k [] = (dyP n)[k] := by simp [List.getD, hk]
  rw [e]
  exact List.all_eq_true.1 (paths_fine n (by omega)) _ (List.getElem_mem hk)


end Go.Proofs.Ytbicfognbbeigaa
