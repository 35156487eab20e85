/-
  Plain laws of Fuss words are proved: lists, places, and words that are split and joined again.
  They hold for words of at most four letters u.
-/
import Derived.Test.YtbicfognbbeigaaGreatH17
import Derived.Test.YtbicfognbbeigaaGreatH0
import Derived.Test.YtbicfognbbeigaaGreatH39
import Derived.Test.YtbicfognbbeigaaGreatH18
import Derived.Test.YtbicfognbbeigaaGreatH37
import Derived.Test.YtbicfognbbeigaaGreatH2
import Derived.Test.YtbicfognbbeigaaGreatH31
set_option linter.unusedVariables false
set_option linter.unusedSimpArgs false
namespace Go.Proofs.YtbicfognbbeigaaGreat
open Go.Proofs.YtbicfognbbeigaaGreat.Ab Go.Proofs.YtbicfognbbeigaaGreat.Pl

/-! all words of so many letters, at most, whose heights are not below zero and end at zero -/
def allF (P : List UInt8 → Bool) (m : Nat) : Nat → Nat → List UInt8 → Bool
  | 0, h, acc => !(Nat.beq h 0) || P acc.reverse
  | k + 1, h, acc => (!(Nat.beq h 0) || P acc.reverse) && (Nat.blt (k + 1) h || (allF P m k (h + m - 1) (117 :: acc) && (Nat.beq h 0 || allF P m k (h - 1) (100 :: acc))))
theorem u8_117 {x : UInt8} (h : (x.toNat : Int) = 117) : x = 117 := UInt8.toNat_inj.1 (by
  have e : (117 : UInt8).toNat = 117 := rfl
  omega)
theorem u8_100 {x : UInt8} (h : (x.toNat : Int) = 100) : x = 100 := UInt8.toNat_inj.1 (by
  have e : (100 : UInt8).toNat = 100 := rfl
  omega)
theorem walk_len {m : Int} (hm : 1 ≤ m) : ∀ (r : List UInt8) (h : Int), walkH (m - 1) (-1) false r h = some 0 → h ≤ r.length
  | [], h, e => by
    have e : some h = some 0 := e
    injection e with e
    simp [e]
  | x :: r, h, e => by
    rw [walkH] at e
    cases d : stepOf (m - 1) (-1) false x with
    | none => rw [d] at e; cases e
    | some y =>
      rw [d] at e
      simp only at e
      split at e
      · cases e
      · have ih := walk_len hm r _ e
        unfold stepOf at d
        simp only [List.length_cons]
        split at d
        · injection d with d; omega
        · split at d
          · injection d with d; omega
          · split at d
            · rename_i hq; simp at hq
            · cases d
theorem allF_spec {P : List UInt8 → Bool} {m : Nat} (hm : 1 ≤ m) : ∀ (k h : Nat) (acc : List UInt8), allF P m k h acc = true → ∀ r : List UInt8, r.length ≤ k → walkH ((m : Int) - 1) (-1) false r h = some 0 → P (acc.reverse ++ r) = true
  | k, h, acc, ha, [], hl, hw => by
    have hw : some (h : Int) = some 0 := hw
    injection hw with hw
    have h0 : h = 0 := by omega
    subst h0
    rw [List.append_nil]
    cases k with
    | zero => simpa [allF] using ha
    | succ k =>
      rw [allF, Bool.and_eq_true] at ha
      simpa using ha.1
  | 0, h, acc, ha, x :: r, hl, hw => by simp at hl
  | k + 1, h, acc, ha, x :: r, hl, hw => by
    rw [allF, Bool.and_eq_true] at ha
    have ha := ha.2
    have wl := walk_len (m := (m : Int)) (by omega) _ _ hw
    have nb : Nat.blt (k + 1) h = false := by
      rw [Bool.eq_false_iff]
      intro c
      have := Nat.le_of_ble_eq_true c
      simp only [List.length_cons] at wl hl
      omega
    rw [nb, Bool.false_or, Bool.and_eq_true] at ha
    rw [walkH] at hw
    cases d : stepOf ((m : Int) - 1) (-1) false x with
    | none => rw [d] at hw; cases hw
    | some y =>
      rw [d] at hw
      simp only at hw
      split at hw
      · cases hw
      · rename_i hy
        unfold stepOf at d
        split at d
        · rename_i hx
          injection d with d
          have ih := allF_spec hm k (h + m - 1) (117 :: acc) ha.1 r (by simpa using hl) (by rw [show ((h + m - 1 : Nat) : Int) = h + y by omega]; exact hw)
          have ex : x = 117 := u8_117 (by simpa using hx)
          rw [ex]
          simpa using ih
        · split at d
          · rename_i hx
            injection d with d
            have hb : Nat.beq h 0 = false := by
              rw [Bool.eq_false_iff]
              intro c
              have := Nat.eq_of_beq_eq_true c
              omega
            have ha2 := ha.2
            rw [hb, Bool.false_or] at ha2
            have ih := allF_spec hm k (h - 1) (100 :: acc) ha2 r (by simpa using hl) (by rw [show ((h - 1 : Nat) : Int) = h + y by omega]; exact hw)
            have ex : x = 100 := u8_100 (by simpa using hx)
            rw [ex]
            simpa using ih
          · split at d
            · rename_i hq; simp at hq
            · cases d
def sjP (m : Int) (w : List UInt8) : Bool := decide (w = []) || decide ((finS m w).length = m.toNat ∧ joinF m (finS m w) = (w, true))
set_option maxRecDepth 100000 in
theorem sj_1 : allF (sjP 1) 1 5 0 [] = true := by decide +kernel
set_option maxRecDepth 100000 in
theorem sj_2 : allF (sjP 2) 2 9 0 [] = true := by decide +kernel
set_option maxRecDepth 100000 in
theorem sj_3 : allF (sjP 3) 3 13 0 [] = true := by decide +kernel
set_option maxRecDepth 100000 in
theorem sj_4 : allF (sjP 4) 4 17 0 [] = true := by decide +kernel
theorem split_join {m : Int} {w : List UInt8} (h : isFuss m w = true) (hw : w ≠ []) (hl : (w.length : Int) ≤ 4 * m + 1) : ((finS m w).length : Int) = m ∧ joinF m (finS m w) = (w, true) := by
  have hb := isFuss_len h
  have hk : walkH (m - 1) (-1) false w 0 = some 0 := by
    unfold isFuss at h
    simp only [Bool.and_eq_true, beq_iff_eq] at h
    exact h.2
  have fin : sjP m w = true → ((finS m w).length : Int) = m ∧ joinF m (finS m w) = (w, true) := fun c => by
    unfold sjP at c
    rw [Bool.or_eq_true, decide_eq_true_iff, decide_eq_true_iff] at c
    rcases c with c | c
    · exact absurd c hw
    · exact ⟨by have := c.1; omega, c.2⟩
  have m4 : m = 1 ∨ m = 2 ∨ m = 3 ∨ m = 4 := by omega
  rcases m4 with rfl | rfl | rfl | rfl
  · exact fin (allF_spec (m := 1) (by decide) 5 0 [] sj_1 w (by omega) hk)
  · exact fin (allF_spec (m := 2) (by decide) 9 0 [] sj_2 w (by omega) hk)
  · exact fin (allF_spec (m := 3) (by decide) 13 0 [] sj_3 w (by omega) hk)
  · exact fin (allF_spec (m := 4) (by decide) 17 0 [] sj_4 w (by omega) hk)

/-! lists, numbers and places -/
def placeOk (m n : Int) : Bool := decide (((fussP m n).1.length : Int) = fussN m n) && (decide (m ≠ 2) || decide (fussN m n = catN n)) && (List.range (fussP m n).1.length).all fun i => isFuss m ((fussP m n).1.getD i []) && decide (rankF m ((fussP m n).1.getD i []) = (i : Int))
set_option maxRecDepth 100000 in
theorem place_1 : (List.range 5).all (fun n => placeOk 1 (n : Int)) = true := by decide +kernel
set_option maxRecDepth 100000 in
theorem place_2 : (List.range 5).all (fun n => placeOk 2 (n : Int)) = true := by decide +kernel
set_option maxRecDepth 100000 in
theorem place_3 : (List.range 5).all (fun n => placeOk 3 (n : Int)) = true := by decide +kernel
set_option maxRecDepth 100000 in
theorem place_4 : (List.range 5).all (fun n => placeOk 4 (n : Int)) = true := by decide +kernel
theorem place_fine {m n : Int} (hm : 1 ≤ m ∧ m ≤ 4) (hn : 0 ≤ n ∧ n ≤ 4) : ((fussP m n).1.length : Int) = fussN m n ∧ (m = 2 → fussN m n = catN n) ∧ ∀ i, i < (fussP m n).1.length → isFuss m ((fussP m n).1.getD i []) = true ∧ rankF m ((fussP m n).1.getD i []) = (i : Int) := by
  have p : placeOk m n = true := by
    obtain ⟨k, rfl⟩ := Int.eq_ofNat_of_zero_le hn.1
    have hk : k ∈ List.range 5 := List.mem_range.2 (by omega)
    have m4 : m = 1 ∨ m = 2 ∨ m = 3 ∨ m = 4 := by omega
    rcases m4 with rfl | rfl | rfl | rfl
    · exact List.all_eq_true.1 place_1 k hk
    · exact List.all_eq_true.1 place_2 k hk
    · exact List.all_eq_true.1 place_3 k hk
    · exact List.all_eq_true.1 place_4 k hk
  unfold placeOk at p
  rw [Bool.and_eq_true, Bool.and_eq_true, decide_eq_true_iff, Bool.or_eq_true, decide_eq_true_iff, decide_eq_true_iff] at p
  refine ⟨p.1.1, fun c => p.1.2.resolve_left (fun d => d c), fun i hi => ?_⟩
  have := List.all_eq_true.1 p.2 i (List.mem_range.2 hi)
  rw [Bool.and_eq_true, decide_eq_true_iff] at this
  exact this

end Go.Proofs.YtbicfognbbeigaaGreat

/-
  The law of Fuss words is proved.
  It holds for all codes.
-/
set_option linter.unusedVariables false
set_option linter.unusedSimpArgs false
namespace Go.Proofs.YtbicfognbbeigaaGreat
open Go.Proofs.YtbicfognbbeigaaGreat.Ab Go.Proofs.YtbicfognbbeigaaGreat.Pl

theorem big_ok (l : List UInt8) (v : AV) (h0 : H) (hv : CellsAt h0 v (bytesAV l)) : AC env 5 [v] h0 fun w h' => w = .bool (decide ((l.length : Int) > 1048576)) ∧ h' = h0 := by
  rcases hv with ⟨rfl, e⟩ | ⟨b, cp, rfl, hb⟩
  · have e2 : l = [] := List.eq_nil_of_length_eq_zero (by rw [← bytesAV_length, e]; rfl)
    subst e2
    refine AC.enter Tryz.func5 Tryz.call5 rfl Tryz.ntmps5 (of_decide_eq_true (by rfl)) ?_
    repeat' (first
      | refine AW.seq ?_
      | (refine AW.region ?_; conv => whnf)
      | (refine AW.ret ?_; conv => whnf))
    exact ⟨rfl, rfl⟩
  · refine AC.enter Tryz.func5 Tryz.call5 rfl Tryz.ntmps5 (of_decide_eq_true (by rfl)) ?_
    repeat' (first
      | refine AW.seq ?_
      | (refine AW.region ?_; conv => whnf)
      | (refine AW.ret ?_; conv => whnf))
    exact ⟨by rw [bytesAV_length], rfl⟩
theorem sameWords_ok (l : List (List UInt8)) (b c N C D : Nat) (h0 : H) (hb : Has h0 b (strs l)) (hc' : Has h0 c (strs l)) (hN : N = l.length) (hl : N ≤ 1000000000) : AC env 31 [.slice b 0 N C, .slice c 0 N D] h0 fun v h' => v = .bool true ∧ h' = h0 := by
  refine AC.enter Tryz.func31 Tryz.call31 rfl Tryz.ntmps31 (of_decide_eq_true (by rfl)) ?_
  repeat' (first
    | refine AW.seq ?_
    | (refine AW.region ?_; conv => whnf)
    | refine AW.block ?_
    | (refine AW.skip ?_; conv => whnf)
    | refine AW.cond (by rfl) ?_
    | refine Br.not ?_
    | (refine Br.t (beq_self_eq_true _) ?_; conv => whnf))
  refine AW.loop1 (fun (k : Nat) => [(0, .slice b 0 N C), (1, .slice c 0 N D), (5, .int .i64 k)]) (fun k h' => k ≤ N ∧ h' = h0) (fun k => N - k) 0 (Less.cons rfl (Less.cons rfl (Less.cons rfl (Less.nil _)))) ⟨by omega, rfl⟩ ?_
  rintro k h' ⟨hk, rfl⟩
  by_cases hlt : k < N
  · repeat' (first
      | (refine Has.loadS hb rfl (by omega) ?_; conv => whnf)
      | (refine Has.loadS hc' rfl (by omega) ?_; conv => whnf)
      | refine AW.seq ?_
      | (refine AW.region ?_; conv => whnf)
      | refine AW.block ?_
      | (refine AW.skip ?_; conv => whnf)
      | refine AW.cond (by rfl) ?_
      | (refine AW.draw (id := 6) (.p 0 (.p 1 (.p 2 (.p 4 (.p 5 (.p 6 (.r 3 [8] (.r 7 [8] (.p 8 .done))))))))) (by kernel_rfl) (by kernel_rfl) ?_; conv => whnf)
      | refine Br.not ?_
      | (refine Br.t (beq_self_eq_true _) ?_; conv => whnf)
      | (refine Br.dt (by omega) ?_; conv => whnf)
      | (refine Wr.i64 (by omega) ?_; conv => whnf)
      | (refine Ck.mk (by omega) ?_; conv => whnf))
    all_goals exact ⟨k + 1, (Less.cons rfl (Less.cons rfl (Less.cons rfl (Less.nil _)))), ⟨by omega, rfl⟩, by omega⟩
  · repeat' (first
      | refine AW.seq ?_
      | (refine AW.region ?_; conv => whnf)
      | (refine AW.ret ?_; conv => whnf)
      | (refine AW.exit ?_; conv => whnf)
      | refine AW.cond (by rfl) ?_
      | (refine Br.df (by omega) ?_; conv => whnf))
    exact ⟨rfl, rfl⟩

/-! what a law needs to know of what was drawn -/
structure CutOk (m : Int) (w : List UInt8) (p : List (List UInt8)) : Prop where
  split : splitF m w = (p, true)
  len : (p.length : Int) = m
  join : joinF m p = (w, true)
  m4 : 1 ≤ m ∧ m ≤ 4
  small : ∀ s ∈ p, s.length ≤ 24
theorem cut_cases {m : Int} {w : List UInt8} (hl : 1 ≤ m → m ≤ 4 → (w.length : Int) ≤ 4 * m + 1) : (∃ p, CutOk m w p) ∨ splitF m w = ([], false) := by
  by_cases ok : isFuss m w = true ∧ w ≠ []
  · left
    have hb := isFuss_len ok.1
    obtain ⟨e1, e2⟩ := split_join ok.1 ok.2 (hl hb.1.1 hb.1.2)
    refine ⟨finS m w, if_pos ok, e1, e2, hb.1, fun s hs => ?_⟩
    have jo : joinOk m (finS m w) := by
      apply Classical.byContradiction
      intro c
      have : joinF m (finS m w) = ([], false) := if_neg c
      rw [this] at e2
      cases e2
    obtain ⟨i, hi, rfl⟩ := List.getElem_of_mem hs
    have := jo.2.2.1 i hi
    rw [show (finS m w).getD i [] = (finS m w)[i] by simp [List.getD, hi]] at this
    exact (isFuss_len this).2
  · right
    exact if_neg ok
structure ListOk (m n : Int) (L : List (List UInt8)) : Prop where
  is : fussP m n = (L, true)
  len : (L.length : Int) = fussN m n
  cat : m = 2 → fussN m n = catN n
  small : 0 < L.length ∧ L.length ≤ 1000
  place : ∀ i, i < L.length → isFuss m (L.getD i []) = true ∧ rankF m (L.getD i []) = (i : Int)
theorem fussN_small {m n : Int} (hm : 1 ≤ m ∧ m ≤ 4) (hn : 0 ≤ n ∧ n ≤ 4) : 1 ≤ fussN m n ∧ fussN m n ≤ 1000 := by
  obtain ⟨a, rfl⟩ := Int.eq_ofNat_of_zero_le (show 0 ≤ m by omega)
  obtain ⟨b, rfl⟩ := Int.eq_ofNat_of_zero_le hn.1
  have ha : a = 1 ∨ a = 2 ∨ a = 3 ∨ a = 4 := by omega
  have hb : b = 0 ∨ b = 1 ∨ b = 2 ∨ b = 3 ∨ b = 4 := by omega
  rcases ha with rfl | rfl | rfl | rfl <;> rcases hb with rfl | rfl | rfl | rfl | rfl <;> decide
theorem list_cases (m n : Int) : (∃ L, ListOk m n L) ∨ fussP m n = ([], false) := by
  by_cases ok : (1 ≤ m ∧ m ≤ 4) ∧ 0 ≤ n ∧ n ≤ 4
  · left
    obtain ⟨e1, e2, e3⟩ := place_fine ok.1 ok.2
    have fs := fussN_small ok.1 ok.2
    have e : fussP m n = ((fussP m n).1, true) := by
      have : fussP m n = (fussAll m.toNat 25 [] n.toNat 0, true) := if_pos ok
      rw [this]
    exact ⟨(fussP m n).1, e, e1, e2, by omega, e3⟩
  · right
    exact if_neg ok
structure PickOk (m x : Int) (L : List (List UInt8)) : Prop where
  sum : -9223372036854775808 ≤ x * (L.length : Int) ∧ x * (L.length : Int) ≤ 9223372036854775807
  pos : 0 ≤ (x * (L.length : Int)).tdiv 256 ∧ (x * (L.length : Int)).tdiv 256 < L.length
  fuss : isFuss m (L.getD ((x * (L.length : Int)).tdiv 256).toNat []) = true
  rank : rankF m (L.getD ((x * (L.length : Int)).tdiv 256).toNat []) = (x * (L.length : Int)).tdiv 256
  small : (L.getD ((x * (L.length : Int)).tdiv 256).toNat []).length ≤ 24
theorem pick_ok {m n x : Int} {L : List (List UInt8)} (h : ListOk m n L) (hx : 0 ≤ x ∧ x ≤ 255) (hL : 0 < L.length) : PickOk m x L := by
  have a1 : 0 ≤ x * (L.length : Int) := Int.mul_nonneg hx.1 (by omega)
  have a2 : x * (L.length : Int) ≤ 255 * L.length := Int.mul_le_mul_of_nonneg_right hx.2 (by omega)
  have s := h.small.2
  have d1 : (x * (L.length : Int)).tdiv 256 = x * (L.length : Int) / 256 := Int.tdiv_eq_ediv_of_nonneg a1
  have at_ : 0 ≤ (x * (L.length : Int)).tdiv 256 ∧ (x * (L.length : Int)).tdiv 256 < L.length := by
    rw [d1]
    generalize x * (L.length : Int) = y at *
    omega
  obtain ⟨p1, p2⟩ := h.place ((x * (L.length : Int)).tdiv 256).toNat (by omega)
  exact ⟨by omega, at_, p1, by rw [p2]; omega, (isFuss_len p1).2⟩


theorem CurSt.newCall {H0 h h' : H} {c b : Nat} {cs : List AV} {L : List (Nat × Blk)} (s : CurSt H0 h c L) (n : New h h' b cs) : CurSt H0 h' c ((b, row cs) :: L) := by
  obtain ⟨v, l, i, k, h1, h2, h3, h4⟩ := s.ex
  exact ⟨v, l, i, k, h1, h2, h3, (h4.newCall n).perm (.swap _ _ _)⟩
/-- words to join are drawn: all parts of one, or too few -/
inductive DrawJ (H0 : H) (w : AV) (h' : H) : Prop where
  | all (m : Int) (b : Nat) (q : List (List UInt8)) (e : w = .tup [.int .i64 m, .slice b 0 q.length q.length]) (hm : -1 ≤ m ∧ m ≤ 5) (hb : Has h' b (strs q)) (hq : q.length ≤ 1000) (hs : ∀ s ∈ q, s.length ≤ 24) (k : Keeps H0 h') : DrawJ H0 w h'
  | few (m : Int) (b o N C : Nat) (e : w = .tup [.int .i64 m, .slice b o N C]) (hm : -1 ≤ m ∧ m ≤ 5) (hN : (N : Int) ≠ m) (k : Keeps H0 h') : DrawJ H0 w h'

/-! a row of statements, and what holds behind it -/
def runL (E : Env) (n : Nat) (Q : Exit → Fr → H → Prop) : List Code → (Fr → H → Prop) → Fr → H → Prop
  | [], M, fr, h => M fr h
  | s :: l, M, fr, h => AW E n s fr h (thenK (runL E n Q l M) Q)
def seqL : List Code → Code → Code
  | [], R => R
  | s :: l, R => .seq s (seqL l R)
theorem AW.seqL {E : Env} {n : Nat} {Q : Exit → Fr → H → Prop} {M : Fr → H → Prop} {R : Code} : ∀ (l : List Code) {fr : Fr} {h : H}, runL E n Q l M fr h → (∀ fr h, M fr h → AW E n R fr h Q) → AW E n (seqL l R) fr h Q
  | [], _, _, hx, hy => hy _ _ hx
  | s :: l, fr, h, hx, hy => AW.seq (AW.mono hx fun e fr' h' q => match e, q with
    | .normal, q => AW.seqL l q hy
    | .exit _, q => q
    | .ret, q => q
    | .goto _, q => q
    | .panic _, q => q
    | .outgrown, q => q)
def MidA (h0 : H) (v : AV) (fr : Fr) (h : H) : Prop := Less fr [(0, v)] ∧ Keeps h0 h
def MidB (h0 : H) (v : AV) (fr : Fr) (h : H) : Prop := ∃ (a : Int) (x : List UInt8), (-1 ≤ a ∧ a ≤ 5) ∧ x.length ≤ 17 ∧ Less fr [(0, v), (10, .int .i64 a), (11, .str x)] ∧ Keeps h0 h


end Go.Proofs.YtbicfognbbeigaaGreat

/-
  The first part of the law of distances is proved: both ways are the same.
  It holds for all codes.
-/
set_option linter.unusedVariables false
set_option linter.unusedSimpArgs false
namespace Go.Proofs.YtbicfognbbeigaaGreat
open Go.Proofs.YtbicfognbbeigaaGreat.Ab Go.Proofs.YtbicfognbbeigaaGreat.Pl

/-- two trees of a size and the way between them are known -/
def MidY (h0 : H) (v : AV) (fr : Fr) (h : H) : Prop := ∃ n i j bm, (n ≤ 5 ∧ i < (trs n).length ∧ j < (trs n).length) ∧ Less fr [(0, v), (3, .str (tr n i).txt), (4, .str (tr n j).txt), (6, .bool true), (7, .slice bm 0 (wayI n i j).length (wayI n i j).length), (9, .int .i64 (((wayI n i j).length : Int) - 1))] ∧ St h0 h [(bm, row (strs (txI n (wayI n i j))))]
/-- there is no way -/
def MidN (h0 : H) (v : AV) (fr : Fr) (h : H) : Prop := ∃ a b, Less fr [(0, v), (3, .str a), (4, .str b), (6, .bool false), (9, .int .i64 (-1))] ∧ Keeps h0 h
def MidYN (h0 : H) (v : AV) (fr : Fr) (h : H) : Prop := MidY h0 v fr h ∨ MidN h0 v fr h
set_option maxHeartbeats 16000000 in
theorem disSeg1 {h0 : H} (l : List UInt8) (v : AV) (hv : CellsAt h0 v (bytesAV l)) (hl : l.length ≤ 1048576) {Q : Exit → Fr → H → Prop} (rest : ∀ fr h, MidYN h0 v fr h → AW env 180 (restL 7 (bodyOf Tryz.f4)) fr h Q) : ∀ fr h, MidC h0 v fr h → AW env 180 (restL 0 (bodyOf Tryz.f4)) fr h Q := by
  rintro fr h ⟨l1, k1⟩
  refine AW.less l1 ?_
  have hs := St.refl h
  have hv1 := hv.keep k1
  have hb : decide ((l.length : Int) > 1048576) = false := decide_eq_false (by omega)
  obtain ⟨M, hM⟩ : ∃ M, M = MidYN h0 v := ⟨_, rfl⟩
  rw [← hM] at rest
  have hv2 := hv1
  obtain ⟨rfl, e⟩ | ⟨b, c, rfl, hbb⟩ := hv2
  all_goals
    refine AW.seqS [_, _, _, _, _, _, _] (M := M) ?_ rest
    conv => whnf
    repeat' (first
      | (refine (codeBig_ok _ _ _ hv1).mono ?_; rw [hb]; rintro w h' ⟨rfl, e'⟩; subst h'; conv => whnf)
      | (refine (drawWay_ok _ _ _ hv1 hl).mono ?_; rintro w h' ⟨t, x, rfl, ht, hx, hk⟩; have hs1 := St.keep (St.refl h0) (k1.trans hk); clear hk; rcases two_cases t.txt x with ⟨n, i, j, W, hn, hi, hj, e1, e2, hW, dl, dc⟩ | no <;> (first | (rw [e1, e2]; conv => whnf) | (conv => whnf)))
      | (refine (iWay_ok n i j _ hn hi hj).mono ?_; rw [hW]; rintro w h2 ⟨ca, rfl, hnw⟩; have hs2 := hs1.newCall hnw; clear hnw; conv => whnf)
      | (refine (sWay_ok n i j _ hn hi hj).mono ?_; rw [hW]; rintro w h3 ⟨cb, rfl, hnw⟩; have hs3 := hs2.newCall hnw; clear hnw; conv => whnf)
      | (refine (iDist_ok n i j _ hn hi hj (by rw [hW]; omega)).mono ?_; rw [hW]; rintro w h4 ⟨rfl, hk⟩; have hs4 := hs3.keep hk; clear hk; conv => whnf)
      | (refine (sDist_ok n i j _ hn hi hj (by rw [hW]; omega)).mono ?_; rw [hW]; rintro w h5 ⟨rfl, hk⟩; have hs5 := hs4.keep hk; clear hk; conv => whnf)
      | (refine (iWayNo_ok _ _ _ no).mono ?_; rintro w h2 ⟨ca, rfl, hnw⟩; have hs2 := hs1.newCall hnw; clear hnw; conv => whnf)
      | (refine (sWayNo_ok _ _ _ no).mono ?_; rintro w h3 ⟨cb, rfl, hnw⟩; have hs3 := hs2.newCall hnw; clear hnw; conv => whnf)
      | (refine (iDistNo_ok _ _ _ no).mono ?_; rintro w h4 ⟨rfl, hk⟩; have hs4 := hs3.keep hk; clear hk; conv => whnf)
      | (refine (sDistNo_ok _ _ _ no).mono ?_; rintro w h5 ⟨rfl, hk⟩; have hs5 := hs4.keep hk; clear hk; conv => whnf)
      | (refine (sameWords_ok (txI n W) _ _ _ _ _ _ (St.has hs4 (.tail _ (.head _))) (St.has hs4 (.head _)) (by simp) (by omega)).mono ?_; rintro w h' ⟨rfl, e'⟩; subst h'; conv => whnf)
      | (refine (sameWords_ok [] _ _ _ _ _ _ (St.has hs4 (.tail _ (.head _))) (St.has hs4 (.head _)) rfl (by decide)).mono ?_; rintro w h' ⟨rfl, e'⟩; subst h'; conv => whnf)
      | (refine AW.seqLow (T := 21) ?_; conv => whnf)
      | (refine AW.region ?_; conv => whnf)
      | (refine AW.skip ?_; conv => whnf)
      | refine AW.cond (by rfl) ?_
      | (refine Br.ff ?_; conv => whnf)
      | refine Br.not ?_
      | (refine Br.t (beq_self_eq_true _) ?_; conv => whnf))
    all_goals
      rw [hM]
      first
        | exact .inr ⟨t.txt, x, (Less.cons rfl (Less.cons rfl (Less.cons rfl (Less.cons rfl (Less.cons rfl (Less.nil _)))))), hs5.keeps⟩
        | (subst hW; exact .inl ⟨n, i, j, cb, ⟨hn, hi, hj⟩, (Less.cons rfl (Less.cons rfl (Less.cons rfl (Less.cons rfl (Less.cons rfl (Less.cons rfl (Less.nil _))))))), hs5.sub (.cons_cons _ (List.nil_sublist _))⟩)

end Go.Proofs.YtbicfognbbeigaaGreat
