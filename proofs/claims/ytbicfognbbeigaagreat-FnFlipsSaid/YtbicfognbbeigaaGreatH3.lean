/-
  Contracts of the functions that draw texts and Fuss words are proved.
  They hold for all codes of at most 1048576 bytes.
-/
import Derived.Test.YtbicfognbbeigaaGreatH0
import Derived.Test.YtbicfognbbeigaaGreatH2
import Derived.Test.YtbicfognbbeigaaGreatGY
set_option linter.unusedVariables false
set_option linter.unusedSimpArgs false
namespace Go.Proofs.YtbicfognbbeigaaGreat
open Go.Proofs.YtbicfognbbeigaaGreat.Ab Go.Proofs.YtbicfognbbeigaaGreat.Pl

theorem wrap_u8 (y : Int) : 0 ≤ IntKind.u8.wrap y ∧ IntKind.u8.wrap y ≤ 255 := by
  rw [IntKind.wrap_u8]
  omega
theorem one_byte {z : Int} (h : 0 ≤ z ∧ z ≤ 255) : [AV.int .u8 z] = bytesAV [UInt8.ofNat z.toNat] := by
  unfold bytesAV
  rw [List.map_cons, List.map_nil, u8_of h]
theorem Oneb.text {h : H} {b : Nat} {y : Int} {K : AV → Prop} (m : h b = some (.cells true 1 [.int .u8 (IntKind.u8.wrap y)])) (hk : K (.str [UInt8.ofNat (IntKind.u8.wrap y).toNat])) : TextG h b 0 1 K :=
  TextG.mk true 1 _ [UInt8.ofNat (IntKind.u8.wrap y).toNat] m (by simp) (one_byte (wrap_u8 y)) hk
theorem CurSt.at {H0 h : H} {c b : Nat} {x : Blk} {L : List (Nat × Blk)} (s : CurSt H0 h c ((b, x) :: L)) : h b = some x := s.st.is _ (.head _)
theorem CurSt.app {H0 h : H} {c b bytes N C : Nat} {p : Nat × Blk} {s : List UInt8} {y : Int} {L : List (Nat × Blk)} {K : AV → H → Prop} (k : CurSt H0 h c (p :: (b, row (bytesAV s)) :: L)) (hN : N = s.length) (hb : s.length + 1 ≤ 1000000000) (hy : bytes ≤ 1000)
    (hk : ∀ b' h', CurSt H0 h' c ((b', row (bytesAV (s ++ [UInt8.ofNat (IntKind.u8.wrap y).toNat]))) :: L) → K (.slice b' 0 (N + 1) (N + 1)) h') : AppG h (.slice b 0 N C) bytes [.int .u8 (IntKind.u8.wrap y)] 1 K := by
  obtain ⟨v, l, i, q, h1, h2, h3, h4⟩ := k.ex
  have h4 : St H0 h ((c, curB v i q) :: (b, row (bytesAV s)) :: L) := h4.sub (List.Sublist.cons_cons _ (List.sublist_cons_self _ _))
  refine AppG.stV (L' := fun b' => (c, curB v i q) :: (b', row (bytesAV s ++ [.int .u8 (IntKind.u8.wrap y)])) :: L) h4 (fun b' => .there .here) (by rw [bytesAV_length]; exact hN) (by rw [bytesAV_length]; exact hb) hy rfl fun b' h' hs' => hk b' h' ⟨v, l, i, q, h1, h2, h3, ?_⟩
  rw [bytesAV_snoc s (wrap_u8 y)] at hs'
  exact hs'

set_option maxRecDepth 20000 in
theorem l1Text_ok (most : Int) (H0 h : H) (c : Nat) (L : List (Nat × Blk)) (s : CurSt H0 h c L) (hm : 0 ≤ most ∧ most ≤ 100) : AC env 142 [.ptr c 0, .int .i64 most] h fun w h' => ∃ x : List UInt8, w = .str x ∧ x.length ≤ most ∧ CurSt H0 h' c L := by
  refine AC.enter Tryz.func142 Tryz.call142 rfl Tryz.ntmps142 (of_decide_eq_true (by rfl)) ?_
  repeat' (first
    | (refine NewG.cur (by assumption) (fun bt h' hcur => ?_); conv => whnf)
    | refine AW.seq ?_
    | (refine AW.region ?_; conv => whnf)
    | refine AW.block ?_
    | (refine (l1Below_ok _ _ _ _ _ (by assumption)).mono ?_; rintro w h' ⟨xB, rfl, hxB, hxB2, hcur⟩; conv => whnf)
    | (refine Wr.i64 (by omega) ?_; conv => whnf))
  obtain ⟨h1, rfl⟩ : ∃ q, q = h' := ⟨_, rfl⟩
  rename_i sty _ _ _
  refine AW.loop4 (fun (n : Int) (bo m : Nat) (t : List UInt8) => [(0, .ptr c 0), (5, .slice bo 0 m m), (6, .int .i64 sty), (7, .int .i64 n)]) (fun n bo m t h' => 0 ≤ n ∧ n + m ≤ most ∧ t.length = m ∧ CurSt H0 h' c ((bo, row (bytesAV t)) :: L)) (fun n _ _ _ => n.toNat) _ bt 0 []
    (Less.cons rfl (Less.cons rfl (Less.cons rfl (Less.cons rfl (Less.nil _))))) ⟨by omega, by omega, rfl, hcur⟩ ?_
  rintro n bo m t h2 ⟨hn, hnm, ht, hc2⟩
  clear hcur
  by_cases hlt : 0 < n
  · repeat' (first
      | (refine Wr.i64 (by omega) ?_; conv => whnf)
      | (refine Wr.wrap ?_; conv => whnf)
      | (refine NewG.cur (by assumption) (fun bx h' hcx => ?_); conv => whnf)
      | (refine LoadsG.mk true 1 _ (CurSt.at (by assumption)) (by simp) ?_; conv => whnf)
      | (refine CurSt.app (by assumption) ht.symm (by omega) (by decide) (fun b' h' hc3 => ?_); conv => whnf)
      | refine AW.seq ?_
      | (refine AW.region ?_; conv => whnf)
      | refine AW.block ?_
      | (refine AW.skip ?_; conv => whnf)
      | refine AW.cond (by rfl) ?_
      | (refine (l1Byte_ok _ _ _ _ (by assumption)).mono ?_; rintro w h' ⟨xB, rfl, hxB, hcur⟩; conv => whnf)
      | (refine Br.dt (by omega) ?_; conv => whnf)
      | (refine Br.df (by omega) ?_; conv => whnf)
      | (refine Br.dec (fun hc => ?_) (fun hc => ?_) <;> conv => whnf)
      | (refine Wr.i64 (by omega) ?_; conv => whnf)
      | (refine Ck.mk (by omega) ?_; conv => whnf))
    all_goals exact ⟨n - 1, b', m + 1, _, (Less.cons rfl (Less.cons rfl (Less.cons rfl (Less.cons rfl (Less.nil _))))), ⟨by omega, by omega, by simp [ht], hc3⟩, by omega⟩
  · repeat' (first
      | (refine TextG.mk true 1 _ t (CurSt.at (by assumption)) (by rw [bytesAV_length]; omega) (by rw [List.drop_zero, List.take_of_length_le (by rw [bytesAV_length]; omega)]) ?_; conv => whnf)
      | refine AW.seq ?_
      | (refine AW.region ?_; conv => whnf)
      | (refine AW.ret ?_; conv => whnf)
      | (refine AW.exit ?_; conv => whnf)
      | refine AW.cond (by rfl) ?_
      | (refine Br.df (by omega) ?_; conv => whnf))
    refine ⟨t, rfl, by omega, ?_⟩
    exact hc2.sub (List.sublist_cons_self _ _)

theorem l1Spoil_ok (t : List UInt8) (H0 h : H) (c : Nat) (L : List (Nat × Blk)) (s : CurSt H0 h c L) (hl : t.length ≤ 1000) : AC env 129 [.ptr c 0, .str t] h fun w h' => ∃ x : List UInt8, w = .str x ∧ (x.length ≤ 3 ∨ x.length ≤ t.length + 1) ∧ CurSt H0 h' c L := by
  by_cases z : t.length = 0
  · refine AC.enter Tryz.func129 Tryz.call129 rfl Tryz.ntmps129 (of_decide_eq_true (by rfl)) ?_
    repeat' (first
      | (refine (l1Text_ok _ _ _ _ _ (by assumption) (by omega)).mono ?_; rintro w h' ⟨x, rfl, hx, hcur⟩; conv => whnf)
      | refine AW.seq ?_
      | (refine AW.region ?_; conv => whnf)
      | (refine AW.ret ?_; conv => whnf)
      | refine AW.cond (by rfl) ?_
      | (refine Br.dt (by omega) ?_; conv => whnf))
    exact ⟨_, rfl, .inl (by omega), hcur⟩
  · refine AC.enter Tryz.func129 Tryz.call129 rfl Tryz.ntmps129 (of_decide_eq_true (by rfl)) ?_
    repeat' (first
      | (refine Wr.i64 (by omega) ?_; conv => whnf)
      | (refine Wr.wrap ?_; conv => whnf)
      | (refine NewG.cur (by assumption) (fun bx h' hcx => ?_); conv => whnf)
      | (refine Oneb.text (CurSt.at (by assumption)) ?_; conv => whnf)
      | refine AW.seq ?_
      | (refine AW.region ?_; conv => whnf)
      | refine AW.block ?_
      | (refine AW.skip ?_; conv => whnf)
      | (refine AW.ret ?_; conv => whnf)
      | refine AW.cond (by rfl) ?_
      | (refine AW.draw (id := 6) (.p 0 (.p 1 (.p 2 (.p 3 (.p 4 (.p 5 (.p 6 (.p 7 (.p 8 .done))))))))) (by kernel_rfl) (by kernel_rfl) ?_; conv => whnf)
      | (refine AW.draw (id := 8) (.p 0 (.p 1 (.p 2 (.p 3 (.p 9 (.p 10 (.p 11 (.all [4] fun _ => (.p 5 (.all [6] fun _ => (.r 7 [8, 12, 13] (.p 8 (.p 12 (.p 13 .done)))))))))))))) (by kernel_rfl) (by kernel_rfl) ?_; conv => whnf)
      | (refine AW.draw (id := 11) (.p 0 (.p 1 (.p 2 (.p 3 (.p 4 (.p 5 (.p 6 (.p 7 (.p 15 (.p 16 (.p 17 (.p 18 (.all [8] fun _ => (.p 9 (.p 10 (.p 11 (.all [12] fun _ => (.r 13 [14, 19, 20] (.p 14 (.p 19 (.p 20 .done))))))))))))))))))))) (by kernel_rfl) (by kernel_rfl) ?_; conv => whnf)
      | (refine (l1Below_ok _ _ _ _ _ (by assumption)).mono ?_; rintro w h' ⟨xB, rfl, hxB, hxB2, hcur⟩; conv => whnf)
      | (refine (l1Byte_ok _ _ _ _ (by assumption)).mono ?_; rintro w h' ⟨xB, rfl, hxB, hcur⟩; conv => whnf)
      | (refine Br.df (by omega) ?_; conv => whnf)
      | (refine Br.dec (fun hc => ?_) (fun hc => ?_) <;> conv => whnf)
      | (refine Wr.i64 (by omega) ?_; conv => whnf)
      | (refine Ck.mk (by omega) ?_; conv => whnf)
      | (refine Ck.mk (by simp only [List.length_drop, List.length_take, List.length_append, List.length_cons, List.length_nil]; omega) ?_; conv => whnf))
    all_goals exact ⟨_, rfl, .inr (by simp only [List.length_append, List.length_take, List.length_drop, List.length_cons, List.length_nil]; omega), by first | assumption | exact CurSt.sub (by assumption) (List.sublist_cons_self _ _)⟩

/-! Fuss words that are drawn -/
def DrawW (H0 : H) (c : Nat) (w : AV) (h' : H) : Prop := ∃ (m : Int) (x : List UInt8), w = .tup [.int .i64 m, .str x] ∧ (-1 ≤ m ∧ m ≤ 5) ∧ (x.length ≤ 17 ∧ (1 ≤ m → m ≤ 4 → (x.length : Int) ≤ 4 * m + 1)) ∧ CurSt H0 h' c []


end Go.Proofs.YtbicfognbbeigaaGreat

/-
  Contracts of the functions that draw paths are proved.
  They hold for all codes of at most 1048576 bytes.
-/
set_option linter.unusedVariables false
set_option linter.unusedSimpArgs false
namespace Go.Proofs.YtbicfognbbeigaaGreat
open Go.Proofs.YtbicfognbbeigaaGreat.Ab Go.Proofs.YtbicfognbbeigaaGreat.Pl

theorem l2Draw_ok (n : Int) (H0 h : H) (c : Nat) (L : List (Nat × Blk)) (s : CurSt H0 h c L) (hn : 0 ≤ n ∧ n ≤ 100) : AC env 101 [.ptr c 0, .int .i64 n] h fun w h' => ∃ x : List UInt8, w = .str x ∧ (x.length : Int) ≤ 2 * n ∧ CurSt H0 h' c L := by
  refine AC.enter Tryz.func101 Tryz.call101 rfl Tryz.ntmps101 (of_decide_eq_true (by rfl)) ?_
  repeat' (first
    | refine AW.seq ?_
    | (refine AW.region ?_; conv => whnf)
    | refine AW.block ?_)
  refine AW.loop3 (fun (u d : Int) (w : List UInt8) => [(0, .ptr c 0), (1, .int .i64 n), (5, .str w), (6, .int .i64 u), (7, .int .i64 d)]) (fun u d w h' => (0 ≤ d ∧ d ≤ u ∧ u ≤ n) ∧ w.length = u + d ∧ CurSt H0 h' c L) (fun u d _ => (2 * n - u - d).toNat) 0 0 []
    (Less.cons rfl (Less.cons rfl (Less.cons rfl (Less.cons rfl (Less.cons rfl (Less.nil _)))))) ⟨by omega, by simp, s⟩ ?_
  rintro u d w h1 ⟨hd, hw, hc1⟩
  clear s
  by_cases hlt : d < n
  · repeat' (first
      | refine AW.seq ?_
      | (refine AW.region ?_; conv => whnf)
      | refine AW.block ?_
      | (refine AW.skip ?_; conv => whnf)
      | refine AW.cond (by rfl) ?_
      | (refine (l1Once_ok _ _ _ _ _ (by assumption)).mono ?_; rintro w h' ⟨xO, rfl, hcur⟩; conv => whnf)
      | (refine Br.tt ?_; conv => whnf)
      | (refine Br.ff ?_; conv => whnf)
      | (refine Br.dt (by omega) ?_; conv => whnf)
      | (refine Br.df (by omega) ?_; conv => whnf)
      | (refine Br.dec (fun hc => ?_) (fun hc => ?_) <;> conv => whnf)
      | (refine Br.mk (fun hc => ?_) (fun hc => ?_) <;> conv => whnf)
      | (refine Wr.i64 (by omega) ?_; conv => whnf)
      | (refine Ck.mk (by simp only [List.length_drop, List.length_take, List.length_append, List.length_cons, List.length_nil]; omega) ?_; conv => whnf))
    all_goals first
      | exact ⟨u + 1, d, _, (Less.cons rfl (Less.cons rfl (Less.cons rfl (Less.cons rfl (Less.cons rfl (Less.nil _)))))), ⟨by omega, by simp only [List.length_append, List.length_cons, List.length_nil]; omega, by assumption⟩, by omega⟩
      | exact ⟨u, d + 1, _, (Less.cons rfl (Less.cons rfl (Less.cons rfl (Less.cons rfl (Less.cons rfl (Less.nil _)))))), ⟨by omega, by simp only [List.length_append, List.length_cons, List.length_nil]; omega, by assumption⟩, by omega⟩
  · repeat' (first
      | refine AW.seq ?_
      | (refine AW.region ?_; conv => whnf)
      | (refine AW.ret ?_; conv => whnf)
      | (refine AW.exit ?_; conv => whnf)
      | refine AW.cond (by rfl) ?_
      | (refine Br.df (by omega) ?_; conv => whnf))
    exact ⟨w, rfl, by omega, hc1⟩

theorem l2Path_ok (H0 h : H) (c : Nat) (L : List (Nat × Blk)) (s : CurSt H0 h c L) : AC env 87 [.ptr c 0] h fun w h' => ∃ x : List UInt8, w = .str x ∧ x.length ≤ 12 ∧ CurSt H0 h' c L := by
  refine AC.enter Tryz.func87 Tryz.call87 rfl Tryz.ntmps87 (of_decide_eq_true (by rfl)) ?_
  repeat' (first
    | (refine (l2Draw_ok _ _ _ _ _ (by assumption) (by omega)).mono ?_; rintro w h' ⟨x, rfl, hx, hcur⟩; conv => whnf)
    | refine AW.seq ?_
    | (refine AW.region ?_; conv => whnf)
    | (refine AW.ret ?_; conv => whnf)
    | (refine (l1Below_ok _ _ _ _ _ (by assumption)).mono ?_; rintro w h' ⟨xB, rfl, hxB, hxB2, hcur⟩; conv => whnf))
  exact ⟨x, rfl, by omega, hcur⟩

def greatW : List UInt8 := [117, 117, 117, 117, 117, 117, 117, 117, 100, 100, 100, 100, 100, 100, 100, 100]
def greatX : List UInt8 := [117, 117, 117, 117, 117, 117, 117, 117, 117, 100, 100, 100, 100, 100, 100, 100, 100, 100]
def PathLike (x : List UInt8) : Prop := x.length ≤ 13 ∨ x = greatW ∨ x = greatX


end Go.Proofs.YtbicfognbbeigaaGreat

/-
  Contracts of the lists of paths are proved.
  They hold for all sizes.
-/
set_option linter.unusedVariables false
set_option linter.unusedSimpArgs false
namespace Go.Proofs.YtbicfognbbeigaaGreat
open Go.Proofs.YtbicfognbbeigaaGreat.Ab Go.Proofs.YtbicfognbbeigaaGreat.Pl

theorem newAtD {h0 h : H} {L : List (Nat × Blk)} {b : Nat} {cs : List AV} (s : St h0 h L) (m : (b, row cs) ∈ L) : New h0 h b cs := ⟨s.is _ m, s.new _ m, s.keeps⟩
theorem slice_lenD {b n m : Nat} (e : n = m) : AV.slice b 0 n n = AV.slice b 0 m m := by rw [e]
/-- an inner function that gathers, its shared variable and the row -/
abbrev accD (F : Nat) (caps : List AV) (pm po b N : Nat) (out : List (List UInt8)) (R : List (Nat × Blk)) : List (Nat × Blk) :=
  (pm, row [.func F caps]) :: (po, row [.slice b 0 N N]) :: (b, row (strs out)) :: R

/-- paths that go on with so many letters u and d -/
def dyAll : Nat → List UInt8 → Int → Int → List (List UInt8)
  | 0, _, _, _ => []
  | f + 1, w, up, dn => if dn = 0 then [w] else (if 0 < up then dyAll f (w ++ [117]) (up - 1) dn else []) ++ (if up < dn then dyAll f (w ++ [100]) up (dn - 1) else [])
theorem dyAll_len : ∀ f w up dn, (dyAll f w up dn).length ≤ 2 ^ f := by
  intro f
  induction f with
  | zero => intro w up dn; simp [dyAll]
  | succ f ih =>
    intro w up dn
    have := Nat.pow_succ 2 f
    have p := Nat.pow_pos (n := f) (show 0 < 2 by decide)
    have a := ih (w ++ [117]) (up - 1) dn
    have b := ih (w ++ [100]) up (dn - 1)
    unfold dyAll
    split
    · simp; omega
    · rw [List.length_append]
      split <;> split <;> simp <;> omega

theorem l3All_ok : ∀ (f : Nat) (w : List UInt8) (up dn : Int) (h0 : H), 0 ≤ up → up ≤ dn → up + dn < f → f ≤ 20 → w.length + f ≤ 1000 →
    AC env 136 [.str w, .int .i64 up, .int .i64 dn] h0 fun v h' => ∃ b, v = .slice b 0 (dyAll f w up dn).length (dyAll f w up dn).length ∧ New h0 h' b (strs (dyAll f w up dn)) := by
  intro f
  induction f with
  | zero => intro w up dn h0 h1 h2 h3; omega
  | succ f ih =>
    intro w up dn h0 h1 h2 h3 h4 h5
    have hs := St.refl h0
    have p := Nat.pow_le_pow_right (n := 2) (by decide) (show f ≤ 20 by omega)
    have la := dyAll_len f (w ++ [117]) (up - 1) dn
    have lb := dyAll_len f (w ++ [100]) up (dn - 1)
    by_cases c : dn = 0
    · rw [show dyAll (f + 1) w up dn = [w] from if_pos c]
      refine AC.enter Tryz.func136 Tryz.call136 rfl Tryz.ntmps136 (of_decide_eq_true (by rfl)) ?_
      repeat' (first
        | refine AW.seq ?_
        | (refine AW.region ?_; conv => whnf)
        | (refine AW.ret ?_; conv => whnf)
        | refine AW.cond (by rfl) ?_
        | (refine Br.dt (by omega) ?_; conv => whnf)
        | (refine NewG.st (by assumption) (fun bt h' hs' => ?_); conv => whnf))
      exact ⟨_, rfl, hs'.toNew⟩
    · rw [show dyAll (f + 1) w up dn = (if 0 < up then dyAll f (w ++ [117]) (up - 1) dn else []) ++ (if up < dn then dyAll f (w ++ [100]) up (dn - 1) else []) from if_neg c]
      refine AC.enter Tryz.func136 Tryz.call136 rfl Tryz.ntmps136 (of_decide_eq_true (by rfl)) ?_
      repeat' (first
        | (refine (ih _ _ _ _ (by omega) (by omega) (by omega) (by omega) (by simp; omega)).mono ?_; rintro v h' ⟨b, rfl, hn⟩; have hs' := St.newCall (by assumption) hn; clear hn; conv => whnf)
        | (refine AppG.stSs (l := []) (by assumption) (by intro b'; repeat first | exact .here | apply Spot.there) (by simp) (by simp; omega) (by decide) (fun b' h' hs' => ?_); conv => whnf)
        | refine AW.seq ?_
        | (refine AW.region ?_; conv => whnf)
        | (refine AW.skip ?_; conv => whnf)
        | (refine AW.ret ?_; conv => whnf)
        | refine AW.cond (by rfl) ?_
        | (refine Br.dt (by omega) ?_; conv => whnf)
        | (refine Br.df (by omega) ?_; conv => whnf)
        | (refine Br.dec (fun hc => ?_) (fun hc => ?_) <;> conv => whnf)
        | (refine Wr.i64 (by omega) ?_; conv => whnf)
        | (refine Ck.mk (by simp only [List.length_drop, List.length_take, List.length_append, List.length_cons, List.length_nil]; omega) ?_; conv => whnf)
        | (refine NewG.st (by assumption) (fun bt h' hs' => ?_); conv => whnf)
        | (refine LoadsG.has (by first | assumption | exact St.has (by assumption) (by repeat first | exact .head _ | apply List.Mem.tail) | exact St.arg (by assumption) (by assumption)) (by simp) ?_; conv => whnf)
        | (refine AppG.stSs (by assumption) (by intro b'; repeat first | exact .here | apply Spot.there) (by first | (simp; done) | omega | (simp only [List.length_set, List.length_append, List.length_cons, List.length_nil, List.length_replicate, tab_length]; omega) | (simp; omega)) (by first | (simp; done) | omega | (simp only [List.length_set, List.length_append, List.length_cons, List.length_nil, List.length_replicate, tab_length]; omega) | (simp; omega)) (by decide) (fun b' h' hs' => ?_); conv => whnf))
      all_goals
        (try rw [if_pos (show 0 < up by omega)])
        (try rw [if_neg (show ¬ 0 < up by omega)])
        (try rw [if_pos (show up < dn by omega)])
        (try rw [if_neg (show ¬ up < dn by omega)])
        simp only [List.append_nil, List.nil_append] at hs' ⊢
        exact ⟨_, slice_lenD (by first | (simp; done) | (simp; omega)), newAtD hs' (by repeat first | exact .head _ | apply List.Mem.tail)⟩

theorem dyMore_ok (H0 : H) (R : List (Nat × Blk)) (pm po : Nat) : ∀ (f : Nat) (w : List UInt8) (up dn : Int) (hp : H) (out : List (List UInt8)) (b N : Nat),
    St H0 hp (accD 134 [.ptr po 0, .ptr pm 0] pm po b N out R) → N = out.length → 0 ≤ up → up ≤ dn → up + dn < f → w.length + f ≤ 1000 → out.length + 2 ^ f ≤ 100000000 →
    AC env 134 [.str w, .int .i64 up, .int .i64 dn, .ptr po 0, .ptr pm 0] hp fun v h' => v = .tup [] ∧ ∃ b' N', St H0 h' (accD 134 [.ptr po 0, .ptr pm 0] pm po b' N' (out ++ dyAll f w up dn) R) ∧ N' = (out ++ dyAll f w up dn).length := by
  intro f
  induction f with
  | zero => intro w up dn hp out b N hs hN h1 h2 h3; omega
  | succ f ih =>
    intro w up dn hp out b N hs hN h1 h2 h3 h4 h5
    have h6 : out.length ≤ 100000000 := Nat.le_trans (Nat.le_add_right _ _) h5
    by_cases c : dn = 0
    · have c' : up = 0 := by omega
      subst c c'
      rw [show dyAll (f + 1) w 0 0 = [w] from if_pos rfl]
      refine AC.enter Tryz.func134 Tryz.call134 rfl Tryz.ntmps134 (of_decide_eq_true (by rfl)) ?_
      repeat' (first
        | refine AW.seq ?_
        | (refine AW.region ?_; conv => whnf)
        | (refine AW.ret ?_; conv => whnf)
        | refine AW.cond (by rfl) ?_
        | (refine Br.tt ?_; conv => whnf)
        | (refine NewG.st (by assumption) (fun bt h' hs' => ?_); conv => whnf)
        | (refine Has.load1 (by first | assumption | exact St.has (by assumption) (by repeat first | exact .head _ | apply List.Mem.tail) | exact St.arg (by assumption) (by assumption)) ?_; conv => whnf)
        | (refine LoadsG.has (by first | assumption | exact St.has (by assumption) (by repeat first | exact .head _ | apply List.Mem.tail) | exact St.arg (by assumption) (by assumption)) (by simp) ?_; conv => whnf)
        | (refine StoreG.st1 (by assumption) (by repeat first | exact .here | apply Spot.there) rfl (fun h' hs' => ?_); conv => whnf)
        | (refine AppG.stS (by assumption) (by intro b'; repeat first | exact .here | apply Spot.there) (by first | (simp; done) | omega | (simp only [List.length_set, List.length_append, List.length_cons, List.length_nil, List.length_replicate, tab_length]; omega) | (simp; omega)) (by first | (simp; done) | omega | (simp only [List.length_set, List.length_append, List.length_cons, List.length_nil, List.length_replicate, tab_length]; omega) | (simp; omega)) (by decide) (fun b' h' hs' => ?_); conv => whnf))
      all_goals exact ⟨rfl, _, _, hs'.tail, by simp [hN]⟩
    · have p := Nat.pow_succ 2 f
      have q := Nat.pow_pos (n := f) (show 0 < 2 by decide)
      have la := dyAll_len f (w ++ [117]) (up - 1) dn
      have lb := dyAll_len f (w ++ [100]) up (dn - 1)
      rw [show dyAll (f + 1) w up dn = (if 0 < up then dyAll f (w ++ [117]) (up - 1) dn else []) ++ (if up < dn then dyAll f (w ++ [100]) up (dn - 1) else []) from if_neg c, ← List.append_assoc]
      by_cases c1 : 0 < up <;> by_cases c2 : up < dn
      all_goals
        (try rw [if_pos c1])
        (try rw [if_neg c1])
        (try rw [if_pos c2])
        (try rw [if_neg c2])
        (try rw [List.append_nil])
        (try rw [List.append_nil])
        refine AC.enter Tryz.func134 Tryz.call134 rfl Tryz.ntmps134 (of_decide_eq_true (by rfl)) ?_
        repeat' (first
          | (refine (ih _ _ _ _ _ _ _ (by assumption) (by first | (simp; done) | omega | (simp only [List.length_set, List.length_append, List.length_cons, List.length_nil, List.length_replicate, tab_length]; omega) | (simp; omega)) (by omega) (by omega) (by omega) (by simp; omega) (by first | omega | (simp only [List.length_append]; omega))).mono ?_; rintro v h' ⟨rfl, b', N', hs', e'⟩; conv => whnf)
          | refine AW.seq ?_
          | (refine AW.region ?_; conv => whnf)
          | (refine AW.skip ?_; conv => whnf)
          | (refine AW.ret ?_; conv => whnf)
          | refine AW.cond (by rfl) ?_
          | (refine Br.ff ?_; conv => whnf)
          | (refine Br.dt (by omega) ?_; conv => whnf)
          | (refine Br.df (by omega) ?_; conv => whnf)
          | (refine Wr.i64 (by omega) ?_; conv => whnf)
          | (refine Ck.mk (by simp only [List.length_drop, List.length_take, List.length_append, List.length_cons, List.length_nil]; omega) ?_; conv => whnf)
          | (refine NewG.st (by assumption) (fun bt h' hs' => ?_); conv => whnf)
          | (refine Has.load1 (by first | assumption | exact St.has (by assumption) (by repeat first | exact .head _ | apply List.Mem.tail) | exact St.arg (by assumption) (by assumption)) ?_; conv => whnf)
          | (refine LoadsG.has (by first | assumption | exact St.has (by assumption) (by repeat first | exact .head _ | apply List.Mem.tail) | exact St.arg (by assumption) (by assumption)) (by simp) ?_; conv => whnf)
          | (refine StoreG.st1 (by assumption) (by repeat first | exact .here | apply Spot.there) rfl (fun h' hs' => ?_); conv => whnf)
          | (refine AppG.stS (by assumption) (by intro b'; repeat first | exact .here | apply Spot.there) (by first | (simp; done) | omega | (simp only [List.length_set, List.length_append, List.length_cons, List.length_nil, List.length_replicate, tab_length]; omega) | (simp; omega)) (by first | (simp; done) | omega | (simp only [List.length_set, List.length_append, List.length_cons, List.length_nil, List.length_replicate, tab_length]; omega) | (simp; omega)) (by decide) (fun b' h' hs' => ?_); conv => whnf))
        first
          | exact ⟨rfl, _, _, hs', e'⟩
          | (exfalso; omega)

theorem allPaths_ok (n : Int) (h0 : H) (hn : 0 ≤ n ∧ n ≤ 6) : AC env 112 [.int .i64 n] h0 fun v h' => ∃ b, v = .slice b 0 (dyAll (2 * n.toNat + 1) [] n n).length (dyAll (2 * n.toNat + 1) [] n n).length ∧ New h0 h' b (strs (dyAll (2 * n.toNat + 1) [] n n)) := by
  have hs := St.refl h0
  have p := Nat.pow_le_pow_right (n := 2) (by decide) (show 2 * n.toNat + 1 ≤ 13 by omega)
  generalize hX : dyAll (2 * n.toNat + 1) [] n n = X
  refine AC.enter Tryz.func112 Tryz.call112 rfl Tryz.ntmps112 (of_decide_eq_true (by rfl)) ?_
  repeat' (first
    | refine AW.seq ?_
    | (refine AW.region ?_; conv => whnf)
    | (refine NewG.st (by assumption) (fun bt h' hs' => ?_); conv => whnf)
    | (refine Has.load1 (by first | assumption | exact St.has (by assumption) (by repeat first | exact .head _ | apply List.Mem.tail) | exact St.arg (by assumption) (by assumption)) ?_; conv => whnf)
    | (refine StoreG.st1 (by assumption) (by repeat first | exact .here | apply Spot.there) rfl (fun h' hs' => ?_); conv => whnf))
  refine (dyMore_ok h0 [] _ _ (2 * n.toNat + 1) [] n n _ [] _ 0 hs' rfl (by omega) (by omega) (by omega) (by simp; omega) (by simp; omega)).mono ?_
  rintro v h5 ⟨rfl, b5, N5, hs5, e5⟩
  rw [hX, List.nil_append] at e5 hs5
  subst e5
  conv => whnf
  repeat' (first
    | refine AW.seq ?_
    | (refine AW.region ?_; conv => whnf)
    | (refine AW.ret ?_; conv => whnf)
    | (refine Has.load1 (by first | assumption | exact St.has (by assumption) (by repeat first | exact .head _ | apply List.Mem.tail) | exact St.arg (by assumption) (by assumption)) ?_; conv => whnf))
  exact ⟨b5, rfl, (hs5.tail).tail.toNew⟩

theorem sPathsOf_ok (n : Int) (h0 : H) (hn : 0 ≤ n ∧ n ≤ 6) : AC env 115 [.int .i64 n] h0 fun v h' => ∃ b, v = .slice b 0 (dyAll (2 * n.toNat + 1) [] n n).length (dyAll (2 * n.toNat + 1) [] n n).length ∧ New h0 h' b (strs (dyAll (2 * n.toNat + 1) [] n n)) := by
  have hs := St.refl h0
  generalize hX : dyAll (2 * n.toNat + 1) [] n n = X
  refine AC.enter Tryz.func115 Tryz.call115 rfl Tryz.ntmps115 (of_decide_eq_true (by rfl)) ?_
  repeat' (first
    | refine AW.seq ?_
    | (refine AW.region ?_; conv => whnf)
    | (refine AW.skip ?_; conv => whnf)
    | refine AW.cond (by rfl) ?_
    | (refine (l1In_ok _ _ _ _).mono ?_; rintro v h' ⟨rfl, e'⟩; subst h'; conv => whnf)
    | refine Br.not ?_
    | (refine Br.dt (by omega) ?_; conv => whnf))
  refine (l3All_ok (2 * n.toNat + 1) [] n n _ (by omega) (by omega) (by omega) (by omega) (by simp; omega)).mono ?_
  rw [hX]
  rintro v h5 ⟨b5, rfl, hn5⟩
  conv => whnf
  repeat' (first
    | (refine AW.ret ?_; conv => whnf))
  exact ⟨b5, rfl, hn5⟩

end Go.Proofs.YtbicfognbbeigaaGreat

/-
  Contracts of the matching of a path are proved.
  They hold for all paths for which the two ways agree.
-/
set_option linter.unusedVariables false
set_option linter.unusedSimpArgs false
namespace Go.Proofs.YtbicfognbbeigaaGreat
open Go.Proofs.YtbicfognbbeigaaGreat.Ab Go.Proofs.YtbicfognbbeigaaGreat.Pl

def isU (x : UInt8) : Bool := x.toNat == 117
/-- the letter that belongs to one, onward -/
def scF (w : List UInt8) : Nat → Nat → Int → Option Nat
  | 0, _, _ => none
  | f + 1, k, h => if (if ((w.getD k 0).toNat : Int) = 117 then h + 1 else h - 1) = 0 then some k else scF w f (k + 1) (if ((w.getD k 0).toNat : Int) = 117 then h + 1 else h - 1)
/-- and backward -/
def scB (w : List UInt8) : Nat → Int → Option Nat
  | 0, _ => none
  | f + 1, h => if (if ((w.getD f 0).toNat : Int) = 100 then h + 1 else h - 1) = 0 then some f else scB w f (if ((w.getD f 0).toNat : Int) = 100 then h + 1 else h - 1)
def pt (w : List UInt8) (i : Nat) : Option Nat := if ((w.getD i 0).toNat : Int) = 117 then scF w (w.length - i) i 0 else scB w (i + 1) 0

/-- the open letters and the pairs so far -/
def stI (w : List UInt8) : Nat → Option (List Int × List Int)
  | 0 => some ([], List.replicate w.length 0)
  | k + 1 => match stI w k with
    | none => none
    | some (o, l) => if ((w.getD k 0).toNat : Int) = 117 then some (o ++ [(k : Int)], l) else if o.length = 0 then none else some (o.take (o.length - 1), (l.set k (o.getD (o.length - 1) 0)).set (o.getD (o.length - 1) 0).toNat k)
theorem stI_u {w : List UInt8} {k : Nat} {o l : List Int} (e : stI w k = some (o, l)) (h : ((w.getD k 0).toNat : Int) = 117) : stI w (k + 1) = some (o ++ [(k : Int)], l) := by
  simp only [stI, e, if_pos h]
theorem stI_d {w : List UInt8} {k : Nat} {o l : List Int} (e : stI w k = some (o, l)) (h : ¬ ((w.getD k 0).toNat : Int) = 117) (h2 : o.length ≠ 0) : stI w (k + 1) = some (o.take (o.length - 1), (l.set k (o.getD (o.length - 1) 0)).set (o.getD (o.length - 1) 0).toNat k) := by
  simp only [stI, e, if_neg h, if_neg h2]
theorem stI_e {w : List UInt8} {k : Nat} {o l : List Int} (e : stI w k = some (o, l)) (h : ¬ ((w.getD k 0).toNat : Int) = 117) (h2 : o.length = 0) : stI w (k + 1) = none := by
  simp only [stI, e, if_neg h, if_pos h2]
theorem stI_none {w : List UInt8} {k : Nat} (e : stI w k = none) : ∀ j, k ≤ j → stI w j = none := by
  intro j hj
  induction j with
  | zero => rw [← e, show k = 0 by omega]
  | succ j ih =>
    by_cases h : k = j + 1
    · rw [← h, e]
    · simp only [stI, ih (by omega)]
theorem stI_in {w : List UInt8} : ∀ k o l, k ≤ w.length → stI w k = some (o, l) → l.length = w.length ∧ o.length ≤ k ∧ ∀ i, i < o.length → 0 ≤ o.getD i 0 ∧ o.getD i 0 < k := by
  intro k
  induction k with
  | zero =>
    intro o l _ e
    simp only [stI] at e
    injection e with e
    injection e with e1 e2
    subst e1 e2
    exact ⟨by simp, by simp, fun i hi => by simp at hi⟩
  | succ k ih =>
    intro o l hk e
    cases e1 : stI w k with
    | none => simp only [stI, e1] at e; cases e
    | some p =>
      obtain ⟨o', l'⟩ := p
      obtain ⟨g1, g2, g3⟩ := ih o' l' (by omega) e1
      by_cases h : ((w.getD k 0).toNat : Int) = 117
      · rw [stI_u e1 h] at e
        injection e with e
        injection e with e2 e3
        subst e2 e3
        refine ⟨g1, by simp; omega, fun i hi => ?_⟩
        simp only [List.length_append, List.length_cons, List.length_nil] at hi
        by_cases c : i < o'.length
        · have := g3 i c
          have e4 : (o' ++ [(k : Int)]).getD i 0 = o'.getD i 0 := by simp [List.getD, List.getElem?_append_left c]
          rw [e4]
          omega
        · have e4 : (o' ++ [(k : Int)]).getD i 0 = k := by
            rw [show i = o'.length by omega]
            simp [List.getD]
          rw [e4]
          omega
      · by_cases h2 : o'.length = 0
        · rw [stI_e e1 h h2] at e
          cases e
        · rw [stI_d e1 h h2] at e
          injection e with e
          injection e with e2 e3
          subst e2 e3
          refine ⟨by simp [g1], by simp; omega, fun i hi => ?_⟩
          simp only [List.length_take] at hi
          have := g3 i (by omega)
          have e4 : (o'.take (o'.length - 1)).getD i 0 = o'.getD i 0 := by rw [List.getD, List.getD, List.getElem?_take, if_pos (by omega)]
          rw [e4]
          omega


theorem scF_at {w : List UInt8} {f k p : Nat} {h : Int} (e : scF w (f + 1) k h = some p) (y : Int) (hy : (if ((w.getD k 0).toNat : Int) = 117 then h + 1 else h - 1) = y) : (y = 0 ∧ p = k) ∨ (y ≠ 0 ∧ scF w f (k + 1) y = some p) := by
  simp only [scF, hy] at e
  by_cases c : y = 0
  · rw [if_pos c] at e
    injection e with e
    exact .inl ⟨c, e.symm⟩
  · rw [if_neg c] at e
    exact .inr ⟨c, e⟩
theorem scB_at {w : List UInt8} {f p : Nat} {h : Int} (e : scB w (f + 1) h = some p) (y : Int) (hy : (if ((w.getD f 0).toNat : Int) = 100 then h + 1 else h - 1) = y) : (y = 0 ∧ p = f) ∨ (y ≠ 0 ∧ scB w f y = some p) := by
  simp only [scB, hy] at e
  by_cases c : y = 0
  · rw [if_pos c] at e
    injection e with e
    exact .inl ⟨c, e.symm⟩
  · rw [if_neg c] at e
    exact .inr ⟨c, e⟩



end Go.Proofs.YtbicfognbbeigaaGreat
