/-
  Contracts of the functions that draw texts and Fuss words are proved.
  They hold for all codes of at most 1048576 bytes.
-/
import Derived.Test.YtbicfognbbeigaaGreatH16
import Derived.Test.YtbicfognbbeigaaGreatH17
set_option linter.unusedVariables false
set_option linter.unusedSimpArgs false
namespace Go.Proofs.YtbicfognbbeigaaGreat
open Go.Proofs.YtbicfognbbeigaaGreat.Ab Go.Proofs.YtbicfognbbeigaaGreat.Pl

theorem wrap_u8 (y : Int) : 0 ≤ IntKind.u8.wrap y ∧ IntKind.u8.wrap y ≤ 255 := by
  rw [IntKind.wrap_u8]
  omega
theorem one_byte {z : Int} (h : 0 ≤ z ∧ z ≤ 255) : [AV.int .u8 z] = bytesAV [UInt8.ofNat z.toNat] := by
  unfold bytesAV
  rw [List.map_cons, List.map_nil, u8_of h]
theorem Oneb.text {h : H} {b : Nat} {y : Int} {K : AV → Prop} (m : h b = some (.cells true 1 [.int .u8 (IntKind.u8.wrap y)])) (hk : K (.str [UInt8.ofNat (IntKind.u8.wrap y).toNat])) : TextG h b 0 1 K :=
  TextG.mk true 1 _ [UInt8.ofNat (IntKind.u8.wrap y).toNat] m (by simp) (one_byte (wrap_u8 y)) hk
theorem CurSt.at {H0 h : H} {c b : Nat} {x : Blk} {L : List (Nat × Blk)} (s : CurSt H0 h c ((b, x) :: L)) : h b = some x := s.st.is _ (.head _)
theorem CurSt.app {H0 h : H} {c b bytes N C : Nat} {p : Nat × Blk} {s : List UInt8} {y : Int} {L : List (Nat × Blk)} {K : AV → H → Prop} (k : CurSt H0 h c (p :: (b, row (bytesAV s)) :: L)) (hN : N = s.length) (hb : s.length + 1 ≤ 1000000000) (hy : bytes ≤ 1000)
    (hk : ∀ b' h', CurSt H0 h' c ((b', row (bytesAV (s ++ [UInt8.ofNat (IntKind.u8.wrap y).toNat]))) :: L) → K (.slice b' 0 (N + 1) (N + 1)) h') : AppG h (.slice b 0 N C) bytes [.int .u8 (IntKind.u8.wrap y)] 1 K := by
  obtain ⟨v, l, i, q, h1, h2, h3, h4⟩ := k.ex
  have h4 : St H0 h ((c, curB v i q) :: (b, row (bytesAV s)) :: L) := h4.sub (List.Sublist.cons_cons _ (List.sublist_cons_self _ _))
  refine AppG.stV (L' := fun b' => (c, curB v i q) :: (b', row (bytesAV s ++ [.int .u8 (IntKind.u8.wrap y)])) :: L) h4 (fun b' => .there .here) (by rw [bytesAV_length]; exact hN) (by rw [bytesAV_length]; exact hb) hy rfl fun b' h' hs' => hk b' h' ⟨v, l, i, q, h1, h2, h3, ?_⟩
  rw [bytesAV_snoc s (wrap_u8 y)] at hs'
  exact hs'

set_option maxRecDepth 20000 in
theorem l1Text_ok (most : Int) (H0 h : H) (c : Nat) (L : List (Nat × Blk)) (s : CurSt H0 h c L) (hm : 0 ≤ most ∧ most ≤ 100) : AC env 142 [.ptr c 0, .int .i64 most] h fun w h' => ∃ x : List UInt8, w = .str x ∧ x.length ≤ most ∧ CurSt H0 h' c L := by
  refine AC.enter Tryz.func142 Tryz.call142 rfl Tryz.ntmps142 (of_decide_eq_true (by rfl)) ?_
  repeat' (first
    | (refine NewG.cur (by assumption) (fun bt h' hcur => ?_); conv => whnf)
    | refine AW.seq ?_
    | (refine AW.region ?_; conv => whnf)
    | refine AW.block ?_
    | (refine (l1Below_ok _ _ _ _ _ (by assumption)).mono ?_; rintro w h' ⟨xB, rfl, hxB, hxB2, hcur⟩; conv => whnf)
    | (refine Wr.i64 (by omega) ?_; conv => whnf))
  obtain ⟨h1, rfl⟩ : ∃ q, q = h' := ⟨_, rfl⟩
  rename_i sty _ _ _
  refine AW.loop4 (fun (n : Int) (bo m : Nat) (t : List UInt8) => [(0, .ptr c 0), (5, .slice bo 0 m m), (6, .int .i64 sty), (7, .int .i64 n)]) (fun n bo m t h' => 0 ≤ n ∧ n + m ≤ most ∧ t.length = m ∧ CurSt H0 h' c ((bo, row (bytesAV t)) :: L)) (fun n _ _ _ => n.toNat) _ bt 0 []
    (Less.cons rfl (Less.cons rfl (Less.cons rfl (Less.cons rfl (Less.nil _))))) ⟨by omega, by omega, rfl, hcur⟩ ?_
  rintro n bo m t h2 ⟨hn, hnm, ht, hc2⟩
  clear hcur
  by_cases hlt : 0 < n
  · repeat' (first
      | (refine Wr.i64 (by omega) ?_; conv => whnf)
      | (refine Wr.wrap ?_; conv => whnf)
      | (refine NewG.cur (by assumption) (fun bx h' hcx => ?_); conv => whnf)
      | (refine LoadsG.mk true 1 _ (CurSt.at (by assumption)) (by simp) ?_; conv => whnf)
      | (refine CurSt.app (by assumption) ht.symm (by omega) (by decide) (fun b' h' hc3 => ?_); conv => whnf)
      | refine AW.seq ?_
      | (refine AW.region ?_; conv => whnf)
      | refine AW.block ?_
      | (refine AW.skip ?_; conv => whnf)
      | refine AW.cond (by rfl) ?_
      | (refine (l1Byte_ok _ _ _ _ (by assumption)).mono ?_; rintro w h' ⟨xB, rfl, hxB, hcur⟩; conv => whnf)
      | (refine Br.dt (by omega) ?_; conv => whnf)
      | (refine Br.df (by omega) ?_; conv => whnf)
      | (refine Br.dec (fun hc => ?_) (fun hc => ?_) <;> conv => whnf)
      | (refine Wr.i64 (by omega) ?_; conv => whnf)
      | (refine Ck.mk (by omega) ?_; conv => whnf))
    all_goals exact ⟨n - 1, b', m + 1, _, (Less.cons rfl (Less.cons rfl (Less.cons rfl (Less.cons rfl (Less.nil _))))), ⟨by omega, by omega, by simp [ht], hc3⟩, by omega⟩
  · repeat' (first
      | (refine TextG.mk true 1 _ t (CurSt.at (by assumption)) (by rw [bytesAV_length]; omega) (by rw [List.drop_zero, List.take_of_length_le (by rw [bytesAV_length]; omega)]) ?_; conv => whnf)
      | refine AW.seq ?_
      | (refine AW.region ?_; conv => whnf)
      | (refine AW.ret ?_; conv => whnf)
      | (refine AW.exit ?_; conv => whnf)
      | refine AW.cond (by rfl) ?_
      | (refine Br.df (by omega) ?_; conv => whnf))
    refine ⟨t, rfl, by omega, ?_⟩
    exact hc2.sub (List.sublist_cons_self _ _)

theorem l1Spoil_ok (t : List UInt8) (H0 h : H) (c : Nat) (L : List (Nat × Blk)) (s : CurSt H0 h c L) (hl : t.length ≤ 1000) : AC env 129 [.ptr c 0, .str t] h fun w h' => ∃ x : List UInt8, w = .str x ∧ (x.length ≤ 3 ∨ x.length ≤ t.length + 1) ∧ CurSt H0 h' c L := by
  by_cases z : t.length = 0
  · refine AC.enter Tryz.func129 Tryz.call129 rfl Tryz.ntmps129 (of_decide_eq_true (by rfl)) ?_
    repeat' (first
      | (refine (l1Text_ok _ _ _ _ _ (by assumption) (by omega)).mono ?_; rintro w h' ⟨x, rfl, hx, hcur⟩; conv => whnf)
      | refine AW.seq ?_
      | (refine AW.region ?_; conv => whnf)
      | (refine AW.ret ?_; conv => whnf)
      | refine AW.cond (by rfl) ?_
      | (refine Br.dt (by omega) ?_; conv => whnf))
    exact ⟨_, rfl, .inl (by omega), hcur⟩
  · refine AC.enter Tryz.func129 Tryz.call129 rfl Tryz.ntmps129 (of_decide_eq_true (by rfl)) ?_
    repeat' (first
      | (refine Wr.i64 (by omega) ?_; conv => whnf)
      | (refine Wr.wrap ?_; conv => whnf)
      | (refine NewG.cur (by assumption) (fun bx h' hcx => ?_); conv => whnf)
      | (refine Oneb.text (CurSt.at (by assumption)) ?_; conv => whnf)
      | refine AW.seq ?_
      | (refine AW.region ?_; conv => whnf)
      | refine AW.block ?_
      | (refine AW.skip ?_; conv => whnf)
      | (refine AW.ret ?_; conv => whnf)
      | refine AW.cond (by rfl) ?_
      | (refine AW.draw (id := 6) (.p 0 (.p 1 (.p 2 (.p 3 (.p 4 (.p 5 (.p 6 (.p 7 (.p 8 .done))))))))) (by kernel_rfl) (by kernel_rfl) ?_; conv => whnf)
      | (refine AW.draw (id := 8) (.p 0 (.p 1 (.p 2 (.p 3 (.p 9 (.p 10 (.p 11 (.all [4] fun _ => (.p 5 (.all [6] fun _ => (.r 7 [8, 12, 13] (.p 8 (.p 12 (.p 13 .done)))))))))))))) (by kernel_rfl) (by kernel_rfl) ?_; conv => whnf)
      | (refine AW.draw (id := 11) (.p 0 (.p 1 (.p 2 (.p 3 (.p 4 (.p 5 (.p 6 (.p 7 (.p 15 (.p 16 (.p 17 (.p 18 (.all [8] fun _ => (.p 9 (.p 10 (.p 11 (.all [12] fun _ => (.r 13 [14, 19, 20] (.p 14 (.p 19 (.p 20 .done))))))))))))))))))))) (by kernel_rfl) (by kernel_rfl) ?_; conv => whnf)
      | (refine (l1Below_ok _ _ _ _ _ (by assumption)).mono ?_; rintro w h' ⟨xB, rfl, hxB, hxB2, hcur⟩; conv => whnf)
      | (refine (l1Byte_ok _ _ _ _ (by assumption)).mono ?_; rintro w h' ⟨xB, rfl, hxB, hcur⟩; conv => whnf)
      | (refine Br.df (by omega) ?_; conv => whnf)
      | (refine Br.dec (fun hc => ?_) (fun hc => ?_) <;> conv => whnf)
      | (refine Wr.i64 (by omega) ?_; conv => whnf)
      | (refine Ck.mk (by omega) ?_; conv => whnf)
      | (refine Ck.mk (by simp only [List.length_drop, List.length_take, List.length_append, List.length_cons, List.length_nil]; omega) ?_; conv => whnf))
    all_goals exact ⟨_, rfl, .inr (by simp only [List.length_append, List.length_take, List.length_drop, List.length_cons, List.length_nil]; omega), by first | assumption | exact CurSt.sub (by assumption) (List.sublist_cons_self _ _)⟩

/-! Fuss words that are drawn -/
def DrawW (H0 : H) (c : Nat) (w : AV) (h' : H) : Prop := ∃ (m : Int) (x : List UInt8), w = .tup [.int .i64 m, .str x] ∧ (-1 ≤ m ∧ m ≤ 5) ∧ (x.length ≤ 17 ∧ (1 ≤ m → m ≤ 4 → (x.length : Int) ≤ 4 * m + 1)) ∧ CurSt H0 h' c []


end Go.Proofs.YtbicfognbbeigaaGreat

/-
  Contracts of the functions that draw paths are proved.
  They hold for all codes of at most 1048576 bytes.
-/
set_option linter.unusedVariables false
set_option linter.unusedSimpArgs false
namespace Go.Proofs.YtbicfognbbeigaaGreat
open Go.Proofs.YtbicfognbbeigaaGreat.Ab Go.Proofs.YtbicfognbbeigaaGreat.Pl

theorem l2Draw_ok (n : Int) (H0 h : H) (c : Nat) (L : List (Nat × Blk)) (s : CurSt H0 h c L) (hn : 0 ≤ n ∧ n ≤ 100) : AC env 101 [.ptr c 0, .int .i64 n] h fun w h' => ∃ x : List UInt8, w = .str x ∧ (x.length : Int) ≤ 2 * n ∧ CurSt H0 h' c L := by
  refine AC.enter Tryz.func101 Tryz.call101 rfl Tryz.ntmps101 (of_decide_eq_true (by rfl)) ?_
  repeat' (first
    | refine AW.seq ?_
    | (refine AW.region ?_; conv => whnf)
    | refine AW.block ?_)
  refine AW.loop3 (fun (u d : Int) (w : List UInt8) => [(0, .ptr c 0), (1, .int .i64 n), (5, .str w), (6, .int .i64 u), (7, .int .i64 d)]) (fun u d w h' => (0 ≤ d ∧ d ≤ u ∧ u ≤ n) ∧ w.length = u + d ∧ CurSt H0 h' c L) (fun u d _ => (2 * n - u - d).toNat) 0 0 []
    (Less.cons rfl (Less.cons rfl (Less.cons rfl (Less.cons rfl (Less.cons rfl (Less.nil _)))))) ⟨by omega, by simp, s⟩ ?_
  rintro u d w h1 ⟨hd, hw, hc1⟩
  clear s
  by_cases hlt : d < n
  · repeat' (first
      | refine AW.seq ?_
      | (refine AW.region ?_; conv => whnf)
      | refine AW.block ?_
      | (refine AW.skip ?_; conv => whnf)
      | refine AW.cond (by rfl) ?_
      | (refine (l1Once_ok _ _ _ _ _ (by assumption)).mono ?_; rintro w h' ⟨xO, rfl, hcur⟩; conv => whnf)
      | (refine Br.tt ?_; conv => whnf)
      | (refine Br.ff ?_; conv => whnf)
      | (refine Br.dt (by omega) ?_; conv => whnf)
      | (refine Br.df (by omega) ?_; conv => whnf)
      | (refine Br.dec (fun hc => ?_) (fun hc => ?_) <;> conv => whnf)
      | (refine Br.mk (fun hc => ?_) (fun hc => ?_) <;> conv => whnf)
      | (refine Wr.i64 (by omega) ?_; conv => whnf)
      | (refine Ck.mk (by simp only [List.length_drop, List.length_take, List.length_append, List.length_cons, List.length_nil]; omega) ?_; conv => whnf))
    all_goals first
      | exact ⟨u + 1, d, _, (Less.cons rfl (Less.cons rfl (Less.cons rfl (Less.cons rfl (Less.cons rfl (Less.nil _)))))), ⟨by omega, by simp only [List.length_append, List.length_cons, List.length_nil]; omega, by assumption⟩, by omega⟩
      | exact ⟨u, d + 1, _, (Less.cons rfl (Less.cons rfl (Less.cons rfl (Less.cons rfl (Less.cons rfl (Less.nil _)))))), ⟨by omega, by simp only [List.length_append, List.length_cons, List.length_nil]; omega, by assumption⟩, by omega⟩
  · repeat' (first
      | refine AW.seq ?_
      | (refine AW.region ?_; conv => whnf)
      | (refine AW.ret ?_; conv => whnf)
      | (refine AW.exit ?_; conv => whnf)
      | refine AW.cond (by rfl) ?_
      | (refine Br.df (by omega) ?_; conv => whnf))
    exact ⟨w, rfl, by omega, hc1⟩

theorem l2Path_ok (H0 h : H) (c : Nat) (L : List (Nat × Blk)) (s : CurSt H0 h c L) : AC env 87 [.ptr c 0] h fun w h' => ∃ x : List UInt8, w = .str x ∧ x.length ≤ 12 ∧ CurSt H0 h' c L := by
  refine AC.enter Tryz.func87 Tryz.call87 rfl Tryz.ntmps87 (of_decide_eq_true (by rfl)) ?_
  repeat' (first
    | (refine (l2Draw_ok _ _ _ _ _ (by assumption) (by omega)).mono ?_; rintro w h' ⟨x, rfl, hx, hcur⟩; conv => whnf)
    | refine AW.seq ?_
    | (refine AW.region ?_; conv => whnf)
    | (refine AW.ret ?_; conv => whnf)
    | (refine (l1Below_ok _ _ _ _ _ (by assumption)).mono ?_; rintro w h' ⟨xB, rfl, hxB, hxB2, hcur⟩; conv => whnf))
  exact ⟨x, rfl, by omega, hcur⟩

def greatW : List UInt8 := [117, 117, 117, 117, 117, 117, 117, 117, 100, 100, 100, 100, 100, 100, 100, 100]
def greatX : List UInt8 := [117, 117, 117, 117, 117, 117, 117, 117, 117, 100, 100, 100, 100, 100, 100, 100, 100, 100]
def PathLike (x : List UInt8) : Prop := x.length ≤ 13 ∨ x = greatW ∨ x = greatX


end Go.Proofs.YtbicfognbbeigaaGreat
