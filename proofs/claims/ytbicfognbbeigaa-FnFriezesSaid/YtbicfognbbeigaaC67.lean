/-
  Contracts of the functions that draw are proved.
  They hold for all codes of at most 1048576 bytes.
-/
import Derived.Test.YtbicfognbbeigaaGY
import Derived.Test.YtbicfognbbeigaaH0
set_option linter.unusedVariables false
set_option linter.unusedSimpArgs false
namespace Go.Proofs.Ytbicfognbbeigaa
open Go.Proofs.Ytbicfognbbeigaa.Ab Go.Proofs.Ytbicfognbbeigaa.Pl

/-- the block that a drawer reads off, with the code and two numbers -/
def curB (v : AV) (i k : Int) : Blk := .cells true 3 [v, .int .i64 i, .int .i64 k]
structure CurSt (H0 h : H) (c : Nat) (L : List (Nat × Blk)) : Prop where
  ex : ∃ (v : AV) (l : List UInt8) (i k : Int), l.length ≤ 1048576 ∧ CellsAt H0 v (bytesAV l) ∧ (0 ≤ i ∧ i ≤ l.length) ∧ St H0 h ((c, curB v i k) :: L)
theorem CurSt.st {H0 h : H} {c : Nat} {L : List (Nat × Blk)} (s : CurSt H0 h c L) : St H0 h L := by
  obtain ⟨v, l, i, k, h1, h2, h3, h4⟩ := s.ex
  exact h4.tail
theorem CurSt.keeps {H0 h : H} {c : Nat} {L : List (Nat × Blk)} (s : CurSt H0 h c L) : Keeps H0 h := s.st.keeps
theorem NewG.cur {H0 h : H} {c : Nat} {L : List (Nat × Blk)} {x : Blk} {K : Nat → H → Prop} (s : CurSt H0 h c L) (hk : ∀ b h', CurSt H0 h' c ((b, x) :: L) → K b h') : NewG h x K := by
  obtain ⟨v, l, i, k, h1, h2, h3, h4⟩ := s.ex
  exact NewG.st h4 fun b h' hs' => hk b h' ⟨v, l, i, k, h1, h2, h3, hs'.perm (.swap _ _ _)⟩
theorem CurSt.sub {H0 h : H} {c : Nat} {L M : List (Nat × Blk)} (s : CurSt H0 h c L) (m : M.Sublist L) : CurSt H0 h c M := by
  obtain ⟨v, l, i, k, h1, h2, h3, h4⟩ := s.ex
  exact ⟨v, l, i, k, h1, h2, h3, h4.sub (List.Sublist.cons_cons _ m)⟩
theorem CurSt.keep {H0 h h' : H} {c : Nat} {L : List (Nat × Blk)} (s : CurSt H0 h c L) (m : Keeps h h') : CurSt H0 h' c L := by
  obtain ⟨v, l, i, k, h1, h2, h3, h4⟩ := s.ex
  exact ⟨v, l, i, k, h1, h2, h3, h4.keep m⟩

set_option maxRecDepth 20000 in
theorem l1New_ok (l : List UInt8) (v : AV) (h0 : H) (hv : CellsAt h0 v (bytesAV l)) (hl : l.length ≤ 1048576) : AC env 37 [v] h0 fun w h' => ∃ c, w = .ptr c 0 ∧ CurSt h0 h' c [] := by
  have hs := St.refl h0
  have hv2 := hv
  rcases hv2 with ⟨rfl, e⟩ | ⟨b, cp, rfl, hb⟩
  · have e2 : l = [] := List.eq_nil_of_length_eq_zero (by rw [← bytesAV_length, e]; rfl)
    subst e2
    refine AC.enter Try.func37 Try.call37 rfl Try.ntmps37 (of_decide_eq_true (by rfl)) ?_
    repeat' (first
      | refine AW.seq ?_
      | (refine AW.region ?_; conv => whnf)
      | refine AW.block ?_
      | (refine Wr.i64 (by omega) ?_; conv => whnf))
    refine AW.once ?_
    repeat' (first
      | refine AW.seq ?_
      | (refine AW.region ?_; conv => whnf)
      | (refine AW.ret ?_; conv => whnf)
      | (refine AW.exit ?_; conv => whnf)
      | refine AW.cond (by rfl) ?_
      | (refine Br.ff ?_; conv => whnf)
      | (refine NewG.st (by assumption) (fun bt h' hs' => ?_); conv => whnf))
    exact ⟨_, rfl, ⟨.nilslice, [], 0, _, by simp, hv, by simp, hs'⟩⟩
  · rw [bytesAV_length] at hv ⊢
    refine AC.enter Try.func37 Try.call37 rfl Try.ntmps37 (of_decide_eq_true (by rfl)) ?_
    repeat' (first
      | refine AW.seq ?_
      | (refine AW.region ?_; conv => whnf)
      | refine AW.block ?_
      | (refine Wr.i64 (by omega) ?_; conv => whnf))
    refine AW.loop2 (fun (i : Nat) (k : Int) => [(0, .slice b 0 l.length cp), (3, .int .i64 k), (4, .int .i64 i)]) (fun i k h' => i ≤ l.length ∧ (0 ≤ k ∧ k ≤ 1073741823) ∧ h' = h0) (fun i _ => l.length - i) 0 _
      (Less.cons rfl (Less.cons rfl (Less.cons rfl (Less.nil _)))) ⟨by omega, by omega, rfl⟩ ?_
    rintro i k h1 ⟨hi, hk, rfl⟩
    by_cases hlt : i < l.length ∧ i < 4000
    · have bu : (l.getD ((i : Nat) : Int).toNat 0).toNat < 256 := UInt8.toNat_lt _
      repeat' (first
        | (refine Br.dt (by omega) ?_; conv => whnf)
        | (refine Has.loadAt hb rfl (bytesAV_get l _ (by omega)) ?_; conv => whnf)
        | refine AW.seq ?_
        | (refine AW.region ?_; conv => whnf)
        | refine AW.block ?_
        | (refine AW.skip ?_; conv => whnf)
        | refine AW.cond (by rfl) ?_
        | (refine Br.dt (by omega) ?_; conv => whnf)
        | (refine Wr.i64 (by omega) ?_; conv => whnf)
        | (refine Ck.mk (by omega) ?_; conv => whnf))
      exact ⟨i + 1, _, (Less.cons rfl (Less.cons rfl (Less.cons rfl (Less.nil _)))), ⟨by omega, mask_bd _ 1073741823 (by omega), rfl⟩, by omega⟩
    · repeat' (first
        | (refine Br.dt (by omega) ?_; conv => whnf)
        | (refine Br.df (by omega) ?_; conv => whnf)
        | (refine Br.dec (fun hc => ?_) (fun hc => ?_) <;> conv => whnf)
        | refine AW.seq ?_
        | (refine AW.region ?_; conv => whnf)
        | (refine AW.ret ?_; conv => whnf)
        | (refine AW.exit ?_; conv => whnf)
        | refine AW.cond (by rfl) ?_
        | (refine Br.ff ?_; conv => whnf)
        | (refine Br.dt (by omega) ?_; conv => whnf)
        | (refine Br.df (by omega) ?_; conv => whnf)
        | (refine Br.dec (fun hc => ?_) (fun hc => ?_) <;> conv => whnf)
        | (refine NewG.st (by assumption) (fun bt h' hs' => ?_); conv => whnf))
      all_goals exact ⟨_, rfl, ⟨.slice b 0 l.length cp, l, 0, k, hl, .inr ⟨b, cp, by rw [bytesAV_length], hb⟩, by omega, hs'⟩⟩

set_option maxRecDepth 20000 in
theorem l1Byte_ok (H0 h : H) (c : Nat) (L : List (Nat × Blk)) (s : CurSt H0 h c L) : AC env 63 [.ptr c 0] h fun w h' => ∃ x : Int, w = .int .i64 x ∧ (0 ≤ x ∧ x ≤ 255) ∧ CurSt H0 h' c L := by
  obtain ⟨v, l, i, k, hl, hv, hi, hs⟩ := s.ex
  clear s
  have hs : St H0 h ((c, .cells true 3 [v, .int .i64 i, .int .i64 k]) :: L) := hs
  have hv2 := hv
  rcases hv2 with ⟨rfl, e⟩ | ⟨b, cp, rfl, hb⟩
  · have e2 : l = [] := List.eq_nil_of_length_eq_zero (by rw [← bytesAV_length, e]; rfl)
    subst e2
    simp only [List.length_nil] at hi
    refine AC.enter Try.func63 Try.call63 rfl Try.ntmps63 (of_decide_eq_true (by rfl)) ?_
    repeat' (first
      | (refine Has.load (St.has (by assumption) (.head _)) rfl ?_; conv => whnf)
      | (refine StoreG.st hs .here (of_decide_eq_true rfl) rfl (fun h' hs' => ?_); conv => whnf)
      | (refine Wr.wrap ?_; conv => whnf)
      | refine AW.seq ?_
      | (refine AW.region ?_; conv => whnf)
      | (refine AW.skip ?_; conv => whnf)
      | (refine AW.ret ?_; conv => whnf)
      | refine AW.cond (by rfl) ?_
      | (refine AW.draw (id := 2) (.p 0 (.p 1 (.p 2 (.p 5 (.p 6 (.p 7 (.r 3 [4, 10, 11, 12] (.p 4 (.r 8 [9, 10, 11, 12] (.p 9 (.p 10 (.p 11 (.p 12 .done))))))))))))) (by kernel_rfl) (by kernel_rfl) ?_; conv => whnf)
      | (refine AW.draw (id := 3) (.p 0 (.p 1 (.p 2 (.p 4 (.p 5 (.p 6 (.r 3 [9] (.r 7 [8, 9] (.p 8 (.p 9 .done)))))))))) (by kernel_rfl) (by kernel_rfl) ?_; conv => whnf)
      | (refine Br.df (by omega) ?_; conv => whnf)
      | (refine Ck.mk (by omega) ?_; conv => whnf))
    exact ⟨_, rfl, mask_bd _ 255 (by omega), ⟨.nilslice, [], i, _, hl, hv, by simpa using hi, hs'⟩⟩
  · by_cases hlt : i < l.length
    · have hb2 : ∀ h', Keeps H0 h' → Has h' b (bytesAV l) := fun h' k => hb.keep k
      have iw : IntKind.i64.wrap (i + 1) = i + 1 := IntWalk.i64_in _ (by omega)
      rw [bytesAV_length] at hs
      refine AC.enter Try.func63 Try.call63 rfl Try.ntmps63 (of_decide_eq_true (by rfl)) ?_
      repeat' (first
        | (refine Has.load (St.has (by assumption) (.head _)) rfl ?_; conv => whnf)
        | (refine Has.loadAt (hb2 _ (St.keeps (by assumption))) rfl (bytesAV_get l _ (by omega)) ?_; conv => whnf)
        | (refine StoreG.st hs .here (of_decide_eq_true rfl) rfl (fun h2 hs2 => ?_); conv => whnf)
        | (refine StoreG.st hs2 .here (of_decide_eq_true rfl) rfl (fun h3 hs3 => ?_); conv => whnf)
        | (refine Wr.wrap ?_; conv => whnf)
        | refine AW.seq ?_
        | (refine AW.region ?_; conv => whnf)
        | (refine AW.ret ?_; conv => whnf)
        | refine AW.cond (by rfl) ?_
        | (refine AW.draw (id := 2) (.p 0 (.p 1 (.p 2 (.p 5 (.p 6 (.p 7 (.r 3 [4, 10, 11, 12] (.p 4 (.r 8 [9, 10, 11, 12] (.p 9 (.p 10 (.p 11 (.p 12 .done))))))))))))) (by kernel_rfl) (by kernel_rfl) ?_; conv => whnf)
        | (refine AW.draw (id := 3) (.p 0 (.p 1 (.p 2 (.p 4 (.p 5 (.p 6 (.r 3 [9] (.r 7 [8, 9] (.p 8 (.p 9 .done)))))))))) (by kernel_rfl) (by kernel_rfl) ?_; conv => whnf)
        | (refine AW.draw (id := 4) (.p 0 (.p 1 (.p 2 (.p 3 (.p 5 (.p 6 (.p 7 (.r 4 [9, 10, 11, 12, 13, 14] (.r 8 [9, 10, 11, 12, 13, 14] (.p 9 (.r 10 [11, 12, 13, 14] (.p 11 (.p 12 (.p 13 (.p 14 .done))))))))))))))) (by kernel_rfl) (by kernel_rfl) ?_; conv => whnf)
        | (refine Br.dt (by omega) ?_; conv => whnf)
        | (refine Ck.mk (by omega) ?_; conv => whnf))
      rw [iw] at hs3
      exact ⟨_, rfl, mask_bd _ 255 (by omega), ⟨.slice b 0 l.length cp, l, i + 1, _, hl, .inr ⟨b, cp, by rw [bytesAV_length], hb⟩, by omega, hs3⟩⟩
    · rw [bytesAV_length] at hs
      refine AC.enter Try.func63 Try.call63 rfl Try.ntmps63 (of_decide_eq_true (by rfl)) ?_
      repeat' (first
        | (refine Has.load (St.has (by assumption) (.head _)) rfl ?_; conv => whnf)
        | (refine StoreG.st hs .here (of_decide_eq_true rfl) rfl (fun h2 hs2 => ?_); conv => whnf)
        | (refine Wr.wrap ?_; conv => whnf)
        | refine AW.seq ?_
        | (refine AW.region ?_; conv => whnf)
        | (refine AW.skip ?_; conv => whnf)
        | (refine AW.ret ?_; conv => whnf)
        | refine AW.cond (by rfl) ?_
        | (refine AW.draw (id := 2) (.p 0 (.p 1 (.p 2 (.p 5 (.p 6 (.p 7 (.r 3 [4, 10, 11, 12] (.p 4 (.r 8 [9, 10, 11, 12] (.p 9 (.p 10 (.p 11 (.p 12 .done))))))))))))) (by kernel_rfl) (by kernel_rfl) ?_; conv => whnf)
        | (refine AW.draw (id := 3) (.p 0 (.p 1 (.p 2 (.p 4 (.p 5 (.p 6 (.r 3 [9] (.r 7 [8, 9] (.p 8 (.p 9 .done)))))))))) (by kernel_rfl) (by kernel_rfl) ?_; conv => whnf)
        | (refine Br.df (by omega) ?_; conv => whnf)
        | (refine Ck.mk (by omega) ?_; conv => whnf))
      exact ⟨_, rfl, mask_bd _ 255 (by omega), ⟨.slice b 0 l.length cp, l, i, _, hl, .inr ⟨b, cp, by rw [bytesAV_length], hb⟩, by omega, hs2⟩⟩

theorem tmod_bd {x n : Int} (hx : 0 ≤ x) (hn : 0 < n) : 0 ≤ x.tmod n ∧ x.tmod n < n := ⟨Int.tmod_nonneg _ hx, Int.tmod_lt_of_pos _ hn⟩
theorem l1Below_ok (n : Int) (H0 h : H) (c : Nat) (L : List (Nat × Blk)) (s : CurSt H0 h c L) : AC env 44 [.ptr c 0, .int .i64 n] h fun w h' => ∃ x : Int, w = .int .i64 x ∧ 0 ≤ x ∧ (0 < n → x < n) ∧ CurSt H0 h' c L := by
  refine AC.enter Try.func44 Try.call44 rfl Try.ntmps44 (of_decide_eq_true (by rfl)) ?_
  repeat' (first
    | refine AW.seq ?_
    | (refine AW.region ?_; conv => whnf)
    | (refine AW.skip ?_; conv => whnf)
    | (refine AW.ret ?_; conv => whnf)
    | refine AW.cond (by rfl) ?_
    | (refine (l1Byte_ok _ _ _ _ (by assumption)).mono ?_; rintro w h' ⟨xB, rfl, hxB, hcur⟩; conv => whnf)
    | (refine Br.dec (fun hc => ?_) (fun hc => ?_) <;> conv => whnf)
    | (refine Wr.i64 (by omega) ?_; conv => whnf)
    | (refine Ck.mk (by omega) ?_; conv => whnf))
  · exact ⟨0, rfl, by omega, fun h => by omega, s⟩
  all_goals first
    | exact ⟨_, rfl, (tmod_bd (by omega) (by omega)).1, fun _ => (tmod_bd (by omega) (by omega)).2, hcur⟩

theorem l1Once_ok (n : Int) (H0 h : H) (c : Nat) (L : List (Nat × Blk)) (s : CurSt H0 h c L) : AC env 57 [.ptr c 0, .int .i64 n] h fun w h' => ∃ x : Bool, w = .bool x ∧ CurSt H0 h' c L := by
  refine AC.enter Try.func57 Try.call57 rfl Try.ntmps57 (of_decide_eq_true (by rfl)) ?_
  repeat' (first
    | refine AW.seq ?_
    | (refine AW.region ?_; conv => whnf)
    | (refine AW.ret ?_; conv => whnf)
    | (refine (l1Below_ok _ _ _ _ _ (by assumption)).mono ?_; rintro w h' ⟨xB, rfl, hxB, hxB2, hcur⟩; conv => whnf))
  exact ⟨_, rfl, hcur⟩

theorem l1PickInt_ok (l : List Int) (b N C : Nat) (H0 h : H) (c : Nat) (L : List (Nat × Blk)) (s : CurSt H0 h c L) (m : (b, row (ints l)) ∈ L) (hN : N = l.length) (h1 : 1 ≤ N) (h2 : N ≤ 1000) : AC env 58 [.ptr c 0, .slice b 0 N C] h fun w h' => ∃ x : Int, w = .int .i64 x ∧ x ∈ l ∧ CurSt H0 h' c L := by
  refine AC.enter Try.func58 Try.call58 rfl Try.ntmps58 (of_decide_eq_true (by rfl)) ?_
  repeat' (first
    | (refine Has.loadZ (St.has (CurSt.st (by assumption)) m) rfl (by omega) ?_; conv => whnf)
    | refine AW.seq ?_
    | (refine AW.region ?_; conv => whnf)
    | (refine AW.ret ?_; conv => whnf)
    | (refine (l1Below_ok _ _ _ _ _ (by assumption)).mono ?_; rintro w h' ⟨xB, rfl, hxB, hxB2, hcur⟩; conv => whnf)
    | (refine Ck.mk (by omega) ?_; conv => whnf))
  refine ⟨_, rfl, ?_, hcur⟩
  have hk : xB.toNat < l.length := by omega
  rw [show l.getD xB.toNat 0 = l[xB.toNat] by simp [List.getD, hk]]
  exact List.getElem_mem hk


end Go.Proofs.Ytbicfognbbeigaa
