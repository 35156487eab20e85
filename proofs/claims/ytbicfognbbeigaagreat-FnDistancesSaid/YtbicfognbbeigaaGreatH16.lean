/-
  Contracts of the functions that draw are proved.
  They hold for all codes of at most 1048576 bytes.
-/
import Derived.Test.YtbicfognbbeigaaGreatGY
import Derived.Test.YtbicfognbbeigaaGreatH0
import Derived.Test.YtbicfognbbeigaaGreatH2
set_option linter.unusedVariables false
set_option linter.unusedSimpArgs false
namespace Go.Proofs.YtbicfognbbeigaaGreat
open Go.Proofs.YtbicfognbbeigaaGreat.Ab Go.Proofs.YtbicfognbbeigaaGreat.Pl

/-- the block that a drawer reads off, with the code and two numbers -/
def curB (v : AV) (i k : Int) : Blk := .cells true 3 [v, .int .i64 i, .int .i64 k]
structure CurSt (H0 h : H) (c : Nat) (L : List (Nat × Blk)) : Prop where
  ex : ∃ (v : AV) (l : List UInt8) (i k : Int), l.length ≤ 1048576 ∧ CellsAt H0 v (bytesAV l) ∧ (0 ≤ i ∧ i ≤ l.length) ∧ St H0 h ((c, curB v i k) :: L)
theorem CurSt.st {H0 h : H} {c : Nat} {L : List (Nat × Blk)} (s : CurSt H0 h c L) : St H0 h L := by
  obtain ⟨v, l, i, k, h1, h2, h3, h4⟩ := s.ex
  exact h4.tail
theorem CurSt.keeps {H0 h : H} {c : Nat} {L : List (Nat × Blk)} (s : CurSt H0 h c L) : Keeps H0 h := s.st.keeps
theorem NewG.cur {H0 h : H} {c : Nat} {L : List (Nat × Blk)} {x : Blk} {K : Nat → H → Prop} (s : CurSt H0 h c L) (hk : ∀ b h', CurSt H0 h' c ((b, x) :: L) → K b h') : NewG h x K := by
  obtain ⟨v, l, i, k, h1, h2, h3, h4⟩ := s.ex
  exact NewG.st h4 fun b h' hs' => hk b h' ⟨v, l, i, k, h1, h2, h3, hs'.perm (.swap _ _ _)⟩
theorem CurSt.sub {H0 h : H} {c : Nat} {L M : List (Nat × Blk)} (s : CurSt H0 h c L) (m : M.Sublist L) : CurSt H0 h c M := by
  obtain ⟨v, l, i, k, h1, h2, h3, h4⟩ := s.ex
  exact ⟨v, l, i, k, h1, h2, h3, h4.sub (List.Sublist.cons_cons _ m)⟩
theorem CurSt.keep {H0 h h' : H} {c : Nat} {L : List (Nat × Blk)} (s : CurSt H0 h c L) (m : Keeps h h') : CurSt H0 h' c L := by
  obtain ⟨v, l, i, k, h1, h2, h3, h4⟩ := s.ex
  exact ⟨v, l, i, k, h1, h2, h3, h4.keep m⟩

set_option maxRecDepth 20000 in
theorem l1New_ok (l : List UInt8) (v : AV) (h0 : H) (hv : CellsAt h0 v (bytesAV l)) (hl : l.length ≤ 1048576) : AC env 44 [v] h0 fun w h' => ∃ c, w = .ptr c 0 ∧ CurSt h0 h' c [] := by
  have hs := St.refl h0
  have hv2 := hv
  rcases hv2 with ⟨rfl, e⟩ | ⟨b, cp, rfl, hb⟩
  · have e2 : l = [] := List.eq_nil_of_length_eq_zero (by rw [← bytesAV_length, e]; rfl)
    subst e2
    refine AC.enter Tryz.func44 Tryz.call44 rfl Tryz.ntmps44 (of_decide_eq_true (by rfl)) ?_
    repeat' (first
      | refine AW.seq ?_
      | (refine AW.region ?_; conv => whnf)
      | refine AW.block ?_
      | (refine Wr.i64 (by omega) ?_; conv => whnf))
    refine AW.once ?_
    repeat' (first
      | refine AW.seq ?_
      | (refine AW.region ?_; conv => whnf)
      | (refine AW.ret ?_; conv => whnf)
      | (refine AW.exit ?_; conv => whnf)
      | refine AW.cond (by rfl) ?_
      | (refine Br.ff ?_; conv => whnf)
      | (refine NewG.st (by assumption) (fun bt h' hs' => ?_); conv => whnf))
    exact ⟨_, rfl, ⟨.nilslice, [], 0, _, by simp, hv, by simp, hs'⟩⟩
  · rw [bytesAV_length] at hv ⊢
    refine AC.enter Tryz.func44 Tryz.call44 rfl Tryz.ntmps44 (of_decide_eq_true (by rfl)) ?_
    repeat' (first
      | refine AW.seq ?_
      | (refine AW.region ?_; conv => whnf)
      | refine AW.block ?_
      | (refine Wr.i64 (by omega) ?_; conv => whnf))
    refine AW.loop2 (fun (i : Nat) (k : Int) => [(0, .slice b 0 l.length cp), (3, .int .i64 k), (4, .int .i64 i)]) (fun i k h' => i ≤ l.length ∧ (0 ≤ k ∧ k ≤ 1073741823) ∧ h' = h0) (fun i _ => l.length - i) 0 _
      (Less.cons rfl (Less.cons rfl (Less.cons rfl (Less.nil _)))) ⟨by omega, by omega, rfl⟩ ?_
    rintro i k h1 ⟨hi, hk, rfl⟩
    by_cases hlt : i < l.length ∧ i < 4000
    · have bu : (l.getD ((i : Nat) : Int).toNat 0).toNat < 256 := UInt8.toNat_lt _
      repeat' (first
        | (refine Br.dt (by omega) ?_; conv => whnf)
        | (refine Has.loadAt hb rfl (bytesAV_get l _ (by omega)) ?_; conv => whnf)
        | refine AW.seq ?_
        | (refine AW.region ?_; conv => whnf)
        | refine AW.block ?_
        | (refine AW.skip ?_; conv => whnf)
        | refine AW.cond (by rfl) ?_
        | (refine Br.dt (by omega) ?_; conv => whnf)
        | (refine Wr.i64 (by omega) ?_; conv => whnf)
        | (refine Ck.mk (by omega) ?_; conv => whnf))
      exact ⟨i + 1, _, (Less.cons rfl (Less.cons rfl (Less.cons rfl (Less.nil _)))), ⟨by omega, mask_bd _ 1073741823 (by omega), rfl⟩, by omega⟩
    · repeat' (first
        | (refine Br.dt (by omega) ?_; conv => whnf)
        | (refine Br.df (by omega) ?_; conv => whnf)
        | (refine Br.dec (fun hc => ?_) (fun hc => ?_) <;> conv => whnf)
        | refine AW.seq ?_
        | (refine AW.region ?_; conv => whnf)
        | (refine AW.ret ?_; conv => whnf)
        | (refine AW.exit ?_; conv => whnf)
        | refine AW.cond (by rfl) ?_
        | (refine Br.ff ?_; conv => whnf)
        | (refine Br.dt (by omega) ?_; conv => whnf)
        | (refine Br.df (by omega) ?_; conv => whnf)
        | (refine Br.dec (fun hc => ?_) (fun hc => ?_) <;> conv => whnf)
        | (refine NewG.st (by assumption) (fun bt h' hs' => ?_); conv => whnf))
      all_goals exact ⟨_, rfl, ⟨.slice b 0 l.length cp, l, 0, k, hl, .inr ⟨b, cp, by rw [bytesAV_length], hb⟩, by omega, hs'⟩⟩

set_option maxRecDepth 20000 in
theorem l1Byte_ok (H0 h : H) (c : Nat) (L : List (Nat × Blk)) (s : CurSt H0 h c L) : AC env 90 [.ptr c 0] h fun w h' => ∃ x : Int, w = .int .i64 x ∧ (0 ≤ x ∧ x ≤ 255) ∧ CurSt H0 h' c L := by
  obtain ⟨v, l, i, k, hl, hv, hi, hs⟩ := s.ex
  clear s
  have hs : St H0 h ((c, .cells true 3 [v, .int .i64 i, .int .i64 k]) :: L) := hs
  have hv2 := hv
  rcases hv2 with ⟨rfl, e⟩ | ⟨b, cp, rfl, hb⟩
  · have e2 : l = [] := List.eq_nil_of_length_eq_zero (by rw [← bytesAV_length, e]; rfl)
    subst e2
    simp only [List.length_nil] at hi
    refine AC.enter Tryz.func90 Tryz.call90 rfl Tryz.ntmps90 (of_decide_eq_true (by rfl)) ?_
    repeat' (first
      | (refine Has.load (St.has (by assumption) (.head _)) rfl ?_; conv => whnf)
      | (refine StoreG.st hs .here (of_decide_eq_true rfl) rfl (fun h' hs' => ?_); conv => whnf)
      | (refine Wr.wrap ?_; conv => whnf)
      | refine AW.seq ?_
      | (refine AW.region ?_; conv => whnf)
      | (refine AW.skip ?_; conv => whnf)
      | (refine AW.ret ?_; conv => whnf)
      | refine AW.cond (by rfl) ?_
      | (refine AW.draw (id := 2) (.p 0 (.p 1 (.p 2 (.p 5 (.p 6 (.p 7 (.r 3 [4, 10, 11, 12] (.p 4 (.r 8 [9, 10, 11, 12] (.p 9 (.p 10 (.p 11 (.p 12 .done))))))))))))) (by kernel_rfl) (by kernel_rfl) ?_; conv => whnf)
      | (refine AW.draw (id := 3) (.p 0 (.p 1 (.p 2 (.p 4 (.p 5 (.p 6 (.r 3 [9] (.r 7 [8, 9] (.p 8 (.p 9 .done)))))))))) (by kernel_rfl) (by kernel_rfl) ?_; conv => whnf)
      | (refine Br.df (by omega) ?_; conv => whnf)
      | (refine Ck.mk (by omega) ?_; conv => whnf))
    exact ⟨_, rfl, mask_bd _ 255 (by omega), ⟨.nilslice, [], i, _, hl, hv, by simpa using hi, hs'⟩⟩
  · by_cases hlt : i < l.length
    · have hb2 : ∀ h', Keeps H0 h' → Has h' b (bytesAV l) := fun h' k => hb.keep k
      have iw : IntKind.i64.wrap (i + 1) = i + 1 := IntWalk.i64_in _ (by omega)
      rw [bytesAV_length] at hs
      refine AC.enter Tryz.func90 Tryz.call90 rfl Tryz.ntmps90 (of_decide_eq_true (by rfl)) ?_
      repeat' (first
        | (refine Has.load (St.has (by assumption) (.head _)) rfl ?_; conv => whnf)
        | (refine Has.loadAt (hb2 _ (St.keeps (by assumption))) rfl (bytesAV_get l _ (by omega)) ?_; conv => whnf)
        | (refine StoreG.st hs .here (of_decide_eq_true rfl) rfl (fun h2 hs2 => ?_); conv => whnf)
        | (refine StoreG.st hs2 .here (of_decide_eq_true rfl) rfl (fun h3 hs3 => ?_); conv => whnf)
        | (refine Wr.wrap ?_; conv => whnf)
        | refine AW.seq ?_
        | (refine AW.region ?_; conv => whnf)
        | (refine AW.ret ?_; conv => whnf)
        | refine AW.cond (by rfl) ?_
        | (refine AW.draw (id := 2) (.p 0 (.p 1 (.p 2 (.p 5 (.p 6 (.p 7 (.r 3 [4, 10, 11, 12] (.p 4 (.r 8 [9, 10, 11, 12] (.p 9 (.p 10 (.p 11 (.p 12 .done))))))))))))) (by kernel_rfl) (by kernel_rfl) ?_; conv => whnf)
        | (refine AW.draw (id := 3) (.p 0 (.p 1 (.p 2 (.p 4 (.p 5 (.p 6 (.r 3 [9] (.r 7 [8, 9] (.p 8 (.p 9 .done)))))))))) (by kernel_rfl) (by kernel_rfl) ?_; conv => whnf)
        | (refine AW.draw (id := 4) (.p 0 (.p 1 (.p 2 (.p 3 (.p 5 (.p 6 (.p 7 (.r 4 [9, 10, 11, 12, 13, 14] (.r 8 [9, 10, 11, 12, 13, 14] (.p 9 (.r 10 [11, 12, 13, 14] (.p 11 (.p 12 (.p 13 (.p 14 .done))))))))))))))) (by kernel_rfl) (by kernel_rfl) ?_; conv => whnf)
        | (refine Br.dt (by omega) ?_; conv => whnf)
        | (refine Ck.mk (by omega) ?_; conv => whnf))
      rw [iw] at hs3
      exact ⟨_, rfl, mask_bd _ 255 (by omega), ⟨.slice b 0 l.length cp, l, i + 1, _, hl, .inr ⟨b, cp, by rw [bytesAV_length], hb⟩, by omega, hs3⟩⟩
    · rw [bytesAV_length] at hs
      refine AC.enter Tryz.func90 Tryz.call90 rfl Tryz.ntmps90 (of_decide_eq_true (by rfl)) ?_
      repeat' (first
        | (refine Has.load (St.has (by assumption) (.head _)) rfl ?_; conv => whnf)
        | (refine StoreG.st hs .here (of_decide_eq_true rfl) rfl (fun h2 hs2 => ?_); conv => whnf)
        | (refine Wr.wrap ?_; conv => whnf)
        | refine AW.seq ?_
        | (refine AW.region ?_; conv => whnf)
        | (refine AW.skip ?_; conv => whnf)
        | (refine AW.ret ?_; conv => whnf)
        | refine AW.cond (by rfl) ?_
        | (refine AW.draw (id := 2) (.p 0 (.p 1 (.p 2 (.p 5 (.p 6 (.p 7 (.r 3 [4, 10, 11, 12] (.p 4 (.r 8 [9, 10, 11, 12] (.p 9 (.p 10 (.p 11 (.p 12 .done))))))))))))) (by kernel_rfl) (by kernel_rfl) ?_; conv => whnf)
        | (refine AW.draw (id := 3) (.p 0 (.p 1 (.p 2 (.p 4 (.p 5 (.p 6 (.r 3 [9] (.r 7 [8, 9] (.p 8 (.p 9 .done)))))))))) (by kernel_rfl) (by kernel_rfl) ?_; conv => whnf)
        | (refine Br.df (by omega) ?_; conv => whnf)
        | (refine Ck.mk (by omega) ?_; conv => whnf))
      exact ⟨_, rfl, mask_bd _ 255 (by omega), ⟨.slice b 0 l.length cp, l, i, _, hl, .inr ⟨b, cp, by rw [bytesAV_length], hb⟩, by omega, hs2⟩⟩

theorem tmod_bd {x n : Int} (hx : 0 ≤ x) (hn : 0 < n) : 0 ≤ x.tmod n ∧ x.tmod n < n := ⟨Int.tmod_nonneg _ hx, Int.tmod_lt_of_pos _ hn⟩
theorem l1Below_ok (n : Int) (H0 h : H) (c : Nat) (L : List (Nat × Blk)) (s : CurSt H0 h c L) : AC env 46 [.ptr c 0, .int .i64 n] h fun w h' => ∃ x : Int, w = .int .i64 x ∧ 0 ≤ x ∧ (0 < n → x < n) ∧ CurSt H0 h' c L := by
  refine AC.enter Tryz.func46 Tryz.call46 rfl Tryz.ntmps46 (of_decide_eq_true (by rfl)) ?_
  repeat' (first
    | refine AW.seq ?_
    | (refine AW.region ?_; conv => whnf)
    | (refine AW.skip ?_; conv => whnf)
    | (refine AW.ret ?_; conv => whnf)
    | refine AW.cond (by rfl) ?_
    | (refine (l1Byte_ok _ _ _ _ (by assumption)).mono ?_; rintro w h' ⟨xB, rfl, hxB, hcur⟩; conv => whnf)
    | (refine Br.dec (fun hc => ?_) (fun hc => ?_) <;> conv => whnf)
    | (refine Wr.i64 (by omega) ?_; conv => whnf)
    | (refine Ck.mk (by omega) ?_; conv => whnf))
  · exact ⟨0, rfl, by omega, fun h => by omega, s⟩
  all_goals first
    | exact ⟨_, rfl, (tmod_bd (by omega) (by omega)).1, fun _ => (tmod_bd (by omega) (by omega)).2, hcur⟩

theorem l1Once_ok (n : Int) (H0 h : H) (c : Nat) (L : List (Nat × Blk)) (s : CurSt H0 h c L) : AC env 82 [.ptr c 0, .int .i64 n] h fun w h' => ∃ x : Bool, w = .bool x ∧ CurSt H0 h' c L := by
  refine AC.enter Tryz.func82 Tryz.call82 rfl Tryz.ntmps82 (of_decide_eq_true (by rfl)) ?_
  repeat' (first
    | refine AW.seq ?_
    | (refine AW.region ?_; conv => whnf)
    | (refine AW.ret ?_; conv => whnf)
    | (refine (l1Below_ok _ _ _ _ _ (by assumption)).mono ?_; rintro w h' ⟨xB, rfl, hxB, hxB2, hcur⟩; conv => whnf))
  exact ⟨_, rfl, hcur⟩

theorem l1PickInt_ok (l : List Int) (b N C : Nat) (H0 h : H) (c : Nat) (L : List (Nat × Blk)) (s : CurSt H0 h c L) (m : (b, row (ints l)) ∈ L) (hN : N = l.length) (h1 : 1 ≤ N) (h2 : N ≤ 1000) : AC env 89 [.ptr c 0, .slice b 0 N C] h fun w h' => ∃ x : Int, w = .int .i64 x ∧ x ∈ l ∧ CurSt H0 h' c L := by
  refine AC.enter Tryz.func89 Tryz.call89 rfl Tryz.ntmps89 (of_decide_eq_true (by rfl)) ?_
  repeat' (first
    | (refine Has.loadZ (St.has (CurSt.st (by assumption)) m) rfl (by omega) ?_; conv => whnf)
    | refine AW.seq ?_
    | (refine AW.region ?_; conv => whnf)
    | (refine AW.ret ?_; conv => whnf)
    | (refine (l1Below_ok _ _ _ _ _ (by assumption)).mono ?_; rintro w h' ⟨xB, rfl, hxB, hxB2, hcur⟩; conv => whnf)
    | (refine Ck.mk (by omega) ?_; conv => whnf))
  refine ⟨_, rfl, ?_, hcur⟩
  have hk : xB.toNat < l.length := by omega
  rw [show l.getD xB.toNat 0 = l[xB.toNat] by simp [List.getD, hk]]
  exact List.getElem_mem hk

theorem l1Pick_ok (l : List (List UInt8)) (b N C : Nat) (H0 h : H) (c : Nat) (L : List (Nat × Blk)) (s : CurSt H0 h c L) (m : (b, row (strs l)) ∈ L) (hN : N = l.length) (h1 : 1 ≤ N) (h2 : N ≤ 1000) : AC env 130 [.ptr c 0, .slice b 0 N C] h fun w h' => ∃ x : List UInt8, w = .str x ∧ x ∈ l ∧ CurSt H0 h' c L := by
  refine AC.enter Tryz.func130 Tryz.call130 rfl Tryz.ntmps130 (of_decide_eq_true (by rfl)) ?_
  repeat' (first
    | (refine Has.loadS (St.has (CurSt.st (by assumption)) m) rfl (by omega) ?_; conv => whnf)
    | refine AW.seq ?_
    | (refine AW.region ?_; conv => whnf)
    | refine AW.block ?_
    | (refine AW.skip ?_; conv => whnf)
    | (refine AW.ret ?_; conv => whnf)
    | (refine AW.exit ?_; conv => whnf)
    | refine AW.cond (by rfl) ?_
    | (refine (l1Below_ok _ _ _ _ _ (by assumption)).mono ?_; rintro w h' ⟨xB, rfl, hxB, hxB2, hcur⟩; conv => whnf)
    | (refine Br.tt ?_; conv => whnf)
    | (refine Br.ff ?_; conv => whnf)
    | refine Br.not ?_
    | (refine Br.t (beq_self_eq_true _) ?_; conv => whnf)
    | (refine Br.t (by assumption) ?_; conv => whnf)
    | (refine Br.f (by assumption) ?_; conv => whnf)
    | (refine Br.dt (by omega) ?_; conv => whnf)
    | (refine Br.df (by omega) ?_; conv => whnf)
    | (refine Br.it (by omega) ?_; conv => whnf)
    | (refine Br.if (by omega) ?_; conv => whnf)
    | (refine Br.nt (by omega) ?_; conv => whnf)
    | (refine Br.nf (by omega) ?_; conv => whnf)
    | (refine Br.dec (fun hc => ?_) (fun hc => ?_) <;> conv => whnf)
    | (refine Br.ieq (fun hc => ?_) (fun hc => ?_) <;> conv => whnf)
    | (refine Br.ine (fun hc => ?_) (fun hc => ?_) <;> conv => whnf)
    | (refine Br.mk (fun hc => ?_) (fun hc => ?_) <;> conv => whnf)
    | (refine Wr.i64 (by omega) ?_; conv => whnf)
    | (refine Ck.mk (by omega) ?_; conv => whnf)
    | (refine Wr.i64 (by simp only [List.length_drop, List.length_take, List.length_append, List.length_cons, List.length_nil]; omega) ?_; conv => whnf)
    | (refine Ck.mk (by simp only [List.length_drop, List.length_take, List.length_append, List.length_cons, List.length_nil]; omega) ?_; conv => whnf)
    | (refine Has.load1 (by first | assumption | exact St.has (by assumption) (by repeat first | exact .head _ | apply List.Mem.tail) | exact St.arg (by assumption) (by assumption)) ?_; conv => whnf)
    | (refine Has.loadS (by first | assumption | exact St.has (by assumption) (by repeat first | exact .head _ | apply List.Mem.tail) | exact St.arg (by assumption) (by assumption)) rfl (by first | (simp; done) | omega | (simp only [List.length_set, List.length_append, List.length_cons, List.length_nil, List.length_replicate, tab_length]; omega) | (simp; omega)) ?_; conv => whnf)
    | (refine Ck.mk (by simp; omega) ?_; conv => whnf))
  refine ⟨_, rfl, ?_, hcur⟩
  have hk : xB.toNat < l.length := by omega
  rw [show l.getD xB.toNat [] = l[xB.toNat] by simp [List.getD, hk]]
  exact List.getElem_mem hk

end Go.Proofs.YtbicfognbbeigaaGreat

/-
  Plain laws of matchings and of loops of two of them are proved.
  They hold for all rows of numbers.
-/
set_option linter.unusedVariables false
set_option linter.unusedSimpArgs false
namespace Go.Proofs.YtbicfognbbeigaaGreat
open Go.Proofs.YtbicfognbbeigaaGreat.Ab Go.Proofs.YtbicfognbbeigaaGreat.Pl

/-- a row as a map of places -/
def ga (l : List Int) (i : Nat) : Nat := (l.getD i 0).toNat
theorem okAt_ga {l : List Int} {i : Nat} (h : okAt l i) (hi : i < l.length) : ga l i < l.length ∧ ga l i ≠ i ∧ l.getD i 0 = ga l i ∧ l.getD (ga l i) 0 = i := by
  obtain ⟨⟨h1, h2⟩, h3, h4⟩ := h
  unfold ga
  refine ⟨by omega, by omega, by omega, h4⟩
theorem isM_ga {l : List Int} (h : isM l = true) {i : Nat} (hi : i < l.length) : ga l i < l.length ∧ ga l i ≠ i ∧ l.getD i 0 = ga l i ∧ ga l (ga l i) = i := by
  obtain ⟨h1, h2, h3, h4⟩ := okAt_ga ((isM_spec h).2 i hi) hi
  exact ⟨h1, h2, h3, by rw [ga, h4]; rfl⟩

/-- an involution without fixed points moves evenly many things -/
theorem even_of_inv (n : Nat) (m : Nat → Nat) (h1 : ∀ i, i < n → m i < n) (h2 : ∀ i, i < n → m i ≠ i) (h3 : ∀ i, i < n → m (m i) = i) : n % 2 = 0 := by
  have hp : ((List.range n).map m).Perm (List.range n) := by
    refine (List.perm_ext_iff_of_nodup ?_ List.nodup_range).2 fun x => ?_
    · refine List.pairwise_map.2 (List.Pairwise.imp_of_mem (fun {a b} ha hb hne e => hne ?_) List.nodup_range)
      rw [← h3 a (List.mem_range.1 ha), ← h3 b (List.mem_range.1 hb), e]
    · constructor
      · intro hx
        obtain ⟨i, hi, rfl⟩ := List.mem_map.1 hx
        exact List.mem_range.2 (h1 i (List.mem_range.1 hi))
      · intro hx
        have hx := List.mem_range.1 hx
        exact List.mem_map.2 ⟨m x, List.mem_range.2 (h1 x hx), h3 x hx⟩
  have e1 := hp.countP_eq (fun i => decide (i < m i))
  rw [List.countP_map] at e1
  have e2 : List.countP ((fun i => decide (i < m i)) ∘ m) (List.range n) = List.countP (fun i => decide (¬ (decide (i < m i)) = true)) (List.range n) := by
    refine List.countP_congr fun i hi => ?_
    have hi := List.mem_range.1 hi
    have a := h2 i hi
    have b := h3 i hi
    simp only [Function.comp, decide_eq_true_eq, b]
    omega
  have e3 := List.length_eq_countP_add_countP (fun i => decide (i < m i)) (l := List.range n)
  rw [List.length_range] at e3
  omega
theorem isM_even {l : List Int} (h : isM l = true) : l.length % 2 = 0 :=
  even_of_inv l.length (ga l) (fun i hi => (isM_ga h hi).1) (fun i hi => (isM_ga h hi).2.1) fun i hi => (isM_ga h hi).2.2.2

/-! marks -/
theorem count_mark {s : List Bool} {x : Nat} (hx : x < s.length) (h : s.getD x false = false) : (s.set x true).count false + 1 = s.count false := by
  have e : s[x] = false := by simpa [List.getD, hx] using h
  rw [List.count_set hx, e]
  have : 0 < s.count false := List.count_pos_iff.2 (by rw [← e]; exact List.getElem_mem hx)
  simp
  omega
theorem count_more {s : List Bool} {x : Nat} (hx : x < s.length) : (s.set x true).count false ≤ s.count false := by
  rw [List.count_set hx]
  simp
theorem count_zero {s : List Bool} (h : s.count false = 0) {x : Nat} (hx : x < s.length) : s.getD x false = true := by
  have := List.count_eq_zero.1 h
  cases e : s.getD x false with
  | true => rfl
  | false =>
    exfalso
    apply this
    have e2 : s[x] = false := by simpa [List.getD, hx] using e
    rw [← e2]
    exact List.getElem_mem hx

/-- one loop is gone round: two maps in turn, all places are marked -/
def trail (f g : Nat → Nat) : Nat → List Bool → Nat → List Bool
  | 0, s, _ => s
  | k + 1, s, x => if s.getD x false then s else trail f g k ((s.set x true).set (f x) true) (g (f x))
theorem trail_seen (f g : Nat → Nat) (k : Nat) {s : List Bool} {x : Nat} (h : s.getD x false = true) : trail f g k s x = s := by
  cases k with
  | zero => rfl
  | succ k => simp only [trail]; rw [if_pos h]
theorem trail_step (f g : Nat → Nat) (k : Nat) {s : List Bool} {x : Nat} (h : s.getD x false = false) : trail f g (k + 1) s x = trail f g k ((s.set x true).set (f x) true) (g (f x)) := by
  simp only [trail]
  rw [if_neg (by rw [h]; decide)]
theorem trail_len (f g : Nat → Nat) : ∀ (k : Nat) (s : List Bool) (x : Nat), (trail f g k s x).length = s.length := by
  intro k
  induction k with
  | zero => intro s x; rfl
  | succ k ih =>
    intro s x
    simp only [trail]
    split
    · rfl
    · rw [ih]; simp
/-- all loops, from each place that has no mark yet -/
def roundsTo (f g : Nat → Nat) (n : Nat) : Nat → List Bool × Nat
  | 0 => (List.replicate n false, 0)
  | i + 1 => let r := roundsTo f g n i
    if r.1.getD i false then r else (trail f g n r.1 i, r.2 + 1)
theorem roundsTo_len (f g : Nat → Nat) (n : Nat) : ∀ i, (roundsTo f g n i).1.length = n := by
  intro i
  induction i with
  | zero => simp [roundsTo]
  | succ i ih =>
    simp only [roundsTo]
    split
    · exact ih
    · rw [trail_len]; exact ih
theorem roundsTo_le (f g : Nat → Nat) (n : Nat) : ∀ i, (roundsTo f g n i).2 ≤ i := by
  intro i
  induction i with
  | zero => simp [roundsTo]
  | succ i ih =>
    simp only [roundsTo]
    split <;> (try dsimp only) <;> omega
theorem roundsTo_seen {f g : Nat → Nat} {n i k : Nat} {s : List Bool} (e : roundsTo f g n i = (s, k)) (h : s.getD i false = true) : roundsTo f g n (i + 1) = (s, k) := by
  simp only [roundsTo, e]
  rw [if_pos h]
theorem roundsTo_new {f g : Nat → Nat} {n i k : Nat} {s : List Bool} (e : roundsTo f g n i = (s, k)) (h : s.getD i false = false) : roundsTo f g n (i + 1) = (trail f g n s i, k + 1) := by
  simp only [roundsTo, e]
  rw [if_neg (by rw [h]; decide)]
def loopsN (f g : Nat → Nat) (n : Nat) : Nat := (roundsTo f g n n).2
/-- the loops of two matchings -/
def loopsOf (a b : List Int) : Int := if isNC a = true ∧ isNC b = true ∧ a.length = b.length then (loopsN (ga a) (ga b) a.length : Int) else -1

end Go.Proofs.YtbicfognbbeigaaGreat
