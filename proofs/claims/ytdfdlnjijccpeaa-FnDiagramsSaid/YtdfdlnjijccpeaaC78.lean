/-
  Contracts of the functions that draw rows for the laws of meanders are proved.
  They hold for all codes of at most 1048576 bytes.
-/
import Derived.Test.YtdfdlnjijccpeaaC76
import Derived.Test.YtdfdlnjijccpeaaC77
set_option linter.unusedVariables false
set_option linter.unusedSimpArgs false
namespace Go.Proofs.Ytdfdlnjijccpeaa
open Go.Proofs.Ytdfdlnjijccpeaa.Ab Go.Proofs.Ytdfdlnjijccpeaa.Pl

theorem NewG.curZ {H0 h : H} {c : Nat} {L : List (Nat × Blk)} {K : Nat → H → Prop} {n : Nat} {z : AV} (s : CurSt H0 h c L) (hz : z = .int .i64 0) (hk : ∀ b h', CurSt H0 h' c ((b, row (ints (List.replicate n 0))) :: L) → K b h') : NewG h (.cells true 1 (List.replicate n z)) K := by
  subst hz
  rw [ints_replicate]
  exact NewG.cur s hk
theorem StoreG.curZ {H0 h : H} {c b : Nat} {L L' : List (Nat × Blk)} {K : H → Prop} {n sz : Nat} {l : List Int} {y : Int} (s : CurSt H0 h c L) (sp : Spot L (b, row (ints l)) (b, row (ints (l.set n y))) L') (hs : sz = 1) (ho : n < l.length)
    (hk : ∀ h', CurSt H0 h' c L' → K h') : StoreG h b (0 + mulSz n sz) (.int .i64 y) K := by
  obtain ⟨v, a, i, k, h1, h2, h3, h4⟩ := s.ex
  exact StoreG.stZ h4 (.there sp) hs ho fun h' hs' => hk h' ⟨v, a, i, k, h1, h2, h3, hs'⟩
theorem AppG.curZs {H0 h : H} {c b : Nat} {L : List (Nat × Blk)} {L' : Nat → List (Nat × Blk)} {K : AV → H → Prop} {bytes N C : Nat} {l r : List Int} {m : Nat} (s : CurSt H0 h c L) (sp : ∀ b', Spot L (b, row (ints l)) (b', row (ints (l ++ r))) (L' b')) (hN : N = l.length) (hb : l.length + m ≤ 1000000000) (hy : bytes ≤ 1000)
    (hk : ∀ b' h', CurSt H0 h' c (L' b') → K (.slice b' 0 (N + m) (N + m)) h') : AppG h (.slice b 0 N C) bytes (ints r) m K := by
  obtain ⟨v, a, i, k, h1, h2, h3, h4⟩ := s.ex
  exact AppG.stZs h4 (fun b' => .there (sp b')) hN hb hy fun b' h' hs' => hk b' h' ⟨v, a, i, k, h1, h2, h3, hs'⟩
theorem AppG.curZ {H0 h : H} {c b : Nat} {L : List (Nat × Blk)} {L' : Nat → List (Nat × Blk)} {K : AV → H → Prop} {bytes N C : Nat} {l : List Int} {y : Int} (s : CurSt H0 h c L) (sp : ∀ b', Spot L (b, row (ints l)) (b', row (ints (l ++ [y]))) (L' b')) (hN : N = l.length) (hb : l.length + 1 ≤ 1000000000) (hy : bytes ≤ 1000)
    (hk : ∀ b' h', CurSt H0 h' c (L' b') → K (.slice b' 0 (N + 1) (N + 1)) h') : AppG h (.slice b 0 N C) bytes [.int .i64 y] 1 K :=
  AppG.curZs (r := [y]) s sp hN hb hy hk
/-- all numbers of a row lie below a bound -/
def below (n : Nat) (l : List Int) : Prop := ∀ i, i < l.length → 0 ≤ l.getD i 0 ∧ l.getD i 0 < n
theorem below_mem {n : Nat} {l : List Int} : below n l ↔ ∀ x ∈ l, 0 ≤ x ∧ x < n := by
  refine ⟨fun h x hx => ?_, fun h i hi => ?_⟩
  · obtain ⟨i, hi, rfl⟩ := List.getElem_of_mem hx
    have := h i hi
    rwa [show l.getD i 0 = l[i] by simp [List.getD, hi]] at this
  · rw [show l.getD i 0 = l[i] by simp [List.getD, hi]]
    exact h _ (List.getElem_mem hi)
theorem below_part {n : Nat} {l : List Int} (h : below n l) (a b c : Nat) : below n (([] ++ (l.drop a).take b) ++ (l.drop c).take (l.length - c)) := by
  rw [below_mem] at h ⊢
  intro x hx
  rw [List.nil_append] at hx
  rcases List.mem_append.1 hx with hx | hx
  · exact h x (List.mem_of_mem_drop (List.mem_of_mem_take hx))
  · exact h x (List.mem_of_mem_drop (List.mem_of_mem_take hx))
theorem below_snoc {n : Nat} {l : List Int} (h : below n l) {x : Int} (hx : 0 ≤ x ∧ x < n) : below n (l ++ [x]) := by
  rw [below_mem] at h ⊢
  intro y hy
  rcases List.mem_append.1 hy with hy | hy
  · exact h y hy
  · cases List.mem_singleton.1 hy
    exact hx
theorem dyP_size {n : Nat} {x : List UInt8} (hn : n ≤ 6) (h : x ∈ dyP n) : (ptL x).length = 2 * n := by rw [ptL_len, (okW_spec (dyP_ok hn h)).1]

set_option maxHeartbeats 4000000 in
theorem l9Any_ok (H0 h : H) (c : Nat) (L : List (Nat × Blk)) (s : CurSt H0 h c L) : AC env 126 [.ptr c 0] h fun w h' => ∃ (b : Nat) (l : List Int), w = .slice b 0 l.length l.length ∧ l.length ≤ 12 ∧ CurSt H0 h' c ((b, row (ints l)) :: L) := by
  refine AC.enter Try.func126 Try.call126 rfl Try.ntmps126 (of_decide_eq_true (by rfl)) ?_
  repeat' (first
    | (refine (l2PathP_ok _ _ _ _ s).mono ?_; rintro w h1 ⟨n, x, rfl, hn6, hx, hc1⟩; have hxl := dyP_size hn6 hx; conv => whnf)
    | (refine (sMatchingP_ok (dyP_ok hn6 hx) hn6 _).mono ?_; rintro w h2 ⟨bM, rfl, hnM⟩; have hc2 := CurSt.newCall hc1 hnM; clear hc1; conv => whnf)
    | (refine (l1Once_ok 3 _ _ _ _ hc2).mono ?_; rintro w h3 ⟨xO, rfl, hc3⟩; clear hc2; conv => whnf)
    | (refine (l1Below_ok 5 _ _ _ _ hc3).mono ?_; rintro w h4 ⟨x5, rfl, hx5, hx52, hc4⟩; clear hc3; conv => whnf)
    | (refine NewG.curZ (by assumption) rfl (fun bm h' hcm => ?_); conv => whnf)
    | (refine NewG.cur (by assumption) (fun bf h' hcf => ?_); conv => whnf)
    | (refine Ck.slice (by omega) (by omega) (by omega) (by decide) ?_; conv => whnf)
    | (refine (l1Once_ok 12 _ _ _ _ hc3).mono ?_; rintro w h4 ⟨xP, rfl, hc4⟩; clear hc3; conv => whnf)
    | (refine (l1Below_ok _ _ _ _ _ hc4).mono ?_; rintro w h5 ⟨xQ, rfl, hxQ, hxQ2, hc5⟩; clear hc4; conv => whnf)
    | (refine NewG.cur hc5 (fun bp h' hc6 => ?_); conv => whnf)
    | (refine (l1PickInt_ok [-1, 0, 1, 9223372036854775807] _ _ _ _ _ _ _ (by assumption) (.head _) rfl (by decide) (by decide)).mono ?_; rintro w h7 ⟨m, rfl, hm, hc7⟩; conv => whnf)
    | (refine StoreG.curZ hc7 (.there .here) rfl (by omega) (fun h8 hc8 => ?_); conv => whnf)
    | refine AW.seq ?_
    | (refine AW.region ?_; conv => whnf)
    | refine AW.block ?_
    | (refine AW.skip ?_; conv => whnf)
    | (refine AW.ret ?_; conv => whnf)
    | (refine AW.exit ?_; conv => whnf)
    | refine AW.cond (by rfl) ?_
    | (refine AW.draw (id := 12) (.p 0 (.p 1 (.p 2 (.p 4 (.p 5 (.p 6 (.r 3 [8, 9] (.r 7 [8, 9] (.p 8 (.all [9] fun _ => .done)))))))))) (by kernel_rfl) (by kernel_rfl) ?_; conv => whnf)
    | (refine AW.draw (id := 13) (.p 0 (.p 1 (.p 2 (.p 3 (.p 5 (.p 6 (.r 4 [8, 9] (.r 7 [8, 9] (.p 8 (.all [9] fun _ => .done)))))))))) (by kernel_rfl) (by kernel_rfl) ?_; conv => whnf)
    | (refine AW.draw (id := 14) (.p 1 (.p 2 (.p 3 (.p 5 (.p 6 (.p 7 (.p 8 (.all [0] fun _ => (.all [4] fun _ => (.all [9] fun _ => (.p 10 .done))))))))))) (by kernel_rfl) (by kernel_rfl) ?_; conv => whnf)
    | (refine (l1Once_ok _ _ _ _ _ (by assumption)).mono ?_; rintro w h' ⟨xO, rfl, hcur⟩; conv => whnf)
    | (refine (l1Below_ok _ _ _ _ _ (by assumption)).mono ?_; rintro w h' ⟨xB, rfl, hxB, hxB2, hcur⟩; conv => whnf)
    | (refine Br.tt ?_; conv => whnf)
    | (refine Br.ff ?_; conv => whnf)
    | refine Br.not ?_
    | (refine Br.t (beq_self_eq_true _) ?_; conv => whnf)
    | (refine Br.t (by assumption) ?_; conv => whnf)
    | (refine Br.f (by assumption) ?_; conv => whnf)
    | (refine Br.dt (by omega) ?_; conv => whnf)
    | (refine Br.df (by omega) ?_; conv => whnf)
    | (refine Br.it (by omega) ?_; conv => whnf)
    | (refine Br.if (by omega) ?_; conv => whnf)
    | (refine Br.nt (by omega) ?_; conv => whnf)
    | (refine Br.nf (by omega) ?_; conv => whnf)
    | (refine Br.dec (fun hc => ?_) (fun hc => ?_) <;> conv => whnf)
    | (refine Br.ieq (fun hc => ?_) (fun hc => ?_) <;> conv => whnf)
    | (refine Br.ine (fun hc => ?_) (fun hc => ?_) <;> conv => whnf)
    | (refine Br.mk (fun hc => ?_) (fun hc => ?_) <;> conv => whnf)
    | (refine Wr.i64 (by omega) ?_; conv => whnf)
    | (refine Ck.mk (by omega) ?_; conv => whnf)
    | (refine Wr.i64 (by simp only [List.length_drop, List.length_take, List.length_append, List.length_cons, List.length_nil]; omega) ?_; conv => whnf)
    | (refine Ck.mk (by simp only [List.length_drop, List.length_take, List.length_append, List.length_cons, List.length_nil]; omega) ?_; conv => whnf)
    | (refine NewG.stZ (by assumption) rfl (fun bt h' hs' => ?_); conv => whnf)
    | (refine Ck.slice (by omega) (by omega) (by omega) (by decide) ?_; conv => whnf)
    | (refine NewG.st (by assumption) (fun bt h' hs' => ?_); conv => whnf)
    | (refine Has.load1 (by first | assumption | exact St.has (by assumption) (by repeat first | exact .head _ | apply List.Mem.tail) | exact St.arg (by assumption) (by assumption)) ?_; conv => whnf)
    | (refine Has.loadZ (by first | assumption | exact St.has (by assumption) (by repeat first | exact .head _ | apply List.Mem.tail) | exact St.arg (by assumption) (by assumption)) rfl (by first | (simp; done) | omega | (simp only [List.length_set, List.length_append, List.length_cons, List.length_nil, List.length_replicate, tab_length]; omega) | (simp; omega)) ?_; conv => whnf)
    | (refine LoadsG.has (by first | assumption | exact St.has (by assumption) (by repeat first | exact .head _ | apply List.Mem.tail) | exact St.arg (by assumption) (by assumption)) (by simp) ?_; conv => whnf)
    | (refine StoreG.st1 (by assumption) (by repeat first | exact .here | apply Spot.there) rfl (fun h' hs' => ?_); conv => whnf)
    | (refine StoreG.stZ (by assumption) (by repeat first | exact .here | apply Spot.there) rfl (by first | (simp; done) | omega | (simp only [List.length_set, List.length_append, List.length_cons, List.length_nil, List.length_replicate, tab_length]; omega) | (simp; omega)) (fun h' hs' => ?_); conv => whnf)
    | (refine AppG.stZ (by assumption) (by intro b'; repeat first | exact .here | apply Spot.there) (by first | (simp; done) | omega | (simp only [List.length_set, List.length_append, List.length_cons, List.length_nil, List.length_replicate, tab_length]; omega) | (simp; omega)) (by first | (simp; done) | omega | (simp only [List.length_set, List.length_append, List.length_cons, List.length_nil, List.length_replicate, tab_length]; omega) | (simp; omega)) (by decide) (fun b' h' hs' => ?_); conv => whnf)
    | (refine AppG.stZs (by assumption) (by intro b'; repeat first | exact .here | apply Spot.there) (by first | (simp; done) | omega | (simp only [List.length_set, List.length_append, List.length_cons, List.length_nil, List.length_replicate, tab_length]; omega) | (simp; omega)) (by first | (simp; done) | omega | (simp only [List.length_set, List.length_append, List.length_cons, List.length_nil, List.length_replicate, tab_length]; omega) | (simp; omega)) (by decide) (fun b' h' hs' => ?_); conv => whnf)
    | (refine Ck.mk (by simp; omega) ?_; conv => whnf))
  · obtain ⟨N, hN⟩ : ∃ N : Nat, 2 * x5 = (N : Int) := ⟨(2 * x5).toNat, by omega⟩
    rw [hN] at hcf ⊢
    rw [Int.toNat_natCast] at hcf ⊢
    have N8 : N ≤ 8 := by have := hx52 (by omega); omega
    have hcf := hcf.sub (M := (bf, row (ints [])) :: (bm, row (ints (List.replicate N 0))) :: L) (.cons_cons _ (.cons_cons _ (List.sublist_cons_self _ _)))
    clear hc4 hcm hnM
    refine AW.loop3 (fun (i : Nat) (f : List Int) (bf : Nat) => [(0, .ptr c 0), (3, .slice bm 0 N N), (5, .int .i64 (N : Int)), (6, .slice bf 0 i i), (7, .int .i64 (i : Int))]) (fun i f bf h' => (i ≤ N ∧ f.length = i ∧ below N f) ∧ CurSt H0 h' c ((bf, row (ints f)) :: (bm, row (ints (List.replicate N 0))) :: L)) (fun i _ _ => N - i) 0 [] bf
      (Less.cons rfl (Less.cons rfl (Less.cons rfl (Less.cons rfl (Less.cons rfl (Less.nil _)))))) ⟨by refine ⟨by omega, rfl, fun i hi => ?_⟩; simp at hi, hcf⟩ ?_
    rintro i f bf h5 ⟨⟨hi, hfl, hfb⟩, hc5⟩
    clear hcf
    by_cases hlt : i < N
    · repeat' (first
        | (refine NewG.cur hc5 (fun bx h' hc6 => ?_); conv => whnf)
        | (refine LoadsG.has (St.has (CurSt.st hc6) (.head _)) (by simp) ?_; conv => whnf)
        | (refine AppG.curZ (l := f) hc6 (fun b' => .there .here) (by omega) (by omega) (by decide) (fun by' h' hc7 => ?_); conv => whnf)
        | refine AW.seq ?_
        | (refine AW.region ?_; conv => whnf)
        | refine AW.block ?_
        | (refine AW.skip ?_; conv => whnf)
        | (refine AW.ret ?_; conv => whnf)
        | (refine AW.exit ?_; conv => whnf)
        | refine AW.cond (by rfl) ?_
        | (refine AW.draw (id := 12) (.p 0 (.p 1 (.p 2 (.p 4 (.p 5 (.p 6 (.r 3 [8, 9] (.r 7 [8, 9] (.p 8 (.all [9] fun _ => .done)))))))))) (by kernel_rfl) (by kernel_rfl) ?_; conv => whnf)
        | (refine AW.draw (id := 13) (.p 0 (.p 1 (.p 2 (.p 3 (.p 5 (.p 6 (.r 4 [8, 9] (.r 7 [8, 9] (.p 8 (.all [9] fun _ => .done)))))))))) (by kernel_rfl) (by kernel_rfl) ?_; conv => whnf)
        | (refine AW.draw (id := 14) (.p 1 (.p 2 (.p 3 (.p 5 (.p 6 (.p 7 (.p 8 (.all [0] fun _ => (.all [4] fun _ => (.all [9] fun _ => (.p 10 .done))))))))))) (by kernel_rfl) (by kernel_rfl) ?_; conv => whnf)
        | (refine (l1Once_ok _ _ _ _ _ (by assumption)).mono ?_; rintro w h' ⟨xO, rfl, hcur⟩; conv => whnf)
        | (refine (l1Below_ok _ _ _ _ _ (by assumption)).mono ?_; rintro w h' ⟨xB, rfl, hxB, hxB2, hcur⟩; conv => whnf)
        | (refine Br.tt ?_; conv => whnf)
        | (refine Br.ff ?_; conv => whnf)
        | refine Br.not ?_
        | (refine Br.t (beq_self_eq_true _) ?_; conv => whnf)
        | (refine Br.t (by assumption) ?_; conv => whnf)
        | (refine Br.f (by assumption) ?_; conv => whnf)
        | (refine Br.dt (by omega) ?_; conv => whnf)
        | (refine Br.df (by omega) ?_; conv => whnf)
        | (refine Br.it (by omega) ?_; conv => whnf)
        | (refine Br.if (by omega) ?_; conv => whnf)
        | (refine Br.nt (by omega) ?_; conv => whnf)
        | (refine Br.nf (by omega) ?_; conv => whnf)
        | (refine Br.dec (fun hc => ?_) (fun hc => ?_) <;> conv => whnf)
        | (refine Br.ieq (fun hc => ?_) (fun hc => ?_) <;> conv => whnf)
        | (refine Br.ine (fun hc => ?_) (fun hc => ?_) <;> conv => whnf)
        | (refine Br.mk (fun hc => ?_) (fun hc => ?_) <;> conv => whnf)
        | (refine Wr.i64 (by omega) ?_; conv => whnf)
        | (refine Ck.mk (by omega) ?_; conv => whnf)
        | (refine Wr.i64 (by simp only [List.length_drop, List.length_take, List.length_append, List.length_cons, List.length_nil]; omega) ?_; conv => whnf)
        | (refine Ck.mk (by simp only [List.length_drop, List.length_take, List.length_append, List.length_cons, List.length_nil]; omega) ?_; conv => whnf)
        | (refine NewG.stZ (by assumption) rfl (fun bt h' hs' => ?_); conv => whnf)
        | (refine Ck.slice (by omega) (by omega) (by omega) (by decide) ?_; conv => whnf)
        | (refine NewG.st (by assumption) (fun bt h' hs' => ?_); conv => whnf)
        | (refine Has.load1 (by first | assumption | exact St.has (by assumption) (by repeat first | exact .head _ | apply List.Mem.tail) | exact St.arg (by assumption) (by assumption)) ?_; conv => whnf)
        | (refine Has.loadZ (by first | assumption | exact St.has (by assumption) (by repeat first | exact .head _ | apply List.Mem.tail) | exact St.arg (by assumption) (by assumption)) rfl (by first | (simp; done) | omega | (simp only [List.length_set, List.length_append, List.length_cons, List.length_nil, List.length_replicate, tab_length]; omega) | (simp; omega)) ?_; conv => whnf)
        | (refine LoadsG.has (by first | assumption | exact St.has (by assumption) (by repeat first | exact .head _ | apply List.Mem.tail) | exact St.arg (by assumption) (by assumption)) (by simp) ?_; conv => whnf)
        | (refine StoreG.st1 (by assumption) (by repeat first | exact .here | apply Spot.there) rfl (fun h' hs' => ?_); conv => whnf)
        | (refine StoreG.stZ (by assumption) (by repeat first | exact .here | apply Spot.there) rfl (by first | (simp; done) | omega | (simp only [List.length_set, List.length_append, List.length_cons, List.length_nil, List.length_replicate, tab_length]; omega) | (simp; omega)) (fun h' hs' => ?_); conv => whnf)
        | (refine AppG.stZ (by assumption) (by intro b'; repeat first | exact .here | apply Spot.there) (by first | (simp; done) | omega | (simp only [List.length_set, List.length_append, List.length_cons, List.length_nil, List.length_replicate, tab_length]; omega) | (simp; omega)) (by first | (simp; done) | omega | (simp only [List.length_set, List.length_append, List.length_cons, List.length_nil, List.length_replicate, tab_length]; omega) | (simp; omega)) (by decide) (fun b' h' hs' => ?_); conv => whnf)
        | (refine AppG.stZs (by assumption) (by intro b'; repeat first | exact .here | apply Spot.there) (by first | (simp; done) | omega | (simp only [List.length_set, List.length_append, List.length_cons, List.length_nil, List.length_replicate, tab_length]; omega) | (simp; omega)) (by first | (simp; done) | omega | (simp only [List.length_set, List.length_append, List.length_cons, List.length_nil, List.length_replicate, tab_length]; omega) | (simp; omega)) (by decide) (fun b' h' hs' => ?_); conv => whnf)
        | (refine Ck.mk (by simp; omega) ?_; conv => whnf))
      exact ⟨i + 1, f ++ [(i : Int)], by', (Less.cons rfl (Less.cons rfl (Less.cons rfl (Less.cons rfl (Less.cons rfl (Less.nil _)))))), ⟨⟨by omega, by simp only [List.length_append, List.length_cons, List.length_nil]; omega, below_snoc hfb (by omega)⟩, hc7.sub (List.sublist_cons_self _ _)⟩, by omega⟩
    · obtain rfl : i = N := by omega
      repeat' (first
        | refine AW.seq ?_
        | (refine AW.region ?_; conv => whnf)
        | refine AW.block ?_
        | (refine AW.skip ?_; conv => whnf)
        | (refine AW.ret ?_; conv => whnf)
        | (refine AW.exit ?_; conv => whnf)
        | refine AW.cond (by rfl) ?_
        | (refine AW.draw (id := 12) (.p 0 (.p 1 (.p 2 (.p 4 (.p 5 (.p 6 (.r 3 [8, 9] (.r 7 [8, 9] (.p 8 (.all [9] fun _ => .done)))))))))) (by kernel_rfl) (by kernel_rfl) ?_; conv => whnf)
        | (refine AW.draw (id := 13) (.p 0 (.p 1 (.p 2 (.p 3 (.p 5 (.p 6 (.r 4 [8, 9] (.r 7 [8, 9] (.p 8 (.all [9] fun _ => .done)))))))))) (by kernel_rfl) (by kernel_rfl) ?_; conv => whnf)
        | (refine AW.draw (id := 14) (.p 1 (.p 2 (.p 3 (.p 5 (.p 6 (.p 7 (.p 8 (.all [0] fun _ => (.all [4] fun _ => (.all [9] fun _ => (.p 10 .done))))))))))) (by kernel_rfl) (by kernel_rfl) ?_; conv => whnf)
        | (refine (l1Once_ok _ _ _ _ _ (by assumption)).mono ?_; rintro w h' ⟨xO, rfl, hcur⟩; conv => whnf)
        | (refine (l1Below_ok _ _ _ _ _ (by assumption)).mono ?_; rintro w h' ⟨xB, rfl, hxB, hxB2, hcur⟩; conv => whnf)
        | (refine Br.tt ?_; conv => whnf)
        | (refine Br.ff ?_; conv => whnf)
        | refine Br.not ?_
        | (refine Br.t (beq_self_eq_true _) ?_; conv => whnf)
        | (refine Br.t (by assumption) ?_; conv => whnf)
        | (refine Br.f (by assumption) ?_; conv => whnf)
        | (refine Br.dt (by omega) ?_; conv => whnf)
        | (refine Br.df (by omega) ?_; conv => whnf)
        | (refine Br.it (by omega) ?_; conv => whnf)
        | (refine Br.if (by omega) ?_; conv => whnf)
        | (refine Br.nt (by omega) ?_; conv => whnf)
        | (refine Br.nf (by omega) ?_; conv => whnf)
        | (refine Br.dec (fun hc => ?_) (fun hc => ?_) <;> conv => whnf)
        | (refine Br.ieq (fun hc => ?_) (fun hc => ?_) <;> conv => whnf)
        | (refine Br.ine (fun hc => ?_) (fun hc => ?_) <;> conv => whnf)
        | (refine Br.mk (fun hc => ?_) (fun hc => ?_) <;> conv => whnf)
        | (refine Wr.i64 (by omega) ?_; conv => whnf)
        | (refine Ck.mk (by omega) ?_; conv => whnf)
        | (refine Wr.i64 (by simp only [List.length_drop, List.length_take, List.length_append, List.length_cons, List.length_nil]; omega) ?_; conv => whnf)
        | (refine Ck.mk (by simp only [List.length_drop, List.length_take, List.length_append, List.length_cons, List.length_nil]; omega) ?_; conv => whnf)
        | (refine NewG.stZ (by assumption) rfl (fun bt h' hs' => ?_); conv => whnf)
        | (refine Ck.slice (by omega) (by omega) (by omega) (by decide) ?_; conv => whnf)
        | (refine NewG.st (by assumption) (fun bt h' hs' => ?_); conv => whnf)
        | (refine Has.load1 (by first | assumption | exact St.has (by assumption) (by repeat first | exact .head _ | apply List.Mem.tail) | exact St.arg (by assumption) (by assumption)) ?_; conv => whnf)
        | (refine Has.loadZ (by first | assumption | exact St.has (by assumption) (by repeat first | exact .head _ | apply List.Mem.tail) | exact St.arg (by assumption) (by assumption)) rfl (by first | (simp; done) | omega | (simp only [List.length_set, List.length_append, List.length_cons, List.length_nil, List.length_replicate, tab_length]; omega) | (simp; omega)) ?_; conv => whnf)
        | (refine LoadsG.has (by first | assumption | exact St.has (by assumption) (by repeat first | exact .head _ | apply List.Mem.tail) | exact St.arg (by assumption) (by assumption)) (by simp) ?_; conv => whnf)
        | (refine StoreG.st1 (by assumption) (by repeat first | exact .here | apply Spot.there) rfl (fun h' hs' => ?_); conv => whnf)
        | (refine StoreG.stZ (by assumption) (by repeat first | exact .here | apply Spot.there) rfl (by first | (simp; done) | omega | (simp only [List.length_set, List.length_append, List.length_cons, List.length_nil, List.length_replicate, tab_length]; omega) | (simp; omega)) (fun h' hs' => ?_); conv => whnf)
        | (refine AppG.stZ (by assumption) (by intro b'; repeat first | exact .here | apply Spot.there) (by first | (simp; done) | omega | (simp only [List.length_set, List.length_append, List.length_cons, List.length_nil, List.length_replicate, tab_length]; omega) | (simp; omega)) (by first | (simp; done) | omega | (simp only [List.length_set, List.length_append, List.length_cons, List.length_nil, List.length_replicate, tab_length]; omega) | (simp; omega)) (by decide) (fun b' h' hs' => ?_); conv => whnf)
        | (refine AppG.stZs (by assumption) (by intro b'; repeat first | exact .here | apply Spot.there) (by first | (simp; done) | omega | (simp only [List.length_set, List.length_append, List.length_cons, List.length_nil, List.length_replicate, tab_length]; omega) | (simp; omega)) (by first | (simp; done) | omega | (simp only [List.length_set, List.length_append, List.length_cons, List.length_nil, List.length_replicate, tab_length]; omega) | (simp; omega)) (by decide) (fun b' h' hs' => ?_); conv => whnf)
        | (refine Ck.mk (by simp; omega) ?_; conv => whnf))
      clear hlt hi
      refine AW.loop3 (fun (m f : List Int) (bf : Nat) => [(0, .ptr c 0), (3, .slice bm 0 i i), (6, .slice bf 0 f.length f.length)]) (fun m f bf h' => (m.length = i ∧ f.length ≤ i ∧ below i f) ∧ CurSt H0 h' c ((bf, row (ints f)) :: (bm, row (ints m)) :: L)) (fun _ f _ => f.length) (List.replicate i 0) f bf
        (by rw [hfl]; exact (Less.cons rfl (Less.cons rfl (Less.cons rfl (Less.nil _))))) ⟨⟨by simp, by omega, hfb⟩, hc5⟩ ?_
      rintro m f bf h6 ⟨⟨hml, hfl2, hfb2⟩, hc6⟩
      clear hc5 hfb hfl
      by_cases hlt : 1 < f.length
      · repeat' (first
          | (refine (l1Below_ok _ _ _ _ _ hc6).mono ?_; rintro w h7 ⟨k, rfl, hk1, hk2, hc7⟩; obtain ⟨k, rfl⟩ := Int.eq_ofNat_of_zero_le hk1; have hk3 : k + 1 < f.length := (by omega); clear hc6 hk2; have q0 := hfb2 (Int.toNat 0) (by omega); have q1 := hfb2 (1 + (k : Int)).toNat (by omega); conv => whnf)
          | (refine Has.loadZ (St.has (CurSt.st (by assumption)) (.head _)) rfl (by omega) ?_; conv => whnf)
          | (refine StoreG.curZ (by assumption) (.there .here) rfl (by first | omega | (rw [List.length_set]; omega)) (fun h8 hc8 => ?_); conv => whnf)
          | (refine NewG.cur (by assumption) (fun bx h' hcx => ?_); conv => whnf)
          | (refine Has.partOff (l := f) (St.has (CurSt.st hcx) (.tail _ (.head _))) rfl 1 k (by omega) (by omega) (by omega) ?_; conv => whnf)
          | (refine AppG.curZs (l := []) hcx (fun b' => .here) rfl (by simp; omega) (by decide) (fun by' h' hcy => ?_); conv => whnf)
          | (refine Has.partOff (l := f) (St.has (CurSt.st hcy) (.tail _ (.head _))) rfl (k + 2) (f.length - (k + 2)) (by omega) (by omega) (by omega) ?_; conv => whnf)
          | (refine AppG.curZs (l := [] ++ (f.drop 1).take k) hcy (fun b' => .here) (by simp; omega) (by simp; omega) (by decide) (fun bz h' hcz => ?_); conv => whnf)
          | refine AW.seq ?_
          | (refine AW.region ?_; conv => whnf)
          | refine AW.block ?_
          | (refine AW.skip ?_; conv => whnf)
          | (refine AW.ret ?_; conv => whnf)
          | (refine AW.exit ?_; conv => whnf)
          | refine AW.cond (by rfl) ?_
          | (refine AW.draw (id := 12) (.p 0 (.p 1 (.p 2 (.p 4 (.p 5 (.p 6 (.r 3 [8, 9] (.r 7 [8, 9] (.p 8 (.all [9] fun _ => .done)))))))))) (by kernel_rfl) (by kernel_rfl) ?_; conv => whnf)
          | (refine AW.draw (id := 13) (.p 0 (.p 1 (.p 2 (.p 3 (.p 5 (.p 6 (.r 4 [8, 9] (.r 7 [8, 9] (.p 8 (.all [9] fun _ => .done)))))))))) (by kernel_rfl) (by kernel_rfl) ?_; conv => whnf)
          | (refine AW.draw (id := 14) (.p 1 (.p 2 (.p 3 (.p 5 (.p 6 (.p 7 (.p 8 (.all [0] fun _ => (.all [4] fun _ => (.all [9] fun _ => (.p 10 .done))))))))))) (by kernel_rfl) (by kernel_rfl) ?_; conv => whnf)
          | (refine (l1Once_ok _ _ _ _ _ (by assumption)).mono ?_; rintro w h' ⟨xO, rfl, hcur⟩; conv => whnf)
          | (refine (l1Below_ok _ _ _ _ _ (by assumption)).mono ?_; rintro w h' ⟨xB, rfl, hxB, hxB2, hcur⟩; conv => whnf)
          | (refine Br.tt ?_; conv => whnf)
          | (refine Br.ff ?_; conv => whnf)
          | refine Br.not ?_
          | (refine Br.t (beq_self_eq_true _) ?_; conv => whnf)
          | (refine Br.t (by assumption) ?_; conv => whnf)
          | (refine Br.f (by assumption) ?_; conv => whnf)
          | (refine Br.dt (by omega) ?_; conv => whnf)
          | (refine Br.df (by omega) ?_; conv => whnf)
          | (refine Br.it (by omega) ?_; conv => whnf)
          | (refine Br.if (by omega) ?_; conv => whnf)
          | (refine Br.nt (by omega) ?_; conv => whnf)
          | (refine Br.nf (by omega) ?_; conv => whnf)
          | (refine Br.dec (fun hc => ?_) (fun hc => ?_) <;> conv => whnf)
          | (refine Br.ieq (fun hc => ?_) (fun hc => ?_) <;> conv => whnf)
          | (refine Br.ine (fun hc => ?_) (fun hc => ?_) <;> conv => whnf)
          | (refine Br.mk (fun hc => ?_) (fun hc => ?_) <;> conv => whnf)
          | (refine Wr.i64 (by omega) ?_; conv => whnf)
          | (refine Ck.mk (by omega) ?_; conv => whnf)
          | (refine Wr.i64 (by simp only [List.length_drop, List.length_take, List.length_append, List.length_cons, List.length_nil]; omega) ?_; conv => whnf)
          | (refine Ck.mk (by simp only [List.length_drop, List.length_take, List.length_append, List.length_cons, List.length_nil]; omega) ?_; conv => whnf)
          | (refine NewG.stZ (by assumption) rfl (fun bt h' hs' => ?_); conv => whnf)
          | (refine Ck.slice (by omega) (by omega) (by omega) (by decide) ?_; conv => whnf)
          | (refine NewG.st (by assumption) (fun bt h' hs' => ?_); conv => whnf)
          | (refine Has.load1 (by first | assumption | exact St.has (by assumption) (by repeat first | exact .head _ | apply List.Mem.tail) | exact St.arg (by assumption) (by assumption)) ?_; conv => whnf)
          | (refine Has.loadZ (by first | assumption | exact St.has (by assumption) (by repeat first | exact .head _ | apply List.Mem.tail) | exact St.arg (by assumption) (by assumption)) rfl (by first | (simp; done) | omega | (simp only [List.length_set, List.length_append, List.length_cons, List.length_nil, List.length_replicate, tab_length]; omega) | (simp; omega)) ?_; conv => whnf)
          | (refine LoadsG.has (by first | assumption | exact St.has (by assumption) (by repeat first | exact .head _ | apply List.Mem.tail) | exact St.arg (by assumption) (by assumption)) (by simp) ?_; conv => whnf)
          | (refine StoreG.st1 (by assumption) (by repeat first | exact .here | apply Spot.there) rfl (fun h' hs' => ?_); conv => whnf)
          | (refine StoreG.stZ (by assumption) (by repeat first | exact .here | apply Spot.there) rfl (by first | (simp; done) | omega | (simp only [List.length_set, List.length_append, List.length_cons, List.length_nil, List.length_replicate, tab_length]; omega) | (simp; omega)) (fun h' hs' => ?_); conv => whnf)
          | (refine AppG.stZ (by assumption) (by intro b'; repeat first | exact .here | apply Spot.there) (by first | (simp; done) | omega | (simp only [List.length_set, List.length_append, List.length_cons, List.length_nil, List.length_replicate, tab_length]; omega) | (simp; omega)) (by first | (simp; done) | omega | (simp only [List.length_set, List.length_append, List.length_cons, List.length_nil, List.length_replicate, tab_length]; omega) | (simp; omega)) (by decide) (fun b' h' hs' => ?_); conv => whnf)
          | (refine AppG.stZs (by assumption) (by intro b'; repeat first | exact .here | apply Spot.there) (by first | (simp; done) | omega | (simp only [List.length_set, List.length_append, List.length_cons, List.length_nil, List.length_replicate, tab_length]; omega) | (simp; omega)) (by first | (simp; done) | omega | (simp only [List.length_set, List.length_append, List.length_cons, List.length_nil, List.length_replicate, tab_length]; omega) | (simp; omega)) (by decide) (fun b' h' hs' => ?_); conv => whnf)
          | (refine Ck.mk (by simp; omega) ?_; conv => whnf))
        have en : 0 + ((1 + (k : Int)).toNat - Int.toNat 1) + (f.length - (1 + (k : Int) + 1).toNat) = f.length - 2 := by omega
        have lf : ([] ++ (f.drop 1).take k ++ (f.drop (k + 2)).take (f.length - (k + 2))).length = f.length - 2 := by
          simp only [List.nil_append, List.length_append, List.length_take, List.length_drop]
          omega
        refine ⟨_, [] ++ (f.drop 1).take k ++ (f.drop (k + 2)).take (f.length - (k + 2)), bz, ?_, ⟨⟨by simp only [List.length_set]; exact hml, by rw [lf]; omega, below_part hfb2 1 k (k + 2)⟩, hcz.sub (.cons_cons _ (List.sublist_cons_self _ _))⟩, by rw [lf]; omega⟩
        simp only [lf]
        rw [← en]
        exact (Less.cons rfl (Less.cons rfl (Less.cons rfl (Less.nil _))))
      · repeat' (first
          | (refine (l1Once_ok 12 _ _ _ _ hc6).mono ?_; rintro w h7 ⟨xP, rfl, hc7⟩; clear hc6; conv => whnf)
          | (refine (l1Below_ok _ _ _ _ _ hc7).mono ?_; rintro w h8 ⟨xQ, rfl, hxQ, hxQ2, hc8⟩; clear hc7; conv => whnf)
          | (refine NewG.cur hc8 (fun bp h' hc9 => ?_); conv => whnf)
          | (refine (l1PickInt_ok [-1, 0, 1, 9223372036854775807] _ _ _ _ _ _ _ hc9 (.head _) rfl (by decide) (by decide)).mono ?_; rintro w h10 ⟨z, rfl, hz, hc10⟩; conv => whnf)
          | (refine StoreG.curZ hc10 (.there (.there .here)) rfl (by omega) (fun h11 hc11 => ?_); conv => whnf)
          | refine AW.seq ?_
          | (refine AW.region ?_; conv => whnf)
          | refine AW.block ?_
          | (refine AW.skip ?_; conv => whnf)
          | (refine AW.ret ?_; conv => whnf)
          | (refine AW.exit ?_; conv => whnf)
          | refine AW.cond (by rfl) ?_
          | (refine AW.draw (id := 12) (.p 0 (.p 1 (.p 2 (.p 4 (.p 5 (.p 6 (.r 3 [8, 9] (.r 7 [8, 9] (.p 8 (.all [9] fun _ => .done)))))))))) (by kernel_rfl) (by kernel_rfl) ?_; conv => whnf)
          | (refine AW.draw (id := 13) (.p 0 (.p 1 (.p 2 (.p 3 (.p 5 (.p 6 (.r 4 [8, 9] (.r 7 [8, 9] (.p 8 (.all [9] fun _ => .done)))))))))) (by kernel_rfl) (by kernel_rfl) ?_; conv => whnf)
          | (refine AW.draw (id := 14) (.p 1 (.p 2 (.p 3 (.p 5 (.p 6 (.p 7 (.p 8 (.all [0] fun _ => (.all [4] fun _ => (.all [9] fun _ => (.p 10 .done))))))))))) (by kernel_rfl) (by kernel_rfl) ?_; conv => whnf)
          | (refine (l1Once_ok _ _ _ _ _ (by assumption)).mono ?_; rintro w h' ⟨xO, rfl, hcur⟩; conv => whnf)
          | (refine (l1Below_ok _ _ _ _ _ (by assumption)).mono ?_; rintro w h' ⟨xB, rfl, hxB, hxB2, hcur⟩; conv => whnf)
          | (refine Br.tt ?_; conv => whnf)
          | (refine Br.ff ?_; conv => whnf)
          | refine Br.not ?_
          | (refine Br.t (beq_self_eq_true _) ?_; conv => whnf)
          | (refine Br.t (by assumption) ?_; conv => whnf)
          | (refine Br.f (by assumption) ?_; conv => whnf)
          | (refine Br.dt (by omega) ?_; conv => whnf)
          | (refine Br.df (by omega) ?_; conv => whnf)
          | (refine Br.it (by omega) ?_; conv => whnf)
          | (refine Br.if (by omega) ?_; conv => whnf)
          | (refine Br.nt (by omega) ?_; conv => whnf)
          | (refine Br.nf (by omega) ?_; conv => whnf)
          | (refine Br.dec (fun hc => ?_) (fun hc => ?_) <;> conv => whnf)
          | (refine Br.ieq (fun hc => ?_) (fun hc => ?_) <;> conv => whnf)
          | (refine Br.ine (fun hc => ?_) (fun hc => ?_) <;> conv => whnf)
          | (refine Br.mk (fun hc => ?_) (fun hc => ?_) <;> conv => whnf)
          | (refine Wr.i64 (by omega) ?_; conv => whnf)
          | (refine Ck.mk (by omega) ?_; conv => whnf)
          | (refine Wr.i64 (by simp only [List.length_drop, List.length_take, List.length_append, List.length_cons, List.length_nil]; omega) ?_; conv => whnf)
          | (refine Ck.mk (by simp only [List.length_drop, List.length_take, List.length_append, List.length_cons, List.length_nil]; omega) ?_; conv => whnf)
          | (refine NewG.stZ (by assumption) rfl (fun bt h' hs' => ?_); conv => whnf)
          | (refine Ck.slice (by omega) (by omega) (by omega) (by decide) ?_; conv => whnf)
          | (refine NewG.st (by assumption) (fun bt h' hs' => ?_); conv => whnf)
          | (refine Has.load1 (by first | assumption | exact St.has (by assumption) (by repeat first | exact .head _ | apply List.Mem.tail) | exact St.arg (by assumption) (by assumption)) ?_; conv => whnf)
          | (refine Has.loadZ (by first | assumption | exact St.has (by assumption) (by repeat first | exact .head _ | apply List.Mem.tail) | exact St.arg (by assumption) (by assumption)) rfl (by first | (simp; done) | omega | (simp only [List.length_set, List.length_append, List.length_cons, List.length_nil, List.length_replicate, tab_length]; omega) | (simp; omega)) ?_; conv => whnf)
          | (refine LoadsG.has (by first | assumption | exact St.has (by assumption) (by repeat first | exact .head _ | apply List.Mem.tail) | exact St.arg (by assumption) (by assumption)) (by simp) ?_; conv => whnf)
          | (refine StoreG.st1 (by assumption) (by repeat first | exact .here | apply Spot.there) rfl (fun h' hs' => ?_); conv => whnf)
          | (refine StoreG.stZ (by assumption) (by repeat first | exact .here | apply Spot.there) rfl (by first | (simp; done) | omega | (simp only [List.length_set, List.length_append, List.length_cons, List.length_nil, List.length_replicate, tab_length]; omega) | (simp; omega)) (fun h' hs' => ?_); conv => whnf)
          | (refine AppG.stZ (by assumption) (by intro b'; repeat first | exact .here | apply Spot.there) (by first | (simp; done) | omega | (simp only [List.length_set, List.length_append, List.length_cons, List.length_nil, List.length_replicate, tab_length]; omega) | (simp; omega)) (by first | (simp; done) | omega | (simp only [List.length_set, List.length_append, List.length_cons, List.length_nil, List.length_replicate, tab_length]; omega) | (simp; omega)) (by decide) (fun b' h' hs' => ?_); conv => whnf)
          | (refine AppG.stZs (by assumption) (by intro b'; repeat first | exact .here | apply Spot.there) (by first | (simp; done) | omega | (simp only [List.length_set, List.length_append, List.length_cons, List.length_nil, List.length_replicate, tab_length]; omega) | (simp; omega)) (by first | (simp; done) | omega | (simp only [List.length_set, List.length_append, List.length_cons, List.length_nil, List.length_replicate, tab_length]; omega) | (simp; omega)) (by decide) (fun b' h' hs' => ?_); conv => whnf)
          | (refine Ck.mk (by simp; omega) ?_; conv => whnf))
        all_goals first
          | exact ⟨bm, m.set xQ.toNat z, by rw [List.length_set, hml], by rw [List.length_set]; omega, hc11.sub ((List.sublist_cons_self _ _).trans (List.sublist_cons_self _ _))⟩
          | exact ⟨bm, m, by rw [hml], by omega, hc7.sub (List.sublist_cons_self _ _)⟩
          | exact ⟨bm, m, by rw [hml], by omega, hc6.sub (List.sublist_cons_self _ _)⟩
  · exact ⟨bM, (ptL x).set xQ.toNat m, by rw [List.length_set], by rw [List.length_set]; omega, hc8.sub (List.sublist_cons_self _ _)⟩
  · exact ⟨bM, _, rfl, by omega, hc4⟩
  · exact ⟨bM, _, rfl, by omega, hc3⟩

/-- two rows are drawn, the first one of a path of at most five rises -/
def Draw2 (h0 : H) (w : AV) (h' : H) : Prop := ∃ (a b : List Int) (ba bb : Nat), w = .tup [.slice ba 0 a.length a.length, .slice bb 0 b.length b.length] ∧ (∃ n u, n ≤ 5 ∧ u ∈ dyP n ∧ a = ptL u) ∧ b.length ≤ 12 ∧ St h0 h' [(bb, row (ints b)), (ba, row (ints a))]
set_option maxHeartbeats 2000000 in
theorem l24Two_ok (l : List UInt8) (v : AV) (h0 : H) (hv : CellsAt h0 v (bytesAV l)) (hl : l.length ≤ 1048576) : AC env 121 [v] h0 (Draw2 h0) := by
  have hv2 := hv
  rcases hv2 with ⟨rfl, e⟩ | ⟨b, cp, rfl, hb⟩
  all_goals
    refine AC.enter Try.func121 Try.call121 rfl Try.ntmps121 (of_decide_eq_true (by rfl)) ?_
    repeat' (first
      | (refine (l1New_ok l _ _ hv hl).mono ?_; rintro w h' ⟨c, rfl, hc⟩; conv => whnf)
      | (refine (l1Below_ok _ _ _ _ _ hc).mono ?_; rintro w h' ⟨n, rfl, hn1, hn2, hc2⟩; obtain ⟨n, rfl⟩ := Int.eq_ofNat_of_zero_le hn1; have hn5 : n ≤ 5 := (by have := hn2 (by omega); omega); clear hc; conv => whnf)
      | (refine (l2DrawP_ok n _ _ _ _ hc2 (by omega)).mono ?_; rintro w h' ⟨u, rfl, hu, hc3⟩; clear hc2; conv => whnf)
      | (refine (sMatchingP_ok (dyP_ok (by omega) hu) (by omega) _).mono ?_; rintro w h' ⟨ba, rfl, hna⟩; have hc4 := CurSt.newCall hc3 hna; clear hc3 hna; conv => whnf)
      | (refine (l1Once_ok _ _ _ _ _ hc4).mono ?_; rintro w h' ⟨xO, rfl, hc5⟩; clear hc4; conv => whnf)
      | (refine (l9Any_ok _ _ _ _ hc5).mono ?_; rintro w h' ⟨bb, y, rfl, hy, hc6⟩; clear hc5; conv => whnf)
      | (refine (l2DrawP_ok n _ _ _ _ hc5 (by omega)).mono ?_; rintro w h' ⟨x, rfl, hx, hc6⟩; clear hc5; conv => whnf)
      | (refine (sMatchingP_ok (dyP_ok (by omega) hx) (by omega) _).mono ?_; rintro w h' ⟨bb, rfl, hnb⟩; have hc7 := CurSt.newCall hc6 hnb; clear hc6 hnb; conv => whnf)
      | refine AW.seq ?_
      | (refine AW.region ?_; conv => whnf)
      | refine AW.block ?_
      | (refine AW.skip ?_; conv => whnf)
      | (refine AW.ret ?_; conv => whnf)
      | (refine AW.exit ?_; conv => whnf)
      | refine AW.cond (by rfl) ?_
      | (refine (l1New_ok _ _ _ (by assumption) (by omega)).mono ?_; rintro w h' ⟨c, rfl, hcur⟩; conv => whnf)
      | (refine (l1Below_ok _ _ _ _ _ (by assumption)).mono ?_; rintro w h' ⟨xB, rfl, hxB, hxB2, hcur⟩; conv => whnf)
      | (refine (l1Once_ok _ _ _ _ _ (by assumption)).mono ?_; rintro w h' ⟨xO, rfl, hcur⟩; conv => whnf)
      | (refine (l9Any_ok _ _ _ _ (by assumption)).mono ?_; rintro w h' ⟨bN, lN, rfl, hlN, hcur⟩; conv => whnf)
      | (refine Br.tt ?_; conv => whnf)
      | (refine Br.ff ?_; conv => whnf)
      | refine Br.not ?_
      | (refine Br.t (beq_self_eq_true _) ?_; conv => whnf)
      | (refine Br.t (by assumption) ?_; conv => whnf)
      | (refine Br.f (by assumption) ?_; conv => whnf)
      | (refine Br.dt (by omega) ?_; conv => whnf)
      | (refine Br.df (by omega) ?_; conv => whnf)
      | (refine Br.it (by omega) ?_; conv => whnf)
      | (refine Br.if (by omega) ?_; conv => whnf)
      | (refine Br.nt (by omega) ?_; conv => whnf)
      | (refine Br.nf (by omega) ?_; conv => whnf)
      | (refine Br.dec (fun hc => ?_) (fun hc => ?_) <;> conv => whnf)
      | (refine Br.ieq (fun hc => ?_) (fun hc => ?_) <;> conv => whnf)
      | (refine Br.ine (fun hc => ?_) (fun hc => ?_) <;> conv => whnf)
      | (refine Br.mk (fun hc => ?_) (fun hc => ?_) <;> conv => whnf)
      | (refine Wr.i64 (by omega) ?_; conv => whnf)
      | (refine Ck.mk (by omega) ?_; conv => whnf)
      | (refine Wr.i64 (by simp only [List.length_drop, List.length_take, List.length_append, List.length_cons, List.length_nil]; omega) ?_; conv => whnf)
      | (refine Ck.mk (by simp only [List.length_drop, List.length_take, List.length_append, List.length_cons, List.length_nil]; omega) ?_; conv => whnf)
      | (refine Ck.mk (by simp; omega) ?_; conv => whnf))
    · exact ⟨_, y, _, bb, rfl, ⟨n, u, hn5, hu, rfl⟩, hy, hc6.st⟩
    · exact ⟨_, _, _, bb, rfl, ⟨n, u, hn5, hu, rfl⟩, by rw [dyP_size (by omega) hx]; omega, hc7.st⟩
theorem drawLoopsOf_ok (l : List UInt8) (v : AV) (h0 : H) (hv : CellsAt h0 v (bytesAV l)) (hl : l.length ≤ 1048576) : AC env 58 [v] h0 (Draw2 h0) := by
  have hv2 := hv
  rcases hv2 with ⟨rfl, e⟩ | ⟨b, cp, rfl, hb⟩
  all_goals
    refine AC.enter Try.func58 Try.call58 rfl Try.ntmps58 (of_decide_eq_true (by rfl)) ?_
    repeat' (first
      | refine AW.seq ?_
      | (refine AW.region ?_; conv => whnf)
      | refine AW.block ?_
      | (refine AW.skip ?_; conv => whnf)
      | (refine AW.ret ?_; conv => whnf)
      | (refine AW.exit ?_; conv => whnf)
      | refine AW.cond (by rfl) ?_
      | (refine (l24Two_ok l _ _ hv hl).mono ?_; rintro w h' ⟨a, b, ba, bb, rfl, hau, hbl, hn⟩; conv => whnf)
      | (refine Br.tt ?_; conv => whnf)
      | (refine Br.ff ?_; conv => whnf)
      | refine Br.not ?_
      | (refine Br.t (beq_self_eq_true _) ?_; conv => whnf)
      | (refine Br.t (by assumption) ?_; conv => whnf)
      | (refine Br.f (by assumption) ?_; conv => whnf)
      | (refine Br.dt (by omega) ?_; conv => whnf)
      | (refine Br.df (by omega) ?_; conv => whnf)
      | (refine Br.it (by omega) ?_; conv => whnf)
      | (refine Br.if (by omega) ?_; conv => whnf)
      | (refine Br.nt (by omega) ?_; conv => whnf)
      | (refine Br.nf (by omega) ?_; conv => whnf)
      | (refine Br.dec (fun hc => ?_) (fun hc => ?_) <;> conv => whnf)
      | (refine Br.ieq (fun hc => ?_) (fun hc => ?_) <;> conv => whnf)
      | (refine Br.ine (fun hc => ?_) (fun hc => ?_) <;> conv => whnf)
      | (refine Br.mk (fun hc => ?_) (fun hc => ?_) <;> conv => whnf)
      | (refine Wr.i64 (by omega) ?_; conv => whnf)
      | (refine Ck.mk (by omega) ?_; conv => whnf)
      | (refine Wr.i64 (by simp only [List.length_drop, List.length_take, List.length_append, List.length_cons, List.length_nil]; omega) ?_; conv => whnf)
      | (refine Ck.mk (by simp only [List.length_drop, List.length_take, List.length_append, List.length_cons, List.length_nil]; omega) ?_; conv => whnf)
      | (refine Ck.mk (by simp; omega) ?_; conv => whnf))
    exact ⟨_, _, _, _, rfl, hau, hbl, hn⟩
set_option maxHeartbeats 2000000 in
theorem drawIsMeander_ok (l : List UInt8) (v : AV) (h0 : H) (hv : CellsAt h0 v (bytesAV l)) (hl : l.length ≤ 1048576) : AC env 71 [v] h0 fun w h' => ∃ (a b : List Int) (ba bb : Nat), w = .tup [.slice ba 0 a.length a.length, .slice bb 0 b.length b.length] ∧ a.length ≤ 1000 ∧ b.length ≤ 1000 ∧ St h0 h' [(bb, row (ints b)), (ba, row (ints a))] := by
  have hv2 := hv
  rcases hv2 with ⟨rfl, e⟩ | ⟨b, cp, rfl, hb⟩
  all_goals
    refine AC.enter Try.func71 Try.call71 rfl Try.ntmps71 (of_decide_eq_true (by rfl)) ?_
    repeat' (first
      | (refine (l24Two_ok l _ _ hv hl).mono ?_; rintro w h' ⟨a, x, ba, bb, rfl, ⟨n, u, hn5, hu, ea⟩, hbl, hs⟩; have hal : a.length ≤ 12 := (by rw [ea, dyP_size (by omega) hu]; omega); conv => whnf)
      | (refine (sMeanderPartner_ok _ _ _ _ (by first | assumption | exact St.has (by assumption) (by repeat first | exact .head _ | apply List.Mem.tail) | exact St.arg (by assumption) (by assumption)) (by omega)).mono ?_; rintro v h' ⟨bp, rfl, hn⟩; have hs' := St.newCall (by assumption) hn; have hpl := mpD_len a; clear hn; conv => whnf)
      | refine AW.seq ?_
      | (refine AW.region ?_; conv => whnf)
      | refine AW.block ?_
      | (refine AW.skip ?_; conv => whnf)
      | (refine AW.ret ?_; conv => whnf)
      | (refine AW.exit ?_; conv => whnf)
      | refine AW.cond (by rfl) ?_
      | (refine (l24Two_ok l _ _ hv hl).mono ?_; rintro w h' ⟨a, b, ba, bb, rfl, hau, hbl, hn⟩; conv => whnf)
      | (refine (sMeanderPartner_ok _ _ _ _ (by first | assumption | exact St.has (by assumption) (by repeat first | exact .head _ | apply List.Mem.tail) | exact St.arg (by assumption) (by assumption)) (by first | (simp; done) | omega | (simp only [List.length_set, List.length_append, List.length_cons, List.length_nil, List.length_replicate, tab_length]; omega) | (simp; omega))).mono ?_; rintro v h' ⟨b, rfl, hn⟩; have hs' := St.newCall (by assumption) hn; clear hn; conv => whnf)
      | (refine Br.tt ?_; conv => whnf)
      | (refine Br.ff ?_; conv => whnf)
      | refine Br.not ?_
      | (refine Br.t (beq_self_eq_true _) ?_; conv => whnf)
      | (refine Br.t (by assumption) ?_; conv => whnf)
      | (refine Br.f (by assumption) ?_; conv => whnf)
      | (refine Br.dt (by omega) ?_; conv => whnf)
      | (refine Br.df (by omega) ?_; conv => whnf)
      | (refine Br.it (by omega) ?_; conv => whnf)
      | (refine Br.if (by omega) ?_; conv => whnf)
      | (refine Br.nt (by omega) ?_; conv => whnf)
      | (refine Br.nf (by omega) ?_; conv => whnf)
      | (refine Br.dec (fun hc => ?_) (fun hc => ?_) <;> conv => whnf)
      | (refine Br.ieq (fun hc => ?_) (fun hc => ?_) <;> conv => whnf)
      | (refine Br.ine (fun hc => ?_) (fun hc => ?_) <;> conv => whnf)
      | (refine Br.mk (fun hc => ?_) (fun hc => ?_) <;> conv => whnf)
      | (refine Wr.i64 (by omega) ?_; conv => whnf)
      | (refine Ck.mk (by omega) ?_; conv => whnf)
      | (refine Wr.i64 (by simp only [List.length_drop, List.length_take, List.length_append, List.length_cons, List.length_nil]; omega) ?_; conv => whnf)
      | (refine Ck.mk (by simp only [List.length_drop, List.length_take, List.length_append, List.length_cons, List.length_nil]; omega) ?_; conv => whnf)
      | (refine Ck.mk (by simp; omega) ?_; conv => whnf))
    all_goals first
      | exact ⟨a, _, ba, bp, rfl, by omega, by omega, hs'.sub (List.Sublist.cons_cons _ (List.sublist_cons_self _ _))⟩
      | exact ⟨a, x, ba, bb, rfl, by omega, by omega, hs'.sub (List.sublist_cons_self _ _)⟩
theorem drawPartner_ok (l : List UInt8) (v : AV) (h0 : H) (hv : CellsAt h0 v (bytesAV l)) (hl : l.length ≤ 1048576) : AC env 68 [v] h0 fun w h' => ∃ (b : Nat) (y : List Int), w = .slice b 0 y.length y.length ∧ y.length ≤ 12 ∧ St h0 h' [(b, row (ints y))] := by
  have hv2 := hv
  rcases hv2 with ⟨rfl, e⟩ | ⟨b, cp, rfl, hb⟩
  all_goals
    refine AC.enter Try.func68 Try.call68 rfl Try.ntmps68 (of_decide_eq_true (by rfl)) ?_
    repeat' (first
      | (refine (l1New_ok l _ _ hv hl).mono ?_; rintro w h' ⟨c, rfl, hc⟩; conv => whnf)
      | (refine (l9Any_ok _ _ _ _ hc).mono ?_; rintro w h' ⟨bb, y, rfl, hy, hc6⟩; conv => whnf)
      | refine AW.seq ?_
      | (refine AW.region ?_; conv => whnf)
      | refine AW.block ?_
      | (refine AW.skip ?_; conv => whnf)
      | (refine AW.ret ?_; conv => whnf)
      | (refine AW.exit ?_; conv => whnf)
      | refine AW.cond (by rfl) ?_
      | (refine (l1New_ok _ _ _ (by assumption) (by omega)).mono ?_; rintro w h' ⟨c, rfl, hcur⟩; conv => whnf)
      | (refine (l9Any_ok _ _ _ _ (by assumption)).mono ?_; rintro w h' ⟨bN, lN, rfl, hlN, hcur⟩; conv => whnf)
      | (refine Br.tt ?_; conv => whnf)
      | (refine Br.ff ?_; conv => whnf)
      | refine Br.not ?_
      | (refine Br.t (beq_self_eq_true _) ?_; conv => whnf)
      | (refine Br.t (by assumption) ?_; conv => whnf)
      | (refine Br.f (by assumption) ?_; conv => whnf)
      | (refine Br.dt (by omega) ?_; conv => whnf)
      | (refine Br.df (by omega) ?_; conv => whnf)
      | (refine Br.it (by omega) ?_; conv => whnf)
      | (refine Br.if (by omega) ?_; conv => whnf)
      | (refine Br.nt (by omega) ?_; conv => whnf)
      | (refine Br.nf (by omega) ?_; conv => whnf)
      | (refine Br.dec (fun hc => ?_) (fun hc => ?_) <;> conv => whnf)
      | (refine Br.ieq (fun hc => ?_) (fun hc => ?_) <;> conv => whnf)
      | (refine Br.ine (fun hc => ?_) (fun hc => ?_) <;> conv => whnf)
      | (refine Br.mk (fun hc => ?_) (fun hc => ?_) <;> conv => whnf)
      | (refine Wr.i64 (by omega) ?_; conv => whnf)
      | (refine Ck.mk (by omega) ?_; conv => whnf)
      | (refine Wr.i64 (by simp only [List.length_drop, List.length_take, List.length_append, List.length_cons, List.length_nil]; omega) ?_; conv => whnf)
      | (refine Ck.mk (by simp only [List.length_drop, List.length_take, List.length_append, List.length_cons, List.length_nil]; omega) ?_; conv => whnf)
      | (refine Ck.mk (by simp; omega) ?_; conv => whnf))
    exact ⟨bb, y, rfl, hy, hc6.st⟩

end Go.Proofs.Ytdfdlnjijccpeaa
