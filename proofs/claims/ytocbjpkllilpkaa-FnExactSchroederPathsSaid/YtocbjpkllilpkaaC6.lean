/-
  Contracts of functions that make rows of numbers are proved: rows that are equal, marked and held, and diagrams of the identity and of hooks.
  They hold for all arguments within the sizes that the statements' code allows.
-/
import Derived.Test.YtocbjpkllilpkaaC5
set_option linter.unusedVariables false
set_option linter.unusedSimpArgs false
namespace Go.Proofs.Ytocbjpkllilpkaa
open Go.Proofs.Ytocbjpkllilpkaa.Ab Go.Proofs.Ytocbjpkllilpkaa.Pl

theorem eqIntS_ok (l : List Int) (b c N C D : Nat) (h0 : H) (hb : Has h0 b (ints l)) (hc' : Has h0 c (ints l)) (hN : N = l.length) (hl : N ≤ 1000000000) : AC env 20 [.slice b 0 N C, .slice c 0 N D] h0 fun v h' => v = .bool true ∧ h' = h0 := by
  refine AC.enter Try.func20 Try.call20 rfl Try.ntmps20 (of_decide_eq_true (by rfl)) ?_
  repeat' (first
    | refine AW.seq ?_
    | (refine AW.region ?_; conv => whnf)
    | refine AW.block ?_
    | (refine AW.skip ?_; conv => whnf)
    | (refine AW.ret ?_; conv => whnf)
    | (refine AW.exit ?_; conv => whnf)
    | refine AW.cond (by rfl) ?_
    | (refine AW.draw (id := 6) (.p 0 (.p 1 (.p 2 (.p 4 (.p 5 (.p 6 (.r 3 [8] (.r 7 [8] (.p 8 .done))))))))) (by kernel_rfl) (by kernel_rfl) ?_; conv => whnf)
    | (refine Br.tt ?_; conv => whnf)
    | (refine Br.ff ?_; conv => whnf)
    | refine Br.not ?_
    | (refine Br.t (beq_self_eq_true _) ?_; conv => whnf)
    | (refine Br.t (by assumption) ?_; conv => whnf)
    | (refine Br.f (by assumption) ?_; conv => whnf)
    | (refine Br.dt (by omega) ?_; conv => whnf)
    | (refine Br.df (by omega) ?_; conv => whnf)
    | (refine Br.it (by omega) ?_; conv => whnf)
    | (refine Br.if (by omega) ?_; conv => whnf)
    | (refine Br.nt (by omega) ?_; conv => whnf)
    | (refine Br.nf (by omega) ?_; conv => whnf)
    | (refine Br.dec (fun hc => ?_) (fun hc => ?_) <;> conv => whnf)
    | (refine Br.ieq (fun hc => ?_) (fun hc => ?_) <;> conv => whnf)
    | (refine Br.ine (fun hc => ?_) (fun hc => ?_) <;> conv => whnf)
    | (refine Br.mk (fun hc => ?_) (fun hc => ?_) <;> conv => whnf)
    | (refine Wr.i64 (by omega) ?_; conv => whnf)
    | (refine Ck.mk (by omega) ?_; conv => whnf)
    | (refine Wr.i64 (by simp only [List.length_drop, List.length_take, List.length_append, List.length_cons, List.length_nil]; omega) ?_; conv => whnf)
    | (refine Ck.mk (by simp only [List.length_drop, List.length_take, List.length_append, List.length_cons, List.length_nil]; omega) ?_; conv => whnf)
    | (refine NewG.zeros rfl (fun bt h' hbt hn' => ?_); conv => whnf)
    | (refine NewG.mk (fun bt hbt => ?_); conv => whnf)
    | (refine LoadsG.made (by rfl) ?_; conv => whnf)
    | (refine New.appI (New.upd (by assumption) (by assumption) _) (by first | rfl | (simp; done) | omega | (simp; omega)) (by first | (simp; done) | omega | (simp; omega)) (by decide) (fun b' h' hn' ho' => ?_); conv => whnf)
    | (refine New.loadZ (by assumption) rfl (by first | (simp; done) | omega | (simp only [List.length_set, tab_length]; omega) | (simp; omega)) ?_; conv => whnf)
    | (refine Has.loadZ (by assumption) rfl (by first | (simp; done) | omega | (simp only [List.length_set, tab_length]; omega) | (simp; omega)) ?_; conv => whnf)
    | (refine New.storeZ (by assumption) rfl (by first | (simp; done) | omega | (simp only [List.length_set, tab_length]; omega) | (simp; omega)) (fun h' hn' ho' => ?_); conv => whnf)
    | (refine Own.storeZ (by assumption) rfl (by first | (simp; done) | omega | (simp only [List.length_set, tab_length]; omega) | (simp; omega)) (fun h' hn' ho' => ?_); conv => whnf)
    | (refine Wr.u8 (by omega) ?_; conv => whnf)
    | (refine Wr.u32 (by omega) ?_; conv => whnf)
    | (refine Wr.u64 (by omega) ?_; conv => whnf)
    | (refine New.loadS (by assumption) rfl (by first | (simp; done) | omega | (simp only [List.length_set, tab_length]; omega) | (simp; omega)) ?_; conv => whnf)
    | (refine Has.loadS (by assumption) rfl (by first | (simp; done) | omega | (simp only [List.length_set, tab_length]; omega) | (simp; omega)) ?_; conv => whnf)
    | (refine Own.storeS (by assumption) rfl (by first | (simp; done) | omega | (simp only [List.length_set, tab_length]; omega) | (simp; omega)) (fun h' hn' ho' => ?_); conv => whnf)
    | (refine New.appS (New.upd (by assumption) (by assumption) _) (by first | rfl | (simp; done) | omega | (simp; omega)) (by first | (simp; done) | omega | (simp; omega)) (by decide) (fun b' h' hn' ho' => ?_); conv => whnf)
    | (refine Ck.slice (by omega) (by omega) (by omega) (by decide) ?_; conv => whnf)
    | (refine Ck.mk (by simp; omega) ?_; conv => whnf))
  refine AW.loop1 (fun (k : Nat) => [(0, .slice b 0 N C), (1, .slice c 0 N D), (5, .int .i64 k)]) (fun k h' => k ≤ N ∧ h' = h0) (fun k => N - k) 0 (Less.cons rfl (Less.cons rfl (Less.cons rfl (Less.nil _)))) ⟨by omega, rfl⟩ ?_
  rintro k h' ⟨hk, rfl⟩
  repeat' (first
    | refine AW.seq ?_
    | (refine AW.region ?_; conv => whnf)
    | refine AW.block ?_
    | (refine AW.skip ?_; conv => whnf)
    | (refine AW.ret ?_; conv => whnf)
    | (refine AW.exit ?_; conv => whnf)
    | refine AW.cond (by rfl) ?_
    | (refine AW.draw (id := 6) (.p 0 (.p 1 (.p 2 (.p 4 (.p 5 (.p 6 (.r 3 [8] (.r 7 [8] (.p 8 .done))))))))) (by kernel_rfl) (by kernel_rfl) ?_; conv => whnf)
    | (refine Br.tt ?_; conv => whnf)
    | (refine Br.ff ?_; conv => whnf)
    | refine Br.not ?_
    | (refine Br.t (beq_self_eq_true _) ?_; conv => whnf)
    | (refine Br.t (by assumption) ?_; conv => whnf)
    | (refine Br.f (by assumption) ?_; conv => whnf)
    | (refine Br.dt (by omega) ?_; conv => whnf)
    | (refine Br.df (by omega) ?_; conv => whnf)
    | (refine Br.it (by omega) ?_; conv => whnf)
    | (refine Br.if (by omega) ?_; conv => whnf)
    | (refine Br.nt (by omega) ?_; conv => whnf)
    | (refine Br.nf (by omega) ?_; conv => whnf)
    | (refine Br.dec (fun hc => ?_) (fun hc => ?_) <;> conv => whnf)
    | (refine Br.ieq (fun hc => ?_) (fun hc => ?_) <;> conv => whnf)
    | (refine Br.ine (fun hc => ?_) (fun hc => ?_) <;> conv => whnf)
    | (refine Br.mk (fun hc => ?_) (fun hc => ?_) <;> conv => whnf)
    | (refine Wr.i64 (by omega) ?_; conv => whnf)
    | (refine Ck.mk (by omega) ?_; conv => whnf)
    | (refine Wr.i64 (by simp only [List.length_drop, List.length_take, List.length_append, List.length_cons, List.length_nil]; omega) ?_; conv => whnf)
    | (refine Ck.mk (by simp only [List.length_drop, List.length_take, List.length_append, List.length_cons, List.length_nil]; omega) ?_; conv => whnf)
    | (refine NewG.zeros rfl (fun bt h' hbt hn' => ?_); conv => whnf)
    | (refine NewG.mk (fun bt hbt => ?_); conv => whnf)
    | (refine LoadsG.made (by rfl) ?_; conv => whnf)
    | (refine New.appI (New.upd (by assumption) (by assumption) _) (by first | rfl | (simp; done) | omega | (simp; omega)) (by first | (simp; done) | omega | (simp; omega)) (by decide) (fun b' h' hn' ho' => ?_); conv => whnf)
    | (refine New.loadZ (by assumption) rfl (by first | (simp; done) | omega | (simp only [List.length_set, tab_length]; omega) | (simp; omega)) ?_; conv => whnf)
    | (refine Has.loadZ (by assumption) rfl (by first | (simp; done) | omega | (simp only [List.length_set, tab_length]; omega) | (simp; omega)) ?_; conv => whnf)
    | (refine New.storeZ (by assumption) rfl (by first | (simp; done) | omega | (simp only [List.length_set, tab_length]; omega) | (simp; omega)) (fun h' hn' ho' => ?_); conv => whnf)
    | (refine Own.storeZ (by assumption) rfl (by first | (simp; done) | omega | (simp only [List.length_set, tab_length]; omega) | (simp; omega)) (fun h' hn' ho' => ?_); conv => whnf)
    | (refine Wr.u8 (by omega) ?_; conv => whnf)
    | (refine Wr.u32 (by omega) ?_; conv => whnf)
    | (refine Wr.u64 (by omega) ?_; conv => whnf)
    | (refine New.loadS (by assumption) rfl (by first | (simp; done) | omega | (simp only [List.length_set, tab_length]; omega) | (simp; omega)) ?_; conv => whnf)
    | (refine Has.loadS (by assumption) rfl (by first | (simp; done) | omega | (simp only [List.length_set, tab_length]; omega) | (simp; omega)) ?_; conv => whnf)
    | (refine Own.storeS (by assumption) rfl (by first | (simp; done) | omega | (simp only [List.length_set, tab_length]; omega) | (simp; omega)) (fun h' hn' ho' => ?_); conv => whnf)
    | (refine New.appS (New.upd (by assumption) (by assumption) _) (by first | rfl | (simp; done) | omega | (simp; omega)) (by first | (simp; done) | omega | (simp; omega)) (by decide) (fun b' h' hn' ho' => ?_); conv => whnf)
    | (refine Ck.slice (by omega) (by omega) (by omega) (by decide) ?_; conv => whnf)
    | (refine Ck.mk (by simp; omega) ?_; conv => whnf))
  · exact ⟨k + 1, (Less.cons rfl (Less.cons rfl (Less.cons rfl (Less.nil _)))), ⟨by omega, rfl⟩, by omega⟩
  · exact ⟨rfl, rfl⟩

/-- marked rows -/
def iota (k : Int) (n : Nat) : List Int := tab n fun j => k + j



end Go.Proofs.Ytocbjpkllilpkaa
