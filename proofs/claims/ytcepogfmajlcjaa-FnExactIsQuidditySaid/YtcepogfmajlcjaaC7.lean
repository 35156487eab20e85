/-
  Contracts of the diagrams of the identity and of hooks are proved.
  They hold for all arguments.
-/
import Derived.Test.YtcepogfmajlcjaaC6
set_option linter.unusedVariables false
set_option linter.unusedSimpArgs false
namespace Go.Proofs.Ytcepogfmajlcjaa
open Go.Proofs.Ytcepogfmajlcjaa.Ab Go.Proofs.Ytcepogfmajlcjaa.Pl

/-- a row of numbers and whether there is one -/
def RetI (p : List Int × Bool) (h0 : H) (v : AV) (h' : H) : Prop := ∃ b, v = .tup [.slice b 0 p.1.length p.1.length, .bool p.2] ∧ New h0 h' b (ints p.1)

theorem RetI.mk' {p : List Int × Bool} {h0 h' : H} {b n : Nat} {l : List Int} {t : Bool} (e : p = (l, t)) (hn : n = l.length) (m : New h0 h' b (ints l)) : RetI p h0 (.tup [.slice b 0 n n, .bool t]) h' := by
  subst e hn
  exact ⟨b, rfl, m⟩

/-- the diagram that joins each point with the one below -/
def idD (n : Nat) : List Int := tab (2 * n) fun i => 2 * n - 1 - i
def idDI (n : Int) : List Int × Bool := if 1 ≤ n ∧ n ≤ 8 then (idD n.toNat, true) else ([], false)




theorem idDI_len (n : Int) : (idDI n).1.length ≤ 1000 := by
  unfold idDI
  split
  · simp [idD]
    omega
  · simp


/-- the diagram with one hook above and one below -/
def hookD (n i : Nat) : List Int := ((((idD n).set i (i + 1)).set (i + 1) i).set (2 * n - 1 - i) (2 * n - 2 - i)).set (2 * n - 2 - i) (2 * n - 1 - i)
def hookDI (n i : Int) : List Int × Bool := if (1 ≤ n ∧ n ≤ 8) ∧ 0 ≤ i ∧ i ≤ n - 2 then (hookD n.toNat i.toNat, true) else ([], false)

theorem hookDI_len (n i : Int) : (hookDI n i).1.length ≤ 1000 := by
  unfold hookDI
  split
  · simp [hookD, idD]
    omega
  · simp




end Go.Proofs.Ytcepogfmajlcjaa
