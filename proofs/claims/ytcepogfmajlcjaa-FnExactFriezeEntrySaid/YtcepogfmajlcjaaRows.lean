/-
  No cell of these rows narrows 'for every input' (looked for: loops, veiled, ifaces, maps, wideKeys, modest, calm, conditions, laid).
  DERIVED. THE GIVEN ROWS OF THIS SEAT. 12 by the template 'for every input the law returns true; each argument reads behind the call as it read before'; 0 by the template 'total and deterministic' (their statements: YtcepogfmajlcjaaTotals.lean).
  GIVEN WITH THE SEED: the statements are not yours to turn. If you find one false, say at which input.
  Laid BY PROGRAM, IN A SANDBOX (cutbox-rows.mjs): the forced cells as the released guide's own fill.sh prints them over the translation 59ff974d12a83164… (all of the seat's roots in one cut). By AI agents, Wed Nov 11 2026. No macro, syntax, notation, axiom, sorry.
-/
import Derived.Test.YtcepogfmajlcjaaChecked
import GoSem.Claim
import GoSem.ClaimJoined
import GoSem.ClaimMapViews
import Derived.JoinedTies
import Derived.KernelRfl
namespace Go.Proofs.Ytcepogfmajlcjaa
/- THE CELL 'sum', in the pinned program and in every row, IS THE sha256 OF THE DUMP (.gsa) THAT YtcepogfmajlcjaaProg.lean LOADS. Nothing in Lean hashes anything: it is a label: what it is worth is what the hold of that sum in a sandbox is worth. -/
noncomputable def Try.pinned : Pinned := { name := "ytcepogfmajlcjaa", sum := "59ff974d12a83164587450271c4b9fb5066ebffb45184ffcd8b82e1b6234e094", checked := Try.checked }
namespace Rows
def none {H : Type} : Left H := { results := [], args := [] }

/-- 'laws.FnExactSchroederNumber': WHATEVER THE INPUT: true; the input reads as it did. -/
def fnExactSchroederNumberSpec : ChangeSpec := { name := "fnExactSchroederNumber", fn := fun _ => fun
  | [d] => { results := [.lit (.bool true)], args := [d] }
  | _ => none }
def fnExactSchroederNumberRow : OpenClaim := { program := "ytcepogfmajlcjaa", sum := "59ff974d12a83164587450271c4b9fb5066ebffb45184ffcd8b82e1b6234e094", func := "loop.example/g03401/laws.FnExactSchroederNumber", spec := "fnExactSchroederNumber", unfollowed := true, recurses := true, plainKeys := false, apart := false }
def FnExactSchroederNumberSaid : Prop := fnExactSchroederNumberRow.holds Try.pinned (OpenSpec.ofChange fnExactSchroederNumberSpec)

/-- ITS FALSE NEIGHBOUR: 'it returns false'. Refute it at one input. -/
def fnExactSchroederNumberWrong : ChangeSpec := { name := "fnExactSchroederNumber", fn := fun _ => fun
  | [d] => { results := [.lit (.bool false)], args := [d] }
  | _ => none }
def FnExactSchroederNumberWrongFalsely : Prop := fnExactSchroederNumberRow.holds Try.pinned (OpenSpec.ofChange fnExactSchroederNumberWrong)

/-- 'laws.FnExactIsQuiddity': WHATEVER THE INPUT: true; the input reads as it did. -/
def fnExactIsQuidditySpec : ChangeSpec := { name := "fnExactIsQuiddity", fn := fun _ => fun
  | [d] => { results := [.lit (.bool true)], args := [d] }
  | _ => none }
def fnExactIsQuiddityRow : OpenClaim := { program := "ytcepogfmajlcjaa", sum := "59ff974d12a83164587450271c4b9fb5066ebffb45184ffcd8b82e1b6234e094", func := "loop.example/g03401/laws.FnExactIsQuiddity", spec := "fnExactIsQuiddity", plainKeys := false, apart := false }
def FnExactIsQuidditySaid : Prop := fnExactIsQuiddityRow.holds Try.pinned (OpenSpec.ofChange fnExactIsQuidditySpec)

/-- ITS FALSE NEIGHBOUR: 'it returns false'. Refute it at one input. -/
def fnExactIsQuiddityWrong : ChangeSpec := { name := "fnExactIsQuiddity", fn := fun _ => fun
  | [d] => { results := [.lit (.bool false)], args := [d] }
  | _ => none }
def FnExactIsQuiddityWrongFalsely : Prop := fnExactIsQuiddityRow.holds Try.pinned (OpenSpec.ofChange fnExactIsQuiddityWrong)

/-- 'laws.FnExactFriezeOf': WHATEVER THE INPUT: true; the input reads as it did. -/
def fnExactFriezeOfSpec : ChangeSpec := { name := "fnExactFriezeOf", fn := fun _ => fun
  | [d] => { results := [.lit (.bool true)], args := [d] }
  | _ => none }
def fnExactFriezeOfRow : OpenClaim := { program := "ytcepogfmajlcjaa", sum := "59ff974d12a83164587450271c4b9fb5066ebffb45184ffcd8b82e1b6234e094", func := "loop.example/g03401/laws.FnExactFriezeOf", spec := "fnExactFriezeOf", plainKeys := false, apart := false }
def FnExactFriezeOfSaid : Prop := fnExactFriezeOfRow.holds Try.pinned (OpenSpec.ofChange fnExactFriezeOfSpec)

/-- ITS FALSE NEIGHBOUR: 'it returns false'. Refute it at one input. -/
def fnExactFriezeOfWrong : ChangeSpec := { name := "fnExactFriezeOf", fn := fun _ => fun
  | [d] => { results := [.lit (.bool false)], args := [d] }
  | _ => none }
def FnExactFriezeOfWrongFalsely : Prop := fnExactFriezeOfRow.holds Try.pinned (OpenSpec.ofChange fnExactFriezeOfWrong)

/-- 'laws.FnExactFanOf': WHATEVER THE INPUT: true; the input reads as it did. -/
def fnExactFanOfSpec : ChangeSpec := { name := "fnExactFanOf", fn := fun _ => fun
  | [d1, d2] => { results := [.lit (.bool true)], args := [d1, d2] }
  | _ => none }
def fnExactFanOfRow : OpenClaim := { program := "ytcepogfmajlcjaa", sum := "59ff974d12a83164587450271c4b9fb5066ebffb45184ffcd8b82e1b6234e094", func := "loop.example/g03401/laws.FnExactFanOf", spec := "fnExactFanOf", unfollowed := true, recurses := true, plainKeys := false, apart := false }
def FnExactFanOfSaid : Prop := fnExactFanOfRow.holds Try.pinned (OpenSpec.ofChange fnExactFanOfSpec)

/-- ITS FALSE NEIGHBOUR: 'it returns false'. Refute it at one input. -/
def fnExactFanOfWrong : ChangeSpec := { name := "fnExactFanOf", fn := fun _ => fun
  | [d1, d2] => { results := [.lit (.bool false)], args := [d1, d2] }
  | _ => none }
def FnExactFanOfWrongFalsely : Prop := fnExactFanOfRow.holds Try.pinned (OpenSpec.ofChange fnExactFanOfWrong)

/-- 'laws.FnExactCommonDiagonals': WHATEVER THE INPUT: true; the input reads as it did. -/
def fnExactCommonDiagonalsSpec : ChangeSpec := { name := "fnExactCommonDiagonals", fn := fun _ => fun
  | [d1, d2] => { results := [.lit (.bool true)], args := [d1, d2] }
  | _ => none }
def fnExactCommonDiagonalsRow : OpenClaim := { program := "ytcepogfmajlcjaa", sum := "59ff974d12a83164587450271c4b9fb5066ebffb45184ffcd8b82e1b6234e094", func := "loop.example/g03401/laws.FnExactCommonDiagonals", spec := "fnExactCommonDiagonals", unfollowed := true, recurses := true, plainKeys := false, apart := false }
def FnExactCommonDiagonalsSaid : Prop := fnExactCommonDiagonalsRow.holds Try.pinned (OpenSpec.ofChange fnExactCommonDiagonalsSpec)

/-- ITS FALSE NEIGHBOUR: 'it returns false'. Refute it at one input. -/
def fnExactCommonDiagonalsWrong : ChangeSpec := { name := "fnExactCommonDiagonals", fn := fun _ => fun
  | [d1, d2] => { results := [.lit (.bool false)], args := [d1, d2] }
  | _ => none }
def FnExactCommonDiagonalsWrongFalsely : Prop := fnExactCommonDiagonalsRow.holds Try.pinned (OpenSpec.ofChange fnExactCommonDiagonalsWrong)

/-- 'laws.FnExactTriangulationOfQuiddity': WHATEVER THE INPUT: true; the input reads as it did. -/
def fnExactTriangulationOfQuidditySpec : ChangeSpec := { name := "fnExactTriangulationOfQuiddity", fn := fun _ => fun
  | [d] => { results := [.lit (.bool true)], args := [d] }
  | _ => none }
def fnExactTriangulationOfQuiddityRow : OpenClaim := { program := "ytcepogfmajlcjaa", sum := "59ff974d12a83164587450271c4b9fb5066ebffb45184ffcd8b82e1b6234e094", func := "loop.example/g03401/laws.FnExactTriangulationOfQuiddity", spec := "fnExactTriangulationOfQuiddity", unfollowed := true, recurses := true, plainKeys := false, apart := false }
def FnExactTriangulationOfQuidditySaid : Prop := fnExactTriangulationOfQuiddityRow.holds Try.pinned (OpenSpec.ofChange fnExactTriangulationOfQuidditySpec)

/-- ITS FALSE NEIGHBOUR: 'it returns false'. Refute it at one input. -/
def fnExactTriangulationOfQuiddityWrong : ChangeSpec := { name := "fnExactTriangulationOfQuiddity", fn := fun _ => fun
  | [d] => { results := [.lit (.bool false)], args := [d] }
  | _ => none }
def FnExactTriangulationOfQuiddityWrongFalsely : Prop := fnExactTriangulationOfQuiddityRow.holds Try.pinned (OpenSpec.ofChange fnExactTriangulationOfQuiddityWrong)

/-- 'laws.FnExactFlipDiagonal': WHATEVER THE INPUT: true; the input reads as it did. -/
def fnExactFlipDiagonalSpec : ChangeSpec := { name := "fnExactFlipDiagonal", fn := fun _ => fun
  | [d1, d2, d3] => { results := [.lit (.bool true)], args := [d1, d2, d3] }
  | _ => none }
def fnExactFlipDiagonalRow : OpenClaim := { program := "ytcepogfmajlcjaa", sum := "59ff974d12a83164587450271c4b9fb5066ebffb45184ffcd8b82e1b6234e094", func := "loop.example/g03401/laws.FnExactFlipDiagonal", spec := "fnExactFlipDiagonal", unfollowed := true, recurses := true, plainKeys := false, apart := false }
def FnExactFlipDiagonalSaid : Prop := fnExactFlipDiagonalRow.holds Try.pinned (OpenSpec.ofChange fnExactFlipDiagonalSpec)

/-- ITS FALSE NEIGHBOUR: 'it returns false'. Refute it at one input. -/
def fnExactFlipDiagonalWrong : ChangeSpec := { name := "fnExactFlipDiagonal", fn := fun _ => fun
  | [d1, d2, d3] => { results := [.lit (.bool false)], args := [d1, d2, d3] }
  | _ => none }
def FnExactFlipDiagonalWrongFalsely : Prop := fnExactFlipDiagonalRow.holds Try.pinned (OpenSpec.ofChange fnExactFlipDiagonalWrong)

/-- 'laws.FnExactQuiddityOf': WHATEVER THE INPUT: true; the input reads as it did. -/
def fnExactQuiddityOfSpec : ChangeSpec := { name := "fnExactQuiddityOf", fn := fun _ => fun
  | [d1, d2] => { results := [.lit (.bool true)], args := [d1, d2] }
  | _ => none }
def fnExactQuiddityOfRow : OpenClaim := { program := "ytcepogfmajlcjaa", sum := "59ff974d12a83164587450271c4b9fb5066ebffb45184ffcd8b82e1b6234e094", func := "loop.example/g03401/laws.FnExactQuiddityOf", spec := "fnExactQuiddityOf", unfollowed := true, recurses := true, plainKeys := false, apart := false }
def FnExactQuiddityOfSaid : Prop := fnExactQuiddityOfRow.holds Try.pinned (OpenSpec.ofChange fnExactQuiddityOfSpec)

/-- ITS FALSE NEIGHBOUR: 'it returns false'. Refute it at one input. -/
def fnExactQuiddityOfWrong : ChangeSpec := { name := "fnExactQuiddityOf", fn := fun _ => fun
  | [d1, d2] => { results := [.lit (.bool false)], args := [d1, d2] }
  | _ => none }
def FnExactQuiddityOfWrongFalsely : Prop := fnExactQuiddityOfRow.holds Try.pinned (OpenSpec.ofChange fnExactQuiddityOfWrong)

/-- 'laws.FnExactFriezeEntry': WHATEVER THE INPUT: true; the input reads as it did. -/
def fnExactFriezeEntrySpec : ChangeSpec := { name := "fnExactFriezeEntry", fn := fun _ => fun
  | [d1, d2, d3, d4] => { results := [.lit (.bool true)], args := [d1, d2, d3, d4] }
  | _ => none }
def fnExactFriezeEntryRow : OpenClaim := { program := "ytcepogfmajlcjaa", sum := "59ff974d12a83164587450271c4b9fb5066ebffb45184ffcd8b82e1b6234e094", func := "loop.example/g03401/laws.FnExactFriezeEntry", spec := "fnExactFriezeEntry", unfollowed := true, recurses := true, plainKeys := false, apart := false }
def FnExactFriezeEntrySaid : Prop := fnExactFriezeEntryRow.holds Try.pinned (OpenSpec.ofChange fnExactFriezeEntrySpec)

/-- ITS FALSE NEIGHBOUR: 'it returns false'. Refute it at one input. -/
def fnExactFriezeEntryWrong : ChangeSpec := { name := "fnExactFriezeEntry", fn := fun _ => fun
  | [d1, d2, d3, d4] => { results := [.lit (.bool false)], args := [d1, d2, d3, d4] }
  | _ => none }
def FnExactFriezeEntryWrongFalsely : Prop := fnExactFriezeEntryRow.holds Try.pinned (OpenSpec.ofChange fnExactFriezeEntryWrong)

/-- 'laws.FnExactFlipNeighbours': WHATEVER THE INPUT: true; the input reads as it did. -/
def fnExactFlipNeighboursSpec : ChangeSpec := { name := "fnExactFlipNeighbours", fn := fun _ => fun
  | [d1, d2] => { results := [.lit (.bool true)], args := [d1, d2] }
  | _ => none }
def fnExactFlipNeighboursRow : OpenClaim := { program := "ytcepogfmajlcjaa", sum := "59ff974d12a83164587450271c4b9fb5066ebffb45184ffcd8b82e1b6234e094", func := "loop.example/g03401/laws.FnExactFlipNeighbours", spec := "fnExactFlipNeighbours", unfollowed := true, recurses := true, plainKeys := false, apart := false }
def FnExactFlipNeighboursSaid : Prop := fnExactFlipNeighboursRow.holds Try.pinned (OpenSpec.ofChange fnExactFlipNeighboursSpec)

/-- ITS FALSE NEIGHBOUR: 'it returns false'. Refute it at one input. -/
def fnExactFlipNeighboursWrong : ChangeSpec := { name := "fnExactFlipNeighbours", fn := fun _ => fun
  | [d1, d2] => { results := [.lit (.bool false)], args := [d1, d2] }
  | _ => none }
def FnExactFlipNeighboursWrongFalsely : Prop := fnExactFlipNeighboursRow.holds Try.pinned (OpenSpec.ofChange fnExactFlipNeighboursWrong)

/-- 'laws.FnExactFlipsToFan': WHATEVER THE INPUT: true; the input reads as it did. -/
def fnExactFlipsToFanSpec : ChangeSpec := { name := "fnExactFlipsToFan", fn := fun _ => fun
  | [d1, d2, d3] => { results := [.lit (.bool true)], args := [d1, d2, d3] }
  | _ => none }
def fnExactFlipsToFanRow : OpenClaim := { program := "ytcepogfmajlcjaa", sum := "59ff974d12a83164587450271c4b9fb5066ebffb45184ffcd8b82e1b6234e094", func := "loop.example/g03401/laws.FnExactFlipsToFan", spec := "fnExactFlipsToFan", unfollowed := true, recurses := true, plainKeys := false, apart := false }
def FnExactFlipsToFanSaid : Prop := fnExactFlipsToFanRow.holds Try.pinned (OpenSpec.ofChange fnExactFlipsToFanSpec)

/-- ITS FALSE NEIGHBOUR: 'it returns false'. Refute it at one input. -/
def fnExactFlipsToFanWrong : ChangeSpec := { name := "fnExactFlipsToFan", fn := fun _ => fun
  | [d1, d2, d3] => { results := [.lit (.bool false)], args := [d1, d2, d3] }
  | _ => none }
def FnExactFlipsToFanWrongFalsely : Prop := fnExactFlipsToFanRow.holds Try.pinned (OpenSpec.ofChange fnExactFlipsToFanWrong)

/-- 'laws.FnExactFlipsBetween': WHATEVER THE INPUT: true; the input reads as it did. -/
def fnExactFlipsBetweenSpec : ChangeSpec := { name := "fnExactFlipsBetween", fn := fun _ => fun
  | [d1, d2, d3] => { results := [.lit (.bool true)], args := [d1, d2, d3] }
  | _ => none }
def fnExactFlipsBetweenRow : OpenClaim := { program := "ytcepogfmajlcjaa", sum := "59ff974d12a83164587450271c4b9fb5066ebffb45184ffcd8b82e1b6234e094", func := "loop.example/g03401/laws.FnExactFlipsBetween", spec := "fnExactFlipsBetween", unfollowed := true, recurses := true, plainKeys := false, apart := false }
def FnExactFlipsBetweenSaid : Prop := fnExactFlipsBetweenRow.holds Try.pinned (OpenSpec.ofChange fnExactFlipsBetweenSpec)

/-- ITS FALSE NEIGHBOUR: 'it returns false'. Refute it at one input. -/
def fnExactFlipsBetweenWrong : ChangeSpec := { name := "fnExactFlipsBetween", fn := fun _ => fun
  | [d1, d2, d3] => { results := [.lit (.bool false)], args := [d1, d2, d3] }
  | _ => none }
def FnExactFlipsBetweenWrongFalsely : Prop := fnExactFlipsBetweenRow.holds Try.pinned (OpenSpec.ofChange fnExactFlipsBetweenWrong)

/- THE SECOND FORM. 'bulk': how many values and letters a reading holds, each counted each time it is reached (what is shared counts as often as it is met; a slice's spare places count too). A statement '..UptoSaid' is the law's where the arguments, and the package variables that the reading takes, are together of bulk at most 1048576: NARROWER than '..Said'. Prove '..Said' where nothing that the law and all that it calls make is longer than what came in: it says more and counts as full. Else prove '..UptoSaid'. A law counts once. -/
mutual
def uptoBulk {H : Type} : DataW H → Nat
  | .lit (.string bytes) => bytes.length + 1
  | .lit _ => 1
  | .nil => 1
  | .ptr d => uptoBulk d + 1
  | .slice elems spare => uptoBulkAll elems + uptoBulkAll spare + 1
  | .agg parts => uptoBulkAll parts + 1
  | .iface _ d => uptoBulk d + 1
  | .map entries => uptoBulkEntries entries + 1
  | .held _ => 1
def uptoBulkAll {H : Type} : List (DataW H) → Nat
  | [] => 0
  | d :: r => uptoBulk d + uptoBulkAll r
def uptoBulkEntries {H : Type} : List (Lit × DataW H) → Nat
  | [] => 0
  | x :: r => uptoBulkEntry x + uptoBulkEntries r
def uptoBulkEntry {H : Type} : Lit × DataW H → Nat
  | (.string bytes, d) => bytes.length + uptoBulk d + 1
  | (_, d) => uptoBulk d + 1
 end
def uptoSmall : (H : Type) → List (DataW H) → Bool := fun _ ds => decide (uptoBulkAll ds ≤ 1048576)
def OpenSpec.upto (s : _root_.Go.ChangeSpec) : _root_.Go.OpenSpec := { _root_.Go.OpenSpec.ofChange s with cond := some uptoSmall }

/-- 'laws.FnExactSchroederNumber', WHERE WHAT IT READS IS OF BULK AT MOST 1048576: true; the input reads as it did. -/
def fnExactSchroederNumberUptoRow : OpenClaim := { program := "ytcepogfmajlcjaa", sum := "59ff974d12a83164587450271c4b9fb5066ebffb45184ffcd8b82e1b6234e094", func := "loop.example/g03401/laws.FnExactSchroederNumber", spec := "fnExactSchroederNumber", unfollowed := true, recurses := true, plainKeys := false, apart := false, narrowed := true }
def FnExactSchroederNumberUptoSaid : Prop := fnExactSchroederNumberUptoRow.holds Try.pinned (OpenSpec.upto fnExactSchroederNumberSpec)

/-- 'laws.FnExactIsQuiddity', WHERE WHAT IT READS IS OF BULK AT MOST 1048576: true; the input reads as it did. -/
def fnExactIsQuiddityUptoRow : OpenClaim := { program := "ytcepogfmajlcjaa", sum := "59ff974d12a83164587450271c4b9fb5066ebffb45184ffcd8b82e1b6234e094", func := "loop.example/g03401/laws.FnExactIsQuiddity", spec := "fnExactIsQuiddity", plainKeys := false, apart := false, narrowed := true }
def FnExactIsQuiddityUptoSaid : Prop := fnExactIsQuiddityUptoRow.holds Try.pinned (OpenSpec.upto fnExactIsQuidditySpec)

/-- 'laws.FnExactFriezeOf', WHERE WHAT IT READS IS OF BULK AT MOST 1048576: true; the input reads as it did. -/
def fnExactFriezeOfUptoRow : OpenClaim := { program := "ytcepogfmajlcjaa", sum := "59ff974d12a83164587450271c4b9fb5066ebffb45184ffcd8b82e1b6234e094", func := "loop.example/g03401/laws.FnExactFriezeOf", spec := "fnExactFriezeOf", plainKeys := false, apart := false, narrowed := true }
def FnExactFriezeOfUptoSaid : Prop := fnExactFriezeOfUptoRow.holds Try.pinned (OpenSpec.upto fnExactFriezeOfSpec)

/-- 'laws.FnExactFanOf', WHERE WHAT IT READS IS OF BULK AT MOST 1048576: true; the input reads as it did. -/
def fnExactFanOfUptoRow : OpenClaim := { program := "ytcepogfmajlcjaa", sum := "59ff974d12a83164587450271c4b9fb5066ebffb45184ffcd8b82e1b6234e094", func := "loop.example/g03401/laws.FnExactFanOf", spec := "fnExactFanOf", unfollowed := true, recurses := true, plainKeys := false, apart := false, narrowed := true }
def FnExactFanOfUptoSaid : Prop := fnExactFanOfUptoRow.holds Try.pinned (OpenSpec.upto fnExactFanOfSpec)

/-- 'laws.FnExactCommonDiagonals', WHERE WHAT IT READS IS OF BULK AT MOST 1048576: true; the input reads as it did. -/
def fnExactCommonDiagonalsUptoRow : OpenClaim := { program := "ytcepogfmajlcjaa", sum := "59ff974d12a83164587450271c4b9fb5066ebffb45184ffcd8b82e1b6234e094", func := "loop.example/g03401/laws.FnExactCommonDiagonals", spec := "fnExactCommonDiagonals", unfollowed := true, recurses := true, plainKeys := false, apart := false, narrowed := true }
def FnExactCommonDiagonalsUptoSaid : Prop := fnExactCommonDiagonalsUptoRow.holds Try.pinned (OpenSpec.upto fnExactCommonDiagonalsSpec)

/-- 'laws.FnExactTriangulationOfQuiddity', WHERE WHAT IT READS IS OF BULK AT MOST 1048576: true; the input reads as it did. -/
def fnExactTriangulationOfQuiddityUptoRow : OpenClaim := { program := "ytcepogfmajlcjaa", sum := "59ff974d12a83164587450271c4b9fb5066ebffb45184ffcd8b82e1b6234e094", func := "loop.example/g03401/laws.FnExactTriangulationOfQuiddity", spec := "fnExactTriangulationOfQuiddity", unfollowed := true, recurses := true, plainKeys := false, apart := false, narrowed := true }
def FnExactTriangulationOfQuiddityUptoSaid : Prop := fnExactTriangulationOfQuiddityUptoRow.holds Try.pinned (OpenSpec.upto fnExactTriangulationOfQuidditySpec)

/-- 'laws.FnExactFlipDiagonal', WHERE WHAT IT READS IS OF BULK AT MOST 1048576: true; the input reads as it did. -/
def fnExactFlipDiagonalUptoRow : OpenClaim := { program := "ytcepogfmajlcjaa", sum := "59ff974d12a83164587450271c4b9fb5066ebffb45184ffcd8b82e1b6234e094", func := "loop.example/g03401/laws.FnExactFlipDiagonal", spec := "fnExactFlipDiagonal", unfollowed := true, recurses := true, plainKeys := false, apart := false, narrowed := true }
def FnExactFlipDiagonalUptoSaid : Prop := fnExactFlipDiagonalUptoRow.holds Try.pinned (OpenSpec.upto fnExactFlipDiagonalSpec)

/-- 'laws.FnExactQuiddityOf', WHERE WHAT IT READS IS OF BULK AT MOST 1048576: true; the input reads as it did. -/
def fnExactQuiddityOfUptoRow : OpenClaim := { program := "ytcepogfmajlcjaa", sum := "59ff974d12a83164587450271c4b9fb5066ebffb45184ffcd8b82e1b6234e094", func := "loop.example/g03401/laws.FnExactQuiddityOf", spec := "fnExactQuiddityOf", unfollowed := true, recurses := true, plainKeys := false, apart := false, narrowed := true }
def FnExactQuiddityOfUptoSaid : Prop := fnExactQuiddityOfUptoRow.holds Try.pinned (OpenSpec.upto fnExactQuiddityOfSpec)

/-- 'laws.FnExactFriezeEntry', WHERE WHAT IT READS IS OF BULK AT MOST 1048576: true; the input reads as it did. -/
def fnExactFriezeEntryUptoRow : OpenClaim := { program := "ytcepogfmajlcjaa", sum := "59ff974d12a83164587450271c4b9fb5066ebffb45184ffcd8b82e1b6234e094", func := "loop.example/g03401/laws.FnExactFriezeEntry", spec := "fnExactFriezeEntry", unfollowed := true, recurses := true, plainKeys := false, apart := false, narrowed := true }
def FnExactFriezeEntryUptoSaid : Prop := fnExactFriezeEntryUptoRow.holds Try.pinned (OpenSpec.upto fnExactFriezeEntrySpec)

/-- 'laws.FnExactFlipNeighbours', WHERE WHAT IT READS IS OF BULK AT MOST 1048576: true; the input reads as it did. -/
def fnExactFlipNeighboursUptoRow : OpenClaim := { program := "ytcepogfmajlcjaa", sum := "59ff974d12a83164587450271c4b9fb5066ebffb45184ffcd8b82e1b6234e094", func := "loop.example/g03401/laws.FnExactFlipNeighbours", spec := "fnExactFlipNeighbours", unfollowed := true, recurses := true, plainKeys := false, apart := false, narrowed := true }
def FnExactFlipNeighboursUptoSaid : Prop := fnExactFlipNeighboursUptoRow.holds Try.pinned (OpenSpec.upto fnExactFlipNeighboursSpec)

/-- 'laws.FnExactFlipsToFan', WHERE WHAT IT READS IS OF BULK AT MOST 1048576: true; the input reads as it did. -/
def fnExactFlipsToFanUptoRow : OpenClaim := { program := "ytcepogfmajlcjaa", sum := "59ff974d12a83164587450271c4b9fb5066ebffb45184ffcd8b82e1b6234e094", func := "loop.example/g03401/laws.FnExactFlipsToFan", spec := "fnExactFlipsToFan", unfollowed := true, recurses := true, plainKeys := false, apart := false, narrowed := true }
def FnExactFlipsToFanUptoSaid : Prop := fnExactFlipsToFanUptoRow.holds Try.pinned (OpenSpec.upto fnExactFlipsToFanSpec)

/-- 'laws.FnExactFlipsBetween', WHERE WHAT IT READS IS OF BULK AT MOST 1048576: true; the input reads as it did. -/
def fnExactFlipsBetweenUptoRow : OpenClaim := { program := "ytcepogfmajlcjaa", sum := "59ff974d12a83164587450271c4b9fb5066ebffb45184ffcd8b82e1b6234e094", func := "loop.example/g03401/laws.FnExactFlipsBetween", spec := "fnExactFlipsBetween", unfollowed := true, recurses := true, plainKeys := false, apart := false, narrowed := true }
def FnExactFlipsBetweenUptoSaid : Prop := fnExactFlipsBetweenUptoRow.holds Try.pinned (OpenSpec.upto fnExactFlipsBetweenSpec)

end Rows
end Go.Proofs.Ytcepogfmajlcjaa
