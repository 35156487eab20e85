/-
  No cell of these rows narrows 'for every input' (looked for: loops, veiled, ifaces, maps, wideKeys, modest, calm, conditions, laid).
  DERIVED. THE GIVEN ROWS OF THIS SEAT. 12 by the template 'for every input the law returns true; each argument reads behind the call as it read before'; 0 by the template 'total and deterministic' (their statements: YtphakcdnlpilhaaTotals.lean).
  GIVEN WITH THE SEED: the statements are not yours to turn. If you find one false, say at which input.
  Laid BY PROGRAM, IN A SANDBOX (cutbox-rows.mjs): the forced cells as the released guide's own fill.sh prints them over the translation b86720c0eaed3541… (all of the seat's roots in one cut). By AI agents, Wed Nov 11 2026. No macro, syntax, notation, axiom, sorry.
-/
import Derived.Test.YtphakcdnlpilhaaChecked
import GoSem.Claim
import GoSem.ClaimJoined
import GoSem.ClaimMapViews
import Derived.JoinedTies
import Derived.KernelRfl
namespace Go.Proofs.Ytphakcdnlpilhaa
/- THE CELL 'sum', in the pinned program and in every row, IS THE sha256 OF THE DUMP (.gsa) THAT YtphakcdnlpilhaaProg.lean LOADS. Nothing in Lean hashes anything: it is a label: what it is worth is what the hold of that sum in a sandbox is worth. -/
noncomputable def Try.pinned : Pinned := { name := "ytphakcdnlpilhaa", sum := "b86720c0eaed3541909a0e476eab529e76ae18acd8cfb3b605eab783c2c17add", checked := Try.checked }
namespace Rows
def none {H : Type} : Left H := { results := [], args := [] }

/-- 'laws.FnExactFriezeOf': WHATEVER THE INPUT: true; the input reads as it did. -/
def fnExactFriezeOfSpec : ChangeSpec := { name := "fnExactFriezeOf", fn := fun _ => fun
  | [d] => { results := [.lit (.bool true)], args := [d] }
  | _ => none }
def fnExactFriezeOfRow : OpenClaim := { program := "ytphakcdnlpilhaa", sum := "b86720c0eaed3541909a0e476eab529e76ae18acd8cfb3b605eab783c2c17add", func := "loop.example/g03401/laws.FnExactFriezeOf", spec := "fnExactFriezeOf", apart := false }
def FnExactFriezeOfSaid : Prop := fnExactFriezeOfRow.holds Try.pinned (OpenSpec.ofChange fnExactFriezeOfSpec)

/-- ITS FALSE NEIGHBOUR: 'it returns false'. Refute it at one input. -/
def fnExactFriezeOfWrong : ChangeSpec := { name := "fnExactFriezeOf", fn := fun _ => fun
  | [d] => { results := [.lit (.bool false)], args := [d] }
  | _ => none }
def FnExactFriezeOfWrongFalsely : Prop := fnExactFriezeOfRow.holds Try.pinned (OpenSpec.ofChange fnExactFriezeOfWrong)

/-- 'laws.FnExactCountMeanders': WHATEVER THE INPUT: true; the input reads as it did. -/
def fnExactCountMeandersSpec : ChangeSpec := { name := "fnExactCountMeanders", fn := fun _ => fun
  | [d] => { results := [.lit (.bool true)], args := [d] }
  | _ => none }
def fnExactCountMeandersRow : OpenClaim := { program := "ytphakcdnlpilhaa", sum := "b86720c0eaed3541909a0e476eab529e76ae18acd8cfb3b605eab783c2c17add", func := "loop.example/g03401/laws.FnExactCountMeanders", spec := "fnExactCountMeanders", unfollowed := true, recurses := true, apart := false }
def FnExactCountMeandersSaid : Prop := fnExactCountMeandersRow.holds Try.pinned (OpenSpec.ofChange fnExactCountMeandersSpec)

/-- ITS FALSE NEIGHBOUR: 'it returns false'. Refute it at one input. -/
def fnExactCountMeandersWrong : ChangeSpec := { name := "fnExactCountMeanders", fn := fun _ => fun
  | [d] => { results := [.lit (.bool false)], args := [d] }
  | _ => none }
def FnExactCountMeandersWrongFalsely : Prop := fnExactCountMeandersRow.holds Try.pinned (OpenSpec.ofChange fnExactCountMeandersWrong)

/-- 'laws.FnExactLoopTable': WHATEVER THE INPUT: true; the input reads as it did. -/
def fnExactLoopTableSpec : ChangeSpec := { name := "fnExactLoopTable", fn := fun _ => fun
  | [d] => { results := [.lit (.bool true)], args := [d] }
  | _ => none }
def fnExactLoopTableRow : OpenClaim := { program := "ytphakcdnlpilhaa", sum := "b86720c0eaed3541909a0e476eab529e76ae18acd8cfb3b605eab783c2c17add", func := "loop.example/g03401/laws.FnExactLoopTable", spec := "fnExactLoopTable", unfollowed := true, recurses := true, apart := false }
def FnExactLoopTableSaid : Prop := fnExactLoopTableRow.holds Try.pinned (OpenSpec.ofChange fnExactLoopTableSpec)

/-- ITS FALSE NEIGHBOUR: 'it returns false'. Refute it at one input. -/
def fnExactLoopTableWrong : ChangeSpec := { name := "fnExactLoopTable", fn := fun _ => fun
  | [d] => { results := [.lit (.bool false)], args := [d] }
  | _ => none }
def FnExactLoopTableWrongFalsely : Prop := fnExactLoopTableRow.holds Try.pinned (OpenSpec.ofChange fnExactLoopTableWrong)

/-- 'laws.FnExactDiagramNumber': WHATEVER THE INPUT: true; the input reads as it did. -/
def fnExactDiagramNumberSpec : ChangeSpec := { name := "fnExactDiagramNumber", fn := fun _ => fun
  | [d] => { results := [.lit (.bool true)], args := [d] }
  | _ => none }
def fnExactDiagramNumberRow : OpenClaim := { program := "ytphakcdnlpilhaa", sum := "b86720c0eaed3541909a0e476eab529e76ae18acd8cfb3b605eab783c2c17add", func := "loop.example/g03401/laws.FnExactDiagramNumber", spec := "fnExactDiagramNumber", apart := false }
def FnExactDiagramNumberSaid : Prop := fnExactDiagramNumberRow.holds Try.pinned (OpenSpec.ofChange fnExactDiagramNumberSpec)

/-- ITS FALSE NEIGHBOUR: 'it returns false'. Refute it at one input. -/
def fnExactDiagramNumberWrong : ChangeSpec := { name := "fnExactDiagramNumber", fn := fun _ => fun
  | [d] => { results := [.lit (.bool false)], args := [d] }
  | _ => none }
def FnExactDiagramNumberWrongFalsely : Prop := fnExactDiagramNumberRow.holds Try.pinned (OpenSpec.ofChange fnExactDiagramNumberWrong)

/-- 'laws.FnExactMeanderPartner': WHATEVER THE INPUT: true; the input reads as it did. -/
def fnExactMeanderPartnerSpec : ChangeSpec := { name := "fnExactMeanderPartner", fn := fun _ => fun
  | [d] => { results := [.lit (.bool true)], args := [d] }
  | _ => none }
def fnExactMeanderPartnerRow : OpenClaim := { program := "ytphakcdnlpilhaa", sum := "b86720c0eaed3541909a0e476eab529e76ae18acd8cfb3b605eab783c2c17add", func := "loop.example/g03401/laws.FnExactMeanderPartner", spec := "fnExactMeanderPartner", unfollowed := true, recurses := true, apart := false }
def FnExactMeanderPartnerSaid : Prop := fnExactMeanderPartnerRow.holds Try.pinned (OpenSpec.ofChange fnExactMeanderPartnerSpec)

/-- ITS FALSE NEIGHBOUR: 'it returns false'. Refute it at one input. -/
def fnExactMeanderPartnerWrong : ChangeSpec := { name := "fnExactMeanderPartner", fn := fun _ => fun
  | [d] => { results := [.lit (.bool false)], args := [d] }
  | _ => none }
def FnExactMeanderPartnerWrongFalsely : Prop := fnExactMeanderPartnerRow.holds Try.pinned (OpenSpec.ofChange fnExactMeanderPartnerWrong)

/-- 'laws.FnExactDiagramOfWord': WHATEVER THE INPUT: true; the input reads as it did. -/
def fnExactDiagramOfWordSpec : ChangeSpec := { name := "fnExactDiagramOfWord", fn := fun _ => fun
  | [d1, d2] => { results := [.lit (.bool true)], args := [d1, d2] }
  | _ => none }
def fnExactDiagramOfWordRow : OpenClaim := { program := "ytphakcdnlpilhaa", sum := "b86720c0eaed3541909a0e476eab529e76ae18acd8cfb3b605eab783c2c17add", func := "loop.example/g03401/laws.FnExactDiagramOfWord", spec := "fnExactDiagramOfWord", unfollowed := true, recurses := true, apart := false }
def FnExactDiagramOfWordSaid : Prop := fnExactDiagramOfWordRow.holds Try.pinned (OpenSpec.ofChange fnExactDiagramOfWordSpec)

/-- ITS FALSE NEIGHBOUR: 'it returns false'. Refute it at one input. -/
def fnExactDiagramOfWordWrong : ChangeSpec := { name := "fnExactDiagramOfWord", fn := fun _ => fun
  | [d1, d2] => { results := [.lit (.bool false)], args := [d1, d2] }
  | _ => none }
def FnExactDiagramOfWordWrongFalsely : Prop := fnExactDiagramOfWordRow.holds Try.pinned (OpenSpec.ofChange fnExactDiagramOfWordWrong)

/-- 'laws.FnExactFanOf': WHATEVER THE INPUT: true; the input reads as it did. -/
def fnExactFanOfSpec : ChangeSpec := { name := "fnExactFanOf", fn := fun _ => fun
  | [d1, d2] => { results := [.lit (.bool true)], args := [d1, d2] }
  | _ => none }
def fnExactFanOfRow : OpenClaim := { program := "ytphakcdnlpilhaa", sum := "b86720c0eaed3541909a0e476eab529e76ae18acd8cfb3b605eab783c2c17add", func := "loop.example/g03401/laws.FnExactFanOf", spec := "fnExactFanOf", unfollowed := true, recurses := true, apart := false }
def FnExactFanOfSaid : Prop := fnExactFanOfRow.holds Try.pinned (OpenSpec.ofChange fnExactFanOfSpec)

/-- ITS FALSE NEIGHBOUR: 'it returns false'. Refute it at one input. -/
def fnExactFanOfWrong : ChangeSpec := { name := "fnExactFanOf", fn := fun _ => fun
  | [d1, d2] => { results := [.lit (.bool false)], args := [d1, d2] }
  | _ => none }
def FnExactFanOfWrongFalsely : Prop := fnExactFanOfRow.holds Try.pinned (OpenSpec.ofChange fnExactFanOfWrong)

/-- 'laws.FnExactCommonDiagonals': WHATEVER THE INPUT: true; the input reads as it did. -/
def fnExactCommonDiagonalsSpec : ChangeSpec := { name := "fnExactCommonDiagonals", fn := fun _ => fun
  | [d1, d2] => { results := [.lit (.bool true)], args := [d1, d2] }
  | _ => none }
def fnExactCommonDiagonalsRow : OpenClaim := { program := "ytphakcdnlpilhaa", sum := "b86720c0eaed3541909a0e476eab529e76ae18acd8cfb3b605eab783c2c17add", func := "loop.example/g03401/laws.FnExactCommonDiagonals", spec := "fnExactCommonDiagonals", unfollowed := true, recurses := true, apart := false }
def FnExactCommonDiagonalsSaid : Prop := fnExactCommonDiagonalsRow.holds Try.pinned (OpenSpec.ofChange fnExactCommonDiagonalsSpec)

/-- ITS FALSE NEIGHBOUR: 'it returns false'. Refute it at one input. -/
def fnExactCommonDiagonalsWrong : ChangeSpec := { name := "fnExactCommonDiagonals", fn := fun _ => fun
  | [d1, d2] => { results := [.lit (.bool false)], args := [d1, d2] }
  | _ => none }
def FnExactCommonDiagonalsWrongFalsely : Prop := fnExactCommonDiagonalsRow.holds Try.pinned (OpenSpec.ofChange fnExactCommonDiagonalsWrong)

/-- 'laws.FnExactTriangulationOfQuiddity': WHATEVER THE INPUT: true; the input reads as it did. -/
def fnExactTriangulationOfQuidditySpec : ChangeSpec := { name := "fnExactTriangulationOfQuiddity", fn := fun _ => fun
  | [d] => { results := [.lit (.bool true)], args := [d] }
  | _ => none }
def fnExactTriangulationOfQuiddityRow : OpenClaim := { program := "ytphakcdnlpilhaa", sum := "b86720c0eaed3541909a0e476eab529e76ae18acd8cfb3b605eab783c2c17add", func := "loop.example/g03401/laws.FnExactTriangulationOfQuiddity", spec := "fnExactTriangulationOfQuiddity", unfollowed := true, recurses := true, apart := false }
def FnExactTriangulationOfQuidditySaid : Prop := fnExactTriangulationOfQuiddityRow.holds Try.pinned (OpenSpec.ofChange fnExactTriangulationOfQuidditySpec)

/-- ITS FALSE NEIGHBOUR: 'it returns false'. Refute it at one input. -/
def fnExactTriangulationOfQuiddityWrong : ChangeSpec := { name := "fnExactTriangulationOfQuiddity", fn := fun _ => fun
  | [d] => { results := [.lit (.bool false)], args := [d] }
  | _ => none }
def FnExactTriangulationOfQuiddityWrongFalsely : Prop := fnExactTriangulationOfQuiddityRow.holds Try.pinned (OpenSpec.ofChange fnExactTriangulationOfQuiddityWrong)

/-- 'laws.FnExactFlipDiagonal': WHATEVER THE INPUT: true; the input reads as it did. -/
def fnExactFlipDiagonalSpec : ChangeSpec := { name := "fnExactFlipDiagonal", fn := fun _ => fun
  | [d1, d2, d3] => { results := [.lit (.bool true)], args := [d1, d2, d3] }
  | _ => none }
def fnExactFlipDiagonalRow : OpenClaim := { program := "ytphakcdnlpilhaa", sum := "b86720c0eaed3541909a0e476eab529e76ae18acd8cfb3b605eab783c2c17add", func := "loop.example/g03401/laws.FnExactFlipDiagonal", spec := "fnExactFlipDiagonal", unfollowed := true, recurses := true, apart := false }
def FnExactFlipDiagonalSaid : Prop := fnExactFlipDiagonalRow.holds Try.pinned (OpenSpec.ofChange fnExactFlipDiagonalSpec)

/-- ITS FALSE NEIGHBOUR: 'it returns false'. Refute it at one input. -/
def fnExactFlipDiagonalWrong : ChangeSpec := { name := "fnExactFlipDiagonal", fn := fun _ => fun
  | [d1, d2, d3] => { results := [.lit (.bool false)], args := [d1, d2, d3] }
  | _ => none }
def FnExactFlipDiagonalWrongFalsely : Prop := fnExactFlipDiagonalRow.holds Try.pinned (OpenSpec.ofChange fnExactFlipDiagonalWrong)

/-- 'laws.FnExactQuiddityOf': WHATEVER THE INPUT: true; the input reads as it did. -/
def fnExactQuiddityOfSpec : ChangeSpec := { name := "fnExactQuiddityOf", fn := fun _ => fun
  | [d1, d2] => { results := [.lit (.bool true)], args := [d1, d2] }
  | _ => none }
def fnExactQuiddityOfRow : OpenClaim := { program := "ytphakcdnlpilhaa", sum := "b86720c0eaed3541909a0e476eab529e76ae18acd8cfb3b605eab783c2c17add", func := "loop.example/g03401/laws.FnExactQuiddityOf", spec := "fnExactQuiddityOf", unfollowed := true, recurses := true, apart := false }
def FnExactQuiddityOfSaid : Prop := fnExactQuiddityOfRow.holds Try.pinned (OpenSpec.ofChange fnExactQuiddityOfSpec)

/-- ITS FALSE NEIGHBOUR: 'it returns false'. Refute it at one input. -/
def fnExactQuiddityOfWrong : ChangeSpec := { name := "fnExactQuiddityOf", fn := fun _ => fun
  | [d1, d2] => { results := [.lit (.bool false)], args := [d1, d2] }
  | _ => none }
def FnExactQuiddityOfWrongFalsely : Prop := fnExactQuiddityOfRow.holds Try.pinned (OpenSpec.ofChange fnExactQuiddityOfWrong)

/-- 'laws.FnExactFriezeEntry': WHATEVER THE INPUT: true; the input reads as it did. -/
def fnExactFriezeEntrySpec : ChangeSpec := { name := "fnExactFriezeEntry", fn := fun _ => fun
  | [d1, d2, d3, d4] => { results := [.lit (.bool true)], args := [d1, d2, d3, d4] }
  | _ => none }
def fnExactFriezeEntryRow : OpenClaim := { program := "ytphakcdnlpilhaa", sum := "b86720c0eaed3541909a0e476eab529e76ae18acd8cfb3b605eab783c2c17add", func := "loop.example/g03401/laws.FnExactFriezeEntry", spec := "fnExactFriezeEntry", unfollowed := true, recurses := true, apart := false }
def FnExactFriezeEntrySaid : Prop := fnExactFriezeEntryRow.holds Try.pinned (OpenSpec.ofChange fnExactFriezeEntrySpec)

/-- ITS FALSE NEIGHBOUR: 'it returns false'. Refute it at one input. -/
def fnExactFriezeEntryWrong : ChangeSpec := { name := "fnExactFriezeEntry", fn := fun _ => fun
  | [d1, d2, d3, d4] => { results := [.lit (.bool false)], args := [d1, d2, d3, d4] }
  | _ => none }
def FnExactFriezeEntryWrongFalsely : Prop := fnExactFriezeEntryRow.holds Try.pinned (OpenSpec.ofChange fnExactFriezeEntryWrong)

/- THE SECOND FORM. 'bulk': how many values and letters a reading holds, each counted each time it is reached (what is shared counts as often as it is met; a slice's spare places count too). A statement '..UptoSaid' is the law's where the arguments, and the package variables that the reading takes, are together of bulk at most 1048576: NARROWER than '..Said'. Prove '..Said' where nothing that the law and all that it calls make is longer than what came in: it says more and counts as full. Else prove '..UptoSaid'. A law counts once. -/
mutual
def uptoBulk {H : Type} : DataW H → Nat
  | .lit (.string bytes) => bytes.length + 1
  | .lit _ => 1
  | .nil => 1
  | .ptr d => uptoBulk d + 1
  | .slice elems spare => uptoBulkAll elems + uptoBulkAll spare + 1
  | .agg parts => uptoBulkAll parts + 1
  | .iface _ d => uptoBulk d + 1
  | .map entries => uptoBulkEntries entries + 1
  | .held _ => 1
def uptoBulkAll {H : Type} : List (DataW H) → Nat
  | [] => 0
  | d :: r => uptoBulk d + uptoBulkAll r
def uptoBulkEntries {H : Type} : List (Lit × DataW H) → Nat
  | [] => 0
  | x :: r => uptoBulkEntry x + uptoBulkEntries r
def uptoBulkEntry {H : Type} : Lit × DataW H → Nat
  | (.string bytes, d) => bytes.length + uptoBulk d + 1
  | (_, d) => uptoBulk d + 1
 end
def uptoSmall : (H : Type) → List (DataW H) → Bool := fun _ ds => decide (uptoBulkAll ds ≤ 1048576)
def OpenSpec.upto (s : _root_.Go.ChangeSpec) : _root_.Go.OpenSpec := { _root_.Go.OpenSpec.ofChange s with cond := some uptoSmall }

/-- 'laws.FnExactFriezeOf', WHERE WHAT IT READS IS OF BULK AT MOST 1048576: true; the input reads as it did. -/
def fnExactFriezeOfUptoRow : OpenClaim := { program := "ytphakcdnlpilhaa", sum := "b86720c0eaed3541909a0e476eab529e76ae18acd8cfb3b605eab783c2c17add", func := "loop.example/g03401/laws.FnExactFriezeOf", spec := "fnExactFriezeOf", apart := false, narrowed := true }
def FnExactFriezeOfUptoSaid : Prop := fnExactFriezeOfUptoRow.holds Try.pinned (OpenSpec.upto fnExactFriezeOfSpec)

/-- 'laws.FnExactCountMeanders', WHERE WHAT IT READS IS OF BULK AT MOST 1048576: true; the input reads as it did. -/
def fnExactCountMeandersUptoRow : OpenClaim := { program := "ytphakcdnlpilhaa", sum := "b86720c0eaed3541909a0e476eab529e76ae18acd8cfb3b605eab783c2c17add", func := "loop.example/g03401/laws.FnExactCountMeanders", spec := "fnExactCountMeanders", unfollowed := true, recurses := true, apart := false, narrowed := true }
def FnExactCountMeandersUptoSaid : Prop := fnExactCountMeandersUptoRow.holds Try.pinned (OpenSpec.upto fnExactCountMeandersSpec)

/-- 'laws.FnExactLoopTable', WHERE WHAT IT READS IS OF BULK AT MOST 1048576: true; the input reads as it did. -/
def fnExactLoopTableUptoRow : OpenClaim := { program := "ytphakcdnlpilhaa", sum := "b86720c0eaed3541909a0e476eab529e76ae18acd8cfb3b605eab783c2c17add", func := "loop.example/g03401/laws.FnExactLoopTable", spec := "fnExactLoopTable", unfollowed := true, recurses := true, apart := false, narrowed := true }
def FnExactLoopTableUptoSaid : Prop := fnExactLoopTableUptoRow.holds Try.pinned (OpenSpec.upto fnExactLoopTableSpec)

/-- 'laws.FnExactDiagramNumber', WHERE WHAT IT READS IS OF BULK AT MOST 1048576: true; the input reads as it did. -/
def fnExactDiagramNumberUptoRow : OpenClaim := { program := "ytphakcdnlpilhaa", sum := "b86720c0eaed3541909a0e476eab529e76ae18acd8cfb3b605eab783c2c17add", func := "loop.example/g03401/laws.FnExactDiagramNumber", spec := "fnExactDiagramNumber", apart := false, narrowed := true }
def FnExactDiagramNumberUptoSaid : Prop := fnExactDiagramNumberUptoRow.holds Try.pinned (OpenSpec.upto fnExactDiagramNumberSpec)

/-- 'laws.FnExactMeanderPartner', WHERE WHAT IT READS IS OF BULK AT MOST 1048576: true; the input reads as it did. -/
def fnExactMeanderPartnerUptoRow : OpenClaim := { program := "ytphakcdnlpilhaa", sum := "b86720c0eaed3541909a0e476eab529e76ae18acd8cfb3b605eab783c2c17add", func := "loop.example/g03401/laws.FnExactMeanderPartner", spec := "fnExactMeanderPartner", unfollowed := true, recurses := true, apart := false, narrowed := true }
def FnExactMeanderPartnerUptoSaid : Prop := fnExactMeanderPartnerUptoRow.holds Try.pinned (OpenSpec.upto fnExactMeanderPartnerSpec)

/-- 'laws.FnExactDiagramOfWord', WHERE WHAT IT READS IS OF BULK AT MOST 1048576: true; the input reads as it did. -/
def fnExactDiagramOfWordUptoRow : OpenClaim := { program := "ytphakcdnlpilhaa", sum := "b86720c0eaed3541909a0e476eab529e76ae18acd8cfb3b605eab783c2c17add", func := "loop.example/g03401/laws.FnExactDiagramOfWord", spec := "fnExactDiagramOfWord", unfollowed := true, recurses := true, apart := false, narrowed := true }
def FnExactDiagramOfWordUptoSaid : Prop := fnExactDiagramOfWordUptoRow.holds Try.pinned (OpenSpec.upto fnExactDiagramOfWordSpec)

/-- 'laws.FnExactFanOf', WHERE WHAT IT READS IS OF BULK AT MOST 1048576: true; the input reads as it did. -/
def fnExactFanOfUptoRow : OpenClaim := { program := "ytphakcdnlpilhaa", sum := "b86720c0eaed3541909a0e476eab529e76ae18acd8cfb3b605eab783c2c17add", func := "loop.example/g03401/laws.FnExactFanOf", spec := "fnExactFanOf", unfollowed := true, recurses := true, apart := false, narrowed := true }
def FnExactFanOfUptoSaid : Prop := fnExactFanOfUptoRow.holds Try.pinned (OpenSpec.upto fnExactFanOfSpec)

/-- 'laws.FnExactCommonDiagonals', WHERE WHAT IT READS IS OF BULK AT MOST 1048576: true; the input reads as it did. -/
def fnExactCommonDiagonalsUptoRow : OpenClaim := { program := "ytphakcdnlpilhaa", sum := "b86720c0eaed3541909a0e476eab529e76ae18acd8cfb3b605eab783c2c17add", func := "loop.example/g03401/laws.FnExactCommonDiagonals", spec := "fnExactCommonDiagonals", unfollowed := true, recurses := true, apart := false, narrowed := true }
def FnExactCommonDiagonalsUptoSaid : Prop := fnExactCommonDiagonalsUptoRow.holds Try.pinned (OpenSpec.upto fnExactCommonDiagonalsSpec)

/-- 'laws.FnExactTriangulationOfQuiddity', WHERE WHAT IT READS IS OF BULK AT MOST 1048576: true; the input reads as it did. -/
def fnExactTriangulationOfQuiddityUptoRow : OpenClaim := { program := "ytphakcdnlpilhaa", sum := "b86720c0eaed3541909a0e476eab529e76ae18acd8cfb3b605eab783c2c17add", func := "loop.example/g03401/laws.FnExactTriangulationOfQuiddity", spec := "fnExactTriangulationOfQuiddity", unfollowed := true, recurses := true, apart := false, narrowed := true }
def FnExactTriangulationOfQuiddityUptoSaid : Prop := fnExactTriangulationOfQuiddityUptoRow.holds Try.pinned (OpenSpec.upto fnExactTriangulationOfQuidditySpec)

/-- 'laws.FnExactFlipDiagonal', WHERE WHAT IT READS IS OF BULK AT MOST 1048576: true; the input reads as it did. -/
def fnExactFlipDiagonalUptoRow : OpenClaim := { program := "ytphakcdnlpilhaa", sum := "b86720c0eaed3541909a0e476eab529e76ae18acd8cfb3b605eab783c2c17add", func := "loop.example/g03401/laws.FnExactFlipDiagonal", spec := "fnExactFlipDiagonal", unfollowed := true, recurses := true, apart := false, narrowed := true }
def FnExactFlipDiagonalUptoSaid : Prop := fnExactFlipDiagonalUptoRow.holds Try.pinned (OpenSpec.upto fnExactFlipDiagonalSpec)

/-- 'laws.FnExactQuiddityOf', WHERE WHAT IT READS IS OF BULK AT MOST 1048576: true; the input reads as it did. -/
def fnExactQuiddityOfUptoRow : OpenClaim := { program := "ytphakcdnlpilhaa", sum := "b86720c0eaed3541909a0e476eab529e76ae18acd8cfb3b605eab783c2c17add", func := "loop.example/g03401/laws.FnExactQuiddityOf", spec := "fnExactQuiddityOf", unfollowed := true, recurses := true, apart := false, narrowed := true }
def FnExactQuiddityOfUptoSaid : Prop := fnExactQuiddityOfUptoRow.holds Try.pinned (OpenSpec.upto fnExactQuiddityOfSpec)

/-- 'laws.FnExactFriezeEntry', WHERE WHAT IT READS IS OF BULK AT MOST 1048576: true; the input reads as it did. -/
def fnExactFriezeEntryUptoRow : OpenClaim := { program := "ytphakcdnlpilhaa", sum := "b86720c0eaed3541909a0e476eab529e76ae18acd8cfb3b605eab783c2c17add", func := "loop.example/g03401/laws.FnExactFriezeEntry", spec := "fnExactFriezeEntry", unfollowed := true, recurses := true, apart := false, narrowed := true }
def FnExactFriezeEntryUptoSaid : Prop := fnExactFriezeEntryUptoRow.holds Try.pinned (OpenSpec.upto fnExactFriezeEntrySpec)

end Rows
end Go.Proofs.Ytphakcdnlpilhaa
