/-
  No cell of these rows narrows 'for every input' (looked for: loops, veiled, ifaces, maps, wideKeys, modest, calm, conditions, laid).
  DERIVED. THE GIVEN ROWS OF THIS SEAT. 12 by the template 'for every input the law returns true; each argument reads behind the call as it read before'; 0 by the template 'total and deterministic' (their statements: YtcnbmghfmicfnaaTotals.lean).
  GIVEN WITH THE SEED: the statements are not yours to turn. If you find one false, say at which input.
  Laid BY PROGRAM, IN A SANDBOX (cutbox-rows.mjs): the forced cells as the released guide's own fill.sh prints them over the translation 1579dea2317ae4d3… (all of the seat's roots in one cut). By AI agents, Wed Nov 11 2026. No macro, syntax, notation, axiom, sorry.
-/
import Derived.Test.YtcnbmghfmicfnaaChecked
import GoSem.Claim
import GoSem.ClaimJoined
import GoSem.ClaimMapViews
import Derived.JoinedTies
import Derived.KernelRfl
namespace Go.Proofs.Ytcnbmghfmicfnaa
/- THE CELL 'sum', in the pinned program and in every row, IS THE sha256 OF THE DUMP (.gsa) THAT YtcnbmghfmicfnaaProg.lean LOADS. Nothing in Lean hashes anything: it is a label: what it is worth is what the hold of that sum in a sandbox is worth. -/
noncomputable def Try.pinned : Pinned := { name := "ytcnbmghfmicfnaa", sum := "1579dea2317ae4d385f21097ff4ca376a0d05fe0f14428a00298835eeb5a6c64", checked := Try.checked }
namespace Rows
def none {H : Type} : Left H := { results := [], args := [] }

/-- 'laws.FnExactShiftWord': WHATEVER THE INPUT: true; the input reads as it did. -/
def fnExactShiftWordSpec : ChangeSpec := { name := "fnExactShiftWord", fn := fun _ => fun
  | [d1, d2] => { results := [.lit (.bool true)], args := [d1, d2] }
  | _ => none }
def fnExactShiftWordRow : OpenClaim := { program := "ytcnbmghfmicfnaa", sum := "1579dea2317ae4d385f21097ff4ca376a0d05fe0f14428a00298835eeb5a6c64", func := "loop.example/g03401/laws.FnExactShiftWord", spec := "fnExactShiftWord", plainKeys := false, apart := false }
def FnExactShiftWordSaid : Prop := fnExactShiftWordRow.holds Try.pinned (OpenSpec.ofChange fnExactShiftWordSpec)

/-- ITS FALSE NEIGHBOUR: 'it returns false'. Refute it at one input. -/
def fnExactShiftWordWrong : ChangeSpec := { name := "fnExactShiftWord", fn := fun _ => fun
  | [d1, d2] => { results := [.lit (.bool false)], args := [d1, d2] }
  | _ => none }
def FnExactShiftWordWrongFalsely : Prop := fnExactShiftWordRow.holds Try.pinned (OpenSpec.ofChange fnExactShiftWordWrong)

/-- 'laws.FnExactIsBalanced': WHATEVER THE INPUT: true; the input reads as it did. -/
def fnExactIsBalancedSpec : ChangeSpec := { name := "fnExactIsBalanced", fn := fun _ => fun
  | [d] => { results := [.lit (.bool true)], args := [d] }
  | _ => none }
def fnExactIsBalancedRow : OpenClaim := { program := "ytcnbmghfmicfnaa", sum := "1579dea2317ae4d385f21097ff4ca376a0d05fe0f14428a00298835eeb5a6c64", func := "loop.example/g03401/laws.FnExactIsBalanced", spec := "fnExactIsBalanced", plainKeys := false, apart := false }
def FnExactIsBalancedSaid : Prop := fnExactIsBalancedRow.holds Try.pinned (OpenSpec.ofChange fnExactIsBalancedSpec)

/-- ITS FALSE NEIGHBOUR: 'it returns false'. Refute it at one input. -/
def fnExactIsBalancedWrong : ChangeSpec := { name := "fnExactIsBalanced", fn := fun _ => fun
  | [d] => { results := [.lit (.bool false)], args := [d] }
  | _ => none }
def FnExactIsBalancedWrongFalsely : Prop := fnExactIsBalancedRow.holds Try.pinned (OpenSpec.ofChange fnExactIsBalancedWrong)

/-- 'laws.FnExactFussNumber': WHATEVER THE INPUT: true; the input reads as it did. -/
def fnExactFussNumberSpec : ChangeSpec := { name := "fnExactFussNumber", fn := fun _ => fun
  | [d1, d2] => { results := [.lit (.bool true)], args := [d1, d2] }
  | _ => none }
def fnExactFussNumberRow : OpenClaim := { program := "ytcnbmghfmicfnaa", sum := "1579dea2317ae4d385f21097ff4ca376a0d05fe0f14428a00298835eeb5a6c64", func := "loop.example/g03401/laws.FnExactFussNumber", spec := "fnExactFussNumber", plainKeys := false, apart := false }
def FnExactFussNumberSaid : Prop := fnExactFussNumberRow.holds Try.pinned (OpenSpec.ofChange fnExactFussNumberSpec)

/-- ITS FALSE NEIGHBOUR: 'it returns false'. Refute it at one input. -/
def fnExactFussNumberWrong : ChangeSpec := { name := "fnExactFussNumber", fn := fun _ => fun
  | [d1, d2] => { results := [.lit (.bool false)], args := [d1, d2] }
  | _ => none }
def FnExactFussNumberWrongFalsely : Prop := fnExactFussNumberRow.holds Try.pinned (OpenSpec.ofChange fnExactFussNumberWrong)

/-- 'laws.FnExactMotzkinNumber': WHATEVER THE INPUT: true; the input reads as it did. -/
def fnExactMotzkinNumberSpec : ChangeSpec := { name := "fnExactMotzkinNumber", fn := fun _ => fun
  | [d] => { results := [.lit (.bool true)], args := [d] }
  | _ => none }
def fnExactMotzkinNumberRow : OpenClaim := { program := "ytcnbmghfmicfnaa", sum := "1579dea2317ae4d385f21097ff4ca376a0d05fe0f14428a00298835eeb5a6c64", func := "loop.example/g03401/laws.FnExactMotzkinNumber", spec := "fnExactMotzkinNumber", plainKeys := false, apart := false }
def FnExactMotzkinNumberSaid : Prop := fnExactMotzkinNumberRow.holds Try.pinned (OpenSpec.ofChange fnExactMotzkinNumberSpec)

/-- ITS FALSE NEIGHBOUR: 'it returns false'. Refute it at one input. -/
def fnExactMotzkinNumberWrong : ChangeSpec := { name := "fnExactMotzkinNumber", fn := fun _ => fun
  | [d] => { results := [.lit (.bool false)], args := [d] }
  | _ => none }
def FnExactMotzkinNumberWrongFalsely : Prop := fnExactMotzkinNumberRow.holds Try.pinned (OpenSpec.ofChange fnExactMotzkinNumberWrong)

/-- 'laws.FnExactIsMotzkin': WHATEVER THE INPUT: true; the input reads as it did. -/
def fnExactIsMotzkinSpec : ChangeSpec := { name := "fnExactIsMotzkin", fn := fun _ => fun
  | [d] => { results := [.lit (.bool true)], args := [d] }
  | _ => none }
def fnExactIsMotzkinRow : OpenClaim := { program := "ytcnbmghfmicfnaa", sum := "1579dea2317ae4d385f21097ff4ca376a0d05fe0f14428a00298835eeb5a6c64", func := "loop.example/g03401/laws.FnExactIsMotzkin", spec := "fnExactIsMotzkin", plainKeys := false, apart := false }
def FnExactIsMotzkinSaid : Prop := fnExactIsMotzkinRow.holds Try.pinned (OpenSpec.ofChange fnExactIsMotzkinSpec)

/-- ITS FALSE NEIGHBOUR: 'it returns false'. Refute it at one input. -/
def fnExactIsMotzkinWrong : ChangeSpec := { name := "fnExactIsMotzkin", fn := fun _ => fun
  | [d] => { results := [.lit (.bool false)], args := [d] }
  | _ => none }
def FnExactIsMotzkinWrongFalsely : Prop := fnExactIsMotzkinRow.holds Try.pinned (OpenSpec.ofChange fnExactIsMotzkinWrong)

/-- 'laws.FnExactIsFuss': WHATEVER THE INPUT: true; the input reads as it did. -/
def fnExactIsFussSpec : ChangeSpec := { name := "fnExactIsFuss", fn := fun _ => fun
  | [d1, d2] => { results := [.lit (.bool true)], args := [d1, d2] }
  | _ => none }
def fnExactIsFussRow : OpenClaim := { program := "ytcnbmghfmicfnaa", sum := "1579dea2317ae4d385f21097ff4ca376a0d05fe0f14428a00298835eeb5a6c64", func := "loop.example/g03401/laws.FnExactIsFuss", spec := "fnExactIsFuss", plainKeys := false, apart := false }
def FnExactIsFussSaid : Prop := fnExactIsFussRow.holds Try.pinned (OpenSpec.ofChange fnExactIsFussSpec)

/-- ITS FALSE NEIGHBOUR: 'it returns false'. Refute it at one input. -/
def fnExactIsFussWrong : ChangeSpec := { name := "fnExactIsFuss", fn := fun _ => fun
  | [d1, d2] => { results := [.lit (.bool false)], args := [d1, d2] }
  | _ => none }
def FnExactIsFussWrongFalsely : Prop := fnExactIsFussRow.holds Try.pinned (OpenSpec.ofChange fnExactIsFussWrong)

/-- 'laws.FnExactIsSchroeder': WHATEVER THE INPUT: true; the input reads as it did. -/
def fnExactIsSchroederSpec : ChangeSpec := { name := "fnExactIsSchroeder", fn := fun _ => fun
  | [d] => { results := [.lit (.bool true)], args := [d] }
  | _ => none }
def fnExactIsSchroederRow : OpenClaim := { program := "ytcnbmghfmicfnaa", sum := "1579dea2317ae4d385f21097ff4ca376a0d05fe0f14428a00298835eeb5a6c64", func := "loop.example/g03401/laws.FnExactIsSchroeder", spec := "fnExactIsSchroeder", plainKeys := false, apart := false }
def FnExactIsSchroederSaid : Prop := fnExactIsSchroederRow.holds Try.pinned (OpenSpec.ofChange fnExactIsSchroederSpec)

/-- ITS FALSE NEIGHBOUR: 'it returns false'. Refute it at one input. -/
def fnExactIsSchroederWrong : ChangeSpec := { name := "fnExactIsSchroeder", fn := fun _ => fun
  | [d] => { results := [.lit (.bool false)], args := [d] }
  | _ => none }
def FnExactIsSchroederWrongFalsely : Prop := fnExactIsSchroederRow.holds Try.pinned (OpenSpec.ofChange fnExactIsSchroederWrong)

/-- 'laws.FnExactIdentityDiagram': WHATEVER THE INPUT: true; the input reads as it did. -/
def fnExactIdentityDiagramSpec : ChangeSpec := { name := "fnExactIdentityDiagram", fn := fun _ => fun
  | [d] => { results := [.lit (.bool true)], args := [d] }
  | _ => none }
def fnExactIdentityDiagramRow : OpenClaim := { program := "ytcnbmghfmicfnaa", sum := "1579dea2317ae4d385f21097ff4ca376a0d05fe0f14428a00298835eeb5a6c64", func := "loop.example/g03401/laws.FnExactIdentityDiagram", spec := "fnExactIdentityDiagram", plainKeys := false, apart := false }
def FnExactIdentityDiagramSaid : Prop := fnExactIdentityDiagramRow.holds Try.pinned (OpenSpec.ofChange fnExactIdentityDiagramSpec)

/-- ITS FALSE NEIGHBOUR: 'it returns false'. Refute it at one input. -/
def fnExactIdentityDiagramWrong : ChangeSpec := { name := "fnExactIdentityDiagram", fn := fun _ => fun
  | [d] => { results := [.lit (.bool false)], args := [d] }
  | _ => none }
def FnExactIdentityDiagramWrongFalsely : Prop := fnExactIdentityDiagramRow.holds Try.pinned (OpenSpec.ofChange fnExactIdentityDiagramWrong)

/-- 'laws.FnExactLevelSteps': WHATEVER THE INPUT: true; the input reads as it did. -/
def fnExactLevelStepsSpec : ChangeSpec := { name := "fnExactLevelSteps", fn := fun _ => fun
  | [d] => { results := [.lit (.bool true)], args := [d] }
  | _ => none }
def fnExactLevelStepsRow : OpenClaim := { program := "ytcnbmghfmicfnaa", sum := "1579dea2317ae4d385f21097ff4ca376a0d05fe0f14428a00298835eeb5a6c64", func := "loop.example/g03401/laws.FnExactLevelSteps", spec := "fnExactLevelSteps", plainKeys := false, apart := false }
def FnExactLevelStepsSaid : Prop := fnExactLevelStepsRow.holds Try.pinned (OpenSpec.ofChange fnExactLevelStepsSpec)

/-- ITS FALSE NEIGHBOUR: 'it returns false'. Refute it at one input. -/
def fnExactLevelStepsWrong : ChangeSpec := { name := "fnExactLevelSteps", fn := fun _ => fun
  | [d] => { results := [.lit (.bool false)], args := [d] }
  | _ => none }
def FnExactLevelStepsWrongFalsely : Prop := fnExactLevelStepsRow.holds Try.pinned (OpenSpec.ofChange fnExactLevelStepsWrong)

/-- 'laws.FnExactSchroederNumber': WHATEVER THE INPUT: true; the input reads as it did. -/
def fnExactSchroederNumberSpec : ChangeSpec := { name := "fnExactSchroederNumber", fn := fun _ => fun
  | [d] => { results := [.lit (.bool true)], args := [d] }
  | _ => none }
def fnExactSchroederNumberRow : OpenClaim := { program := "ytcnbmghfmicfnaa", sum := "1579dea2317ae4d385f21097ff4ca376a0d05fe0f14428a00298835eeb5a6c64", func := "loop.example/g03401/laws.FnExactSchroederNumber", spec := "fnExactSchroederNumber", unfollowed := true, recurses := true, plainKeys := false, apart := false }
def FnExactSchroederNumberSaid : Prop := fnExactSchroederNumberRow.holds Try.pinned (OpenSpec.ofChange fnExactSchroederNumberSpec)

/-- ITS FALSE NEIGHBOUR: 'it returns false'. Refute it at one input. -/
def fnExactSchroederNumberWrong : ChangeSpec := { name := "fnExactSchroederNumber", fn := fun _ => fun
  | [d] => { results := [.lit (.bool false)], args := [d] }
  | _ => none }
def FnExactSchroederNumberWrongFalsely : Prop := fnExactSchroederNumberRow.holds Try.pinned (OpenSpec.ofChange fnExactSchroederNumberWrong)

/-- 'laws.FnExactHookDiagram': WHATEVER THE INPUT: true; the input reads as it did. -/
def fnExactHookDiagramSpec : ChangeSpec := { name := "fnExactHookDiagram", fn := fun _ => fun
  | [d1, d2] => { results := [.lit (.bool true)], args := [d1, d2] }
  | _ => none }
def fnExactHookDiagramRow : OpenClaim := { program := "ytcnbmghfmicfnaa", sum := "1579dea2317ae4d385f21097ff4ca376a0d05fe0f14428a00298835eeb5a6c64", func := "loop.example/g03401/laws.FnExactHookDiagram", spec := "fnExactHookDiagram", plainKeys := false, apart := false }
def FnExactHookDiagramSaid : Prop := fnExactHookDiagramRow.holds Try.pinned (OpenSpec.ofChange fnExactHookDiagramSpec)

/-- ITS FALSE NEIGHBOUR: 'it returns false'. Refute it at one input. -/
def fnExactHookDiagramWrong : ChangeSpec := { name := "fnExactHookDiagram", fn := fun _ => fun
  | [d1, d2] => { results := [.lit (.bool false)], args := [d1, d2] }
  | _ => none }
def FnExactHookDiagramWrongFalsely : Prop := fnExactHookDiagramRow.holds Try.pinned (OpenSpec.ofChange fnExactHookDiagramWrong)

/-- 'laws.FnExactCircleOf': WHATEVER THE INPUT: true; the input reads as it did. -/
def fnExactCircleOfSpec : ChangeSpec := { name := "fnExactCircleOf", fn := fun _ => fun
  | [d1, d2] => { results := [.lit (.bool true)], args := [d1, d2] }
  | _ => none }
def fnExactCircleOfRow : OpenClaim := { program := "ytcnbmghfmicfnaa", sum := "1579dea2317ae4d385f21097ff4ca376a0d05fe0f14428a00298835eeb5a6c64", func := "loop.example/g03401/laws.FnExactCircleOf", spec := "fnExactCircleOf", plainKeys := false, apart := false }
def FnExactCircleOfSaid : Prop := fnExactCircleOfRow.holds Try.pinned (OpenSpec.ofChange fnExactCircleOfSpec)

/-- ITS FALSE NEIGHBOUR: 'it returns false'. Refute it at one input. -/
def fnExactCircleOfWrong : ChangeSpec := { name := "fnExactCircleOf", fn := fun _ => fun
  | [d1, d2] => { results := [.lit (.bool false)], args := [d1, d2] }
  | _ => none }
def FnExactCircleOfWrongFalsely : Prop := fnExactCircleOfRow.holds Try.pinned (OpenSpec.ofChange fnExactCircleOfWrong)

/- THE SECOND FORM. 'bulk': how many values and letters a reading holds, each counted each time it is reached (what is shared counts as often as it is met; a slice's spare places count too). A statement '..UptoSaid' is the law's where the arguments, and the package variables that the reading takes, are together of bulk at most 1048576: NARROWER than '..Said'. Prove '..Said' where nothing that the law and all that it calls make is longer than what came in: it says more and counts as full. Else prove '..UptoSaid'. A law counts once. -/
mutual
def uptoBulk {H : Type} : DataW H → Nat
  | .lit (.string bytes) => bytes.length + 1
  | .lit _ => 1
  | .nil => 1
  | .ptr d => uptoBulk d + 1
  | .slice elems spare => uptoBulkAll elems + uptoBulkAll spare + 1
  | .agg parts => uptoBulkAll parts + 1
  | .iface _ d => uptoBulk d + 1
  | .map entries => uptoBulkEntries entries + 1
  | .held _ => 1
def uptoBulkAll {H : Type} : List (DataW H) → Nat
  | [] => 0
  | d :: r => uptoBulk d + uptoBulkAll r
def uptoBulkEntries {H : Type} : List (Lit × DataW H) → Nat
  | [] => 0
  | x :: r => uptoBulkEntry x + uptoBulkEntries r
def uptoBulkEntry {H : Type} : Lit × DataW H → Nat
  | (.string bytes, d) => bytes.length + uptoBulk d + 1
  | (_, d) => uptoBulk d + 1
 end
def uptoSmall : (H : Type) → List (DataW H) → Bool := fun _ ds => decide (uptoBulkAll ds ≤ 1048576)
def OpenSpec.upto (s : _root_.Go.ChangeSpec) : _root_.Go.OpenSpec := { _root_.Go.OpenSpec.ofChange s with cond := some uptoSmall }

/-- 'laws.FnExactShiftWord', WHERE WHAT IT READS IS OF BULK AT MOST 1048576: true; the input reads as it did. -/
def fnExactShiftWordUptoRow : OpenClaim := { program := "ytcnbmghfmicfnaa", sum := "1579dea2317ae4d385f21097ff4ca376a0d05fe0f14428a00298835eeb5a6c64", func := "loop.example/g03401/laws.FnExactShiftWord", spec := "fnExactShiftWord", plainKeys := false, apart := false, narrowed := true }
def FnExactShiftWordUptoSaid : Prop := fnExactShiftWordUptoRow.holds Try.pinned (OpenSpec.upto fnExactShiftWordSpec)

/-- 'laws.FnExactIsBalanced', WHERE WHAT IT READS IS OF BULK AT MOST 1048576: true; the input reads as it did. -/
def fnExactIsBalancedUptoRow : OpenClaim := { program := "ytcnbmghfmicfnaa", sum := "1579dea2317ae4d385f21097ff4ca376a0d05fe0f14428a00298835eeb5a6c64", func := "loop.example/g03401/laws.FnExactIsBalanced", spec := "fnExactIsBalanced", plainKeys := false, apart := false, narrowed := true }
def FnExactIsBalancedUptoSaid : Prop := fnExactIsBalancedUptoRow.holds Try.pinned (OpenSpec.upto fnExactIsBalancedSpec)

/-- 'laws.FnExactFussNumber', WHERE WHAT IT READS IS OF BULK AT MOST 1048576: true; the input reads as it did. -/
def fnExactFussNumberUptoRow : OpenClaim := { program := "ytcnbmghfmicfnaa", sum := "1579dea2317ae4d385f21097ff4ca376a0d05fe0f14428a00298835eeb5a6c64", func := "loop.example/g03401/laws.FnExactFussNumber", spec := "fnExactFussNumber", plainKeys := false, apart := false, narrowed := true }
def FnExactFussNumberUptoSaid : Prop := fnExactFussNumberUptoRow.holds Try.pinned (OpenSpec.upto fnExactFussNumberSpec)

/-- 'laws.FnExactMotzkinNumber', WHERE WHAT IT READS IS OF BULK AT MOST 1048576: true; the input reads as it did. -/
def fnExactMotzkinNumberUptoRow : OpenClaim := { program := "ytcnbmghfmicfnaa", sum := "1579dea2317ae4d385f21097ff4ca376a0d05fe0f14428a00298835eeb5a6c64", func := "loop.example/g03401/laws.FnExactMotzkinNumber", spec := "fnExactMotzkinNumber", plainKeys := false, apart := false, narrowed := true }
def FnExactMotzkinNumberUptoSaid : Prop := fnExactMotzkinNumberUptoRow.holds Try.pinned (OpenSpec.upto fnExactMotzkinNumberSpec)

/-- 'laws.FnExactIsMotzkin', WHERE WHAT IT READS IS OF BULK AT MOST 1048576: true; the input reads as it did. -/
def fnExactIsMotzkinUptoRow : OpenClaim := { program := "ytcnbmghfmicfnaa", sum := "1579dea2317ae4d385f21097ff4ca376a0d05fe0f14428a00298835eeb5a6c64", func := "loop.example/g03401/laws.FnExactIsMotzkin", spec := "fnExactIsMotzkin", plainKeys := false, apart := false, narrowed := true }
def FnExactIsMotzkinUptoSaid : Prop := fnExactIsMotzkinUptoRow.holds Try.pinned (OpenSpec.upto fnExactIsMotzkinSpec)

/-- 'laws.FnExactIsFuss', WHERE WHAT IT READS IS OF BULK AT MOST 1048576: true; the input reads as it did. -/
def fnExactIsFussUptoRow : OpenClaim := { program := "ytcnbmghfmicfnaa", sum := "1579dea2317ae4d385f21097ff4ca376a0d05fe0f14428a00298835eeb5a6c64", func := "loop.example/g03401/laws.FnExactIsFuss", spec := "fnExactIsFuss", plainKeys := false, apart := false, narrowed := true }
def FnExactIsFussUptoSaid : Prop := fnExactIsFussUptoRow.holds Try.pinned (OpenSpec.upto fnExactIsFussSpec)

/-- 'laws.FnExactIsSchroeder', WHERE WHAT IT READS IS OF BULK AT MOST 1048576: true; the input reads as it did. -/
def fnExactIsSchroederUptoRow : OpenClaim := { program := "ytcnbmghfmicfnaa", sum := "1579dea2317ae4d385f21097ff4ca376a0d05fe0f14428a00298835eeb5a6c64", func := "loop.example/g03401/laws.FnExactIsSchroeder", spec := "fnExactIsSchroeder", plainKeys := false, apart := false, narrowed := true }
def FnExactIsSchroederUptoSaid : Prop := fnExactIsSchroederUptoRow.holds Try.pinned (OpenSpec.upto fnExactIsSchroederSpec)

/-- 'laws.FnExactIdentityDiagram', WHERE WHAT IT READS IS OF BULK AT MOST 1048576: true; the input reads as it did. -/
def fnExactIdentityDiagramUptoRow : OpenClaim := { program := "ytcnbmghfmicfnaa", sum := "1579dea2317ae4d385f21097ff4ca376a0d05fe0f14428a00298835eeb5a6c64", func := "loop.example/g03401/laws.FnExactIdentityDiagram", spec := "fnExactIdentityDiagram", plainKeys := false, apart := false, narrowed := true }
def FnExactIdentityDiagramUptoSaid : Prop := fnExactIdentityDiagramUptoRow.holds Try.pinned (OpenSpec.upto fnExactIdentityDiagramSpec)

/-- 'laws.FnExactLevelSteps', WHERE WHAT IT READS IS OF BULK AT MOST 1048576: true; the input reads as it did. -/
def fnExactLevelStepsUptoRow : OpenClaim := { program := "ytcnbmghfmicfnaa", sum := "1579dea2317ae4d385f21097ff4ca376a0d05fe0f14428a00298835eeb5a6c64", func := "loop.example/g03401/laws.FnExactLevelSteps", spec := "fnExactLevelSteps", plainKeys := false, apart := false, narrowed := true }
def FnExactLevelStepsUptoSaid : Prop := fnExactLevelStepsUptoRow.holds Try.pinned (OpenSpec.upto fnExactLevelStepsSpec)

/-- 'laws.FnExactSchroederNumber', WHERE WHAT IT READS IS OF BULK AT MOST 1048576: true; the input reads as it did. -/
def fnExactSchroederNumberUptoRow : OpenClaim := { program := "ytcnbmghfmicfnaa", sum := "1579dea2317ae4d385f21097ff4ca376a0d05fe0f14428a00298835eeb5a6c64", func := "loop.example/g03401/laws.FnExactSchroederNumber", spec := "fnExactSchroederNumber", unfollowed := true, recurses := true, plainKeys := false, apart := false, narrowed := true }
def FnExactSchroederNumberUptoSaid : Prop := fnExactSchroederNumberUptoRow.holds Try.pinned (OpenSpec.upto fnExactSchroederNumberSpec)

/-- 'laws.FnExactHookDiagram', WHERE WHAT IT READS IS OF BULK AT MOST 1048576: true; the input reads as it did. -/
def fnExactHookDiagramUptoRow : OpenClaim := { program := "ytcnbmghfmicfnaa", sum := "1579dea2317ae4d385f21097ff4ca376a0d05fe0f14428a00298835eeb5a6c64", func := "loop.example/g03401/laws.FnExactHookDiagram", spec := "fnExactHookDiagram", plainKeys := false, apart := false, narrowed := true }
def FnExactHookDiagramUptoSaid : Prop := fnExactHookDiagramUptoRow.holds Try.pinned (OpenSpec.upto fnExactHookDiagramSpec)

/-- 'laws.FnExactCircleOf', WHERE WHAT IT READS IS OF BULK AT MOST 1048576: true; the input reads as it did. -/
def fnExactCircleOfUptoRow : OpenClaim := { program := "ytcnbmghfmicfnaa", sum := "1579dea2317ae4d385f21097ff4ca376a0d05fe0f14428a00298835eeb5a6c64", func := "loop.example/g03401/laws.FnExactCircleOf", spec := "fnExactCircleOf", plainKeys := false, apart := false, narrowed := true }
def FnExactCircleOfUptoSaid : Prop := fnExactCircleOfUptoRow.holds Try.pinned (OpenSpec.upto fnExactCircleOfSpec)

end Rows
end Go.Proofs.Ytcnbmghfmicfnaa
