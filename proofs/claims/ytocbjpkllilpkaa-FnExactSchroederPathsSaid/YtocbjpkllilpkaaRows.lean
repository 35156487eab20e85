/-
  No cell of these rows narrows 'for every input' (looked for: loops, veiled, ifaces, maps, wideKeys, modest, calm, conditions, laid).
  DERIVED. THE GIVEN ROWS OF THIS SEAT. 12 by the template 'for every input the law returns true; each argument reads behind the call as it read before'; 0 by the template 'total and deterministic' (their statements: YtocbjpkllilpkaaTotals.lean).
  GIVEN WITH THE SEED: the statements are not yours to turn. If you find one false, say at which input.
  Laid BY PROGRAM, IN A SANDBOX (cutbox-rows.mjs): the forced cells as the released guide's own fill.sh prints them over the translation 94d7ab5e93326ddd… (all of the seat's roots in one cut). By AI agents, Wed Nov 11 2026. No macro, syntax, notation, axiom, sorry.
-/
import Derived.Test.YtocbjpkllilpkaaChecked
import GoSem.Claim
import GoSem.ClaimJoined
import GoSem.ClaimMapViews
import Derived.JoinedTies
import Derived.KernelRfl
namespace Go.Proofs.Ytocbjpkllilpkaa
/- THE CELL 'sum', in the pinned program and in every row, IS THE sha256 OF THE DUMP (.gsa) THAT YtocbjpkllilpkaaProg.lean LOADS. Nothing in Lean hashes anything: it is a label: what it is worth is what the hold of that sum in a sandbox is worth. -/
noncomputable def Try.pinned : Pinned := { name := "ytocbjpkllilpkaa", sum := "94d7ab5e93326ddd0266e0d26bb0903347daeda2bdcf359ff9ae756c6f6f4dc3", checked := Try.checked }
namespace Rows
def none {H : Type} : Left H := { results := [], args := [] }

/-- 'laws.FnExactDyckOfMotzkin': WHATEVER THE INPUT: true; the input reads as it did. -/
def fnExactDyckOfMotzkinSpec : ChangeSpec := { name := "fnExactDyckOfMotzkin", fn := fun _ => fun
  | [d] => { results := [.lit (.bool true)], args := [d] }
  | _ => none }
def fnExactDyckOfMotzkinRow : OpenClaim := { program := "ytocbjpkllilpkaa", sum := "94d7ab5e93326ddd0266e0d26bb0903347daeda2bdcf359ff9ae756c6f6f4dc3", func := "loop.example/g03401/laws.FnExactDyckOfMotzkin", spec := "fnExactDyckOfMotzkin", plainKeys := false, apart := false }
def FnExactDyckOfMotzkinSaid : Prop := fnExactDyckOfMotzkinRow.holds Try.pinned (OpenSpec.ofChange fnExactDyckOfMotzkinSpec)

/-- ITS FALSE NEIGHBOUR: 'it returns false'. Refute it at one input. -/
def fnExactDyckOfMotzkinWrong : ChangeSpec := { name := "fnExactDyckOfMotzkin", fn := fun _ => fun
  | [d] => { results := [.lit (.bool false)], args := [d] }
  | _ => none }
def FnExactDyckOfMotzkinWrongFalsely : Prop := fnExactDyckOfMotzkinRow.holds Try.pinned (OpenSpec.ofChange fnExactDyckOfMotzkinWrong)

/-- 'laws.FnExactIsDiagram': WHATEVER THE INPUT: true; the input reads as it did. -/
def fnExactIsDiagramSpec : ChangeSpec := { name := "fnExactIsDiagram", fn := fun _ => fun
  | [d] => { results := [.lit (.bool true)], args := [d] }
  | _ => none }
def fnExactIsDiagramRow : OpenClaim := { program := "ytocbjpkllilpkaa", sum := "94d7ab5e93326ddd0266e0d26bb0903347daeda2bdcf359ff9ae756c6f6f4dc3", func := "loop.example/g03401/laws.FnExactIsDiagram", spec := "fnExactIsDiagram", plainKeys := false, apart := false }
def FnExactIsDiagramSaid : Prop := fnExactIsDiagramRow.holds Try.pinned (OpenSpec.ofChange fnExactIsDiagramSpec)

/-- ITS FALSE NEIGHBOUR: 'it returns false'. Refute it at one input. -/
def fnExactIsDiagramWrong : ChangeSpec := { name := "fnExactIsDiagram", fn := fun _ => fun
  | [d] => { results := [.lit (.bool false)], args := [d] }
  | _ => none }
def FnExactIsDiagramWrongFalsely : Prop := fnExactIsDiagramRow.holds Try.pinned (OpenSpec.ofChange fnExactIsDiagramWrong)

/-- 'laws.FnExactFussPaths': WHATEVER THE INPUT: true; the input reads as it did. -/
def fnExactFussPathsSpec : ChangeSpec := { name := "fnExactFussPaths", fn := fun _ => fun
  | [d1, d2] => { results := [.lit (.bool true)], args := [d1, d2] }
  | _ => none }
def fnExactFussPathsRow : OpenClaim := { program := "ytocbjpkllilpkaa", sum := "94d7ab5e93326ddd0266e0d26bb0903347daeda2bdcf359ff9ae756c6f6f4dc3", func := "loop.example/g03401/laws.FnExactFussPaths", spec := "fnExactFussPaths", unfollowed := true, recurses := true, plainKeys := false, apart := false }
def FnExactFussPathsSaid : Prop := fnExactFussPathsRow.holds Try.pinned (OpenSpec.ofChange fnExactFussPathsSpec)

/-- ITS FALSE NEIGHBOUR: 'it returns false'. Refute it at one input. -/
def fnExactFussPathsWrong : ChangeSpec := { name := "fnExactFussPaths", fn := fun _ => fun
  | [d1, d2] => { results := [.lit (.bool false)], args := [d1, d2] }
  | _ => none }
def FnExactFussPathsWrongFalsely : Prop := fnExactFussPathsRow.holds Try.pinned (OpenSpec.ofChange fnExactFussPathsWrong)

/-- 'laws.FnExactMotzkinOf': WHATEVER THE INPUT: true; the input reads as it did. -/
def fnExactMotzkinOfSpec : ChangeSpec := { name := "fnExactMotzkinOf", fn := fun _ => fun
  | [d] => { results := [.lit (.bool true)], args := [d] }
  | _ => none }
def fnExactMotzkinOfRow : OpenClaim := { program := "ytocbjpkllilpkaa", sum := "94d7ab5e93326ddd0266e0d26bb0903347daeda2bdcf359ff9ae756c6f6f4dc3", func := "loop.example/g03401/laws.FnExactMotzkinOf", spec := "fnExactMotzkinOf", plainKeys := false, apart := false }
def FnExactMotzkinOfSaid : Prop := fnExactMotzkinOfRow.holds Try.pinned (OpenSpec.ofChange fnExactMotzkinOfSpec)

/-- ITS FALSE NEIGHBOUR: 'it returns false'. Refute it at one input. -/
def fnExactMotzkinOfWrong : ChangeSpec := { name := "fnExactMotzkinOf", fn := fun _ => fun
  | [d] => { results := [.lit (.bool false)], args := [d] }
  | _ => none }
def FnExactMotzkinOfWrongFalsely : Prop := fnExactMotzkinOfRow.holds Try.pinned (OpenSpec.ofChange fnExactMotzkinOfWrong)

/-- 'laws.FnExactLittleSchroeder': WHATEVER THE INPUT: true; the input reads as it did. -/
def fnExactLittleSchroederSpec : ChangeSpec := { name := "fnExactLittleSchroeder", fn := fun _ => fun
  | [d] => { results := [.lit (.bool true)], args := [d] }
  | _ => none }
def fnExactLittleSchroederRow : OpenClaim := { program := "ytocbjpkllilpkaa", sum := "94d7ab5e93326ddd0266e0d26bb0903347daeda2bdcf359ff9ae756c6f6f4dc3", func := "loop.example/g03401/laws.FnExactLittleSchroeder", spec := "fnExactLittleSchroeder", unfollowed := true, recurses := true, plainKeys := false, apart := false }
def FnExactLittleSchroederSaid : Prop := fnExactLittleSchroederRow.holds Try.pinned (OpenSpec.ofChange fnExactLittleSchroederSpec)

/-- ITS FALSE NEIGHBOUR: 'it returns false'. Refute it at one input. -/
def fnExactLittleSchroederWrong : ChangeSpec := { name := "fnExactLittleSchroeder", fn := fun _ => fun
  | [d] => { results := [.lit (.bool false)], args := [d] }
  | _ => none }
def FnExactLittleSchroederWrongFalsely : Prop := fnExactLittleSchroederRow.holds Try.pinned (OpenSpec.ofChange fnExactLittleSchroederWrong)

/-- 'laws.FnExactMotzkinPaths': WHATEVER THE INPUT: true; the input reads as it did. -/
def fnExactMotzkinPathsSpec : ChangeSpec := { name := "fnExactMotzkinPaths", fn := fun _ => fun
  | [d] => { results := [.lit (.bool true)], args := [d] }
  | _ => none }
def fnExactMotzkinPathsRow : OpenClaim := { program := "ytocbjpkllilpkaa", sum := "94d7ab5e93326ddd0266e0d26bb0903347daeda2bdcf359ff9ae756c6f6f4dc3", func := "loop.example/g03401/laws.FnExactMotzkinPaths", spec := "fnExactMotzkinPaths", unfollowed := true, recurses := true, plainKeys := false, apart := false }
def FnExactMotzkinPathsSaid : Prop := fnExactMotzkinPathsRow.holds Try.pinned (OpenSpec.ofChange fnExactMotzkinPathsSpec)

/-- ITS FALSE NEIGHBOUR: 'it returns false'. Refute it at one input. -/
def fnExactMotzkinPathsWrong : ChangeSpec := { name := "fnExactMotzkinPaths", fn := fun _ => fun
  | [d] => { results := [.lit (.bool false)], args := [d] }
  | _ => none }
def FnExactMotzkinPathsWrongFalsely : Prop := fnExactMotzkinPathsRow.holds Try.pinned (OpenSpec.ofChange fnExactMotzkinPathsWrong)

/-- 'laws.FnExactSchroederPaths': WHATEVER THE INPUT: true; the input reads as it did. -/
def fnExactSchroederPathsSpec : ChangeSpec := { name := "fnExactSchroederPaths", fn := fun _ => fun
  | [d] => { results := [.lit (.bool true)], args := [d] }
  | _ => none }
def fnExactSchroederPathsRow : OpenClaim := { program := "ytocbjpkllilpkaa", sum := "94d7ab5e93326ddd0266e0d26bb0903347daeda2bdcf359ff9ae756c6f6f4dc3", func := "loop.example/g03401/laws.FnExactSchroederPaths", spec := "fnExactSchroederPaths", unfollowed := true, recurses := true, plainKeys := false, apart := false }
def FnExactSchroederPathsSaid : Prop := fnExactSchroederPathsRow.holds Try.pinned (OpenSpec.ofChange fnExactSchroederPathsSpec)

/-- ITS FALSE NEIGHBOUR: 'it returns false'. Refute it at one input. -/
def fnExactSchroederPathsWrong : ChangeSpec := { name := "fnExactSchroederPaths", fn := fun _ => fun
  | [d] => { results := [.lit (.bool false)], args := [d] }
  | _ => none }
def FnExactSchroederPathsWrongFalsely : Prop := fnExactSchroederPathsRow.holds Try.pinned (OpenSpec.ofChange fnExactSchroederPathsWrong)

/-- 'laws.FnExactLiftLevels': WHATEVER THE INPUT: true; the input reads as it did. -/
def fnExactLiftLevelsSpec : ChangeSpec := { name := "fnExactLiftLevels", fn := fun _ => fun
  | [d] => { results := [.lit (.bool true)], args := [d] }
  | _ => none }
def fnExactLiftLevelsRow : OpenClaim := { program := "ytocbjpkllilpkaa", sum := "94d7ab5e93326ddd0266e0d26bb0903347daeda2bdcf359ff9ae756c6f6f4dc3", func := "loop.example/g03401/laws.FnExactLiftLevels", spec := "fnExactLiftLevels", plainKeys := false, apart := false }
def FnExactLiftLevelsSaid : Prop := fnExactLiftLevelsRow.holds Try.pinned (OpenSpec.ofChange fnExactLiftLevelsSpec)

/-- ITS FALSE NEIGHBOUR: 'it returns false'. Refute it at one input. -/
def fnExactLiftLevelsWrong : ChangeSpec := { name := "fnExactLiftLevels", fn := fun _ => fun
  | [d] => { results := [.lit (.bool false)], args := [d] }
  | _ => none }
def FnExactLiftLevelsWrongFalsely : Prop := fnExactLiftLevelsRow.holds Try.pinned (OpenSpec.ofChange fnExactLiftLevelsWrong)

/-- 'laws.FnExactGoodShift': WHATEVER THE INPUT: true; the input reads as it did. -/
def fnExactGoodShiftSpec : ChangeSpec := { name := "fnExactGoodShift", fn := fun _ => fun
  | [d] => { results := [.lit (.bool true)], args := [d] }
  | _ => none }
def fnExactGoodShiftRow : OpenClaim := { program := "ytocbjpkllilpkaa", sum := "94d7ab5e93326ddd0266e0d26bb0903347daeda2bdcf359ff9ae756c6f6f4dc3", func := "loop.example/g03401/laws.FnExactGoodShift", spec := "fnExactGoodShift", plainKeys := false, apart := false }
def FnExactGoodShiftSaid : Prop := fnExactGoodShiftRow.holds Try.pinned (OpenSpec.ofChange fnExactGoodShiftSpec)

/-- ITS FALSE NEIGHBOUR: 'it returns false'. Refute it at one input. -/
def fnExactGoodShiftWrong : ChangeSpec := { name := "fnExactGoodShift", fn := fun _ => fun
  | [d] => { results := [.lit (.bool false)], args := [d] }
  | _ => none }
def FnExactGoodShiftWrongFalsely : Prop := fnExactGoodShiftRow.holds Try.pinned (OpenSpec.ofChange fnExactGoodShiftWrong)

/-- 'laws.FnExactCountGoodShifts': WHATEVER THE INPUT: true; the input reads as it did. -/
def fnExactCountGoodShiftsSpec : ChangeSpec := { name := "fnExactCountGoodShifts", fn := fun _ => fun
  | [d] => { results := [.lit (.bool true)], args := [d] }
  | _ => none }
def fnExactCountGoodShiftsRow : OpenClaim := { program := "ytocbjpkllilpkaa", sum := "94d7ab5e93326ddd0266e0d26bb0903347daeda2bdcf359ff9ae756c6f6f4dc3", func := "loop.example/g03401/laws.FnExactCountGoodShifts", spec := "fnExactCountGoodShifts", plainKeys := false, apart := false }
def FnExactCountGoodShiftsSaid : Prop := fnExactCountGoodShiftsRow.holds Try.pinned (OpenSpec.ofChange fnExactCountGoodShiftsSpec)

/-- ITS FALSE NEIGHBOUR: 'it returns false'. Refute it at one input. -/
def fnExactCountGoodShiftsWrong : ChangeSpec := { name := "fnExactCountGoodShifts", fn := fun _ => fun
  | [d] => { results := [.lit (.bool false)], args := [d] }
  | _ => none }
def FnExactCountGoodShiftsWrongFalsely : Prop := fnExactCountGoodShiftsRow.holds Try.pinned (OpenSpec.ofChange fnExactCountGoodShiftsWrong)

/-- 'laws.FnExactThroughOf': WHATEVER THE INPUT: true; the input reads as it did. -/
def fnExactThroughOfSpec : ChangeSpec := { name := "fnExactThroughOf", fn := fun _ => fun
  | [d] => { results := [.lit (.bool true)], args := [d] }
  | _ => none }
def fnExactThroughOfRow : OpenClaim := { program := "ytocbjpkllilpkaa", sum := "94d7ab5e93326ddd0266e0d26bb0903347daeda2bdcf359ff9ae756c6f6f4dc3", func := "loop.example/g03401/laws.FnExactThroughOf", spec := "fnExactThroughOf", plainKeys := false, apart := false }
def FnExactThroughOfSaid : Prop := fnExactThroughOfRow.holds Try.pinned (OpenSpec.ofChange fnExactThroughOfSpec)

/-- ITS FALSE NEIGHBOUR: 'it returns false'. Refute it at one input. -/
def fnExactThroughOfWrong : ChangeSpec := { name := "fnExactThroughOf", fn := fun _ => fun
  | [d] => { results := [.lit (.bool false)], args := [d] }
  | _ => none }
def FnExactThroughOfWrongFalsely : Prop := fnExactThroughOfRow.holds Try.pinned (OpenSpec.ofChange fnExactThroughOfWrong)

/-- 'laws.FnExactFlattenPeaks': WHATEVER THE INPUT: true; the input reads as it did. -/
def fnExactFlattenPeaksSpec : ChangeSpec := { name := "fnExactFlattenPeaks", fn := fun _ => fun
  | [d1, d2] => { results := [.lit (.bool true)], args := [d1, d2] }
  | _ => none }
def fnExactFlattenPeaksRow : OpenClaim := { program := "ytocbjpkllilpkaa", sum := "94d7ab5e93326ddd0266e0d26bb0903347daeda2bdcf359ff9ae756c6f6f4dc3", func := "loop.example/g03401/laws.FnExactFlattenPeaks", spec := "fnExactFlattenPeaks", plainKeys := false, apart := false }
def FnExactFlattenPeaksSaid : Prop := fnExactFlattenPeaksRow.holds Try.pinned (OpenSpec.ofChange fnExactFlattenPeaksSpec)

/-- ITS FALSE NEIGHBOUR: 'it returns false'. Refute it at one input. -/
def fnExactFlattenPeaksWrong : ChangeSpec := { name := "fnExactFlattenPeaks", fn := fun _ => fun
  | [d1, d2] => { results := [.lit (.bool false)], args := [d1, d2] }
  | _ => none }
def FnExactFlattenPeaksWrongFalsely : Prop := fnExactFlattenPeaksRow.holds Try.pinned (OpenSpec.ofChange fnExactFlattenPeaksWrong)

/- THE SECOND FORM. 'bulk': how many values and letters a reading holds, each counted each time it is reached (what is shared counts as often as it is met; a slice's spare places count too). A statement '..UptoSaid' is the law's where the arguments, and the package variables that the reading takes, are together of bulk at most 1048576: NARROWER than '..Said'. Prove '..Said' where nothing that the law and all that it calls make is longer than what came in: it says more and counts as full. Else prove '..UptoSaid'. A law counts once. -/
mutual
def uptoBulk {H : Type} : DataW H → Nat
  | .lit (.string bytes) => bytes.length + 1
  | .lit _ => 1
  | .nil => 1
  | .ptr d => uptoBulk d + 1
  | .slice elems spare => uptoBulkAll elems + uptoBulkAll spare + 1
  | .agg parts => uptoBulkAll parts + 1
  | .iface _ d => uptoBulk d + 1
  | .map entries => uptoBulkEntries entries + 1
  | .held _ => 1
def uptoBulkAll {H : Type} : List (DataW H) → Nat
  | [] => 0
  | d :: r => uptoBulk d + uptoBulkAll r
def uptoBulkEntries {H : Type} : List (Lit × DataW H) → Nat
  | [] => 0
  | x :: r => uptoBulkEntry x + uptoBulkEntries r
def uptoBulkEntry {H : Type} : Lit × DataW H → Nat
  | (.string bytes, d) => bytes.length + uptoBulk d + 1
  | (_, d) => uptoBulk d + 1
 end
def uptoSmall : (H : Type) → List (DataW H) → Bool := fun _ ds => decide (uptoBulkAll ds ≤ 1048576)
def OpenSpec.upto (s : _root_.Go.ChangeSpec) : _root_.Go.OpenSpec := { _root_.Go.OpenSpec.ofChange s with cond := some uptoSmall }

/-- 'laws.FnExactDyckOfMotzkin', WHERE WHAT IT READS IS OF BULK AT MOST 1048576: true; the input reads as it did. -/
def fnExactDyckOfMotzkinUptoRow : OpenClaim := { program := "ytocbjpkllilpkaa", sum := "94d7ab5e93326ddd0266e0d26bb0903347daeda2bdcf359ff9ae756c6f6f4dc3", func := "loop.example/g03401/laws.FnExactDyckOfMotzkin", spec := "fnExactDyckOfMotzkin", plainKeys := false, apart := false, narrowed := true }
def FnExactDyckOfMotzkinUptoSaid : Prop := fnExactDyckOfMotzkinUptoRow.holds Try.pinned (OpenSpec.upto fnExactDyckOfMotzkinSpec)

/-- 'laws.FnExactIsDiagram', WHERE WHAT IT READS IS OF BULK AT MOST 1048576: true; the input reads as it did. -/
def fnExactIsDiagramUptoRow : OpenClaim := { program := "ytocbjpkllilpkaa", sum := "94d7ab5e93326ddd0266e0d26bb0903347daeda2bdcf359ff9ae756c6f6f4dc3", func := "loop.example/g03401/laws.FnExactIsDiagram", spec := "fnExactIsDiagram", plainKeys := false, apart := false, narrowed := true }
def FnExactIsDiagramUptoSaid : Prop := fnExactIsDiagramUptoRow.holds Try.pinned (OpenSpec.upto fnExactIsDiagramSpec)

/-- 'laws.FnExactFussPaths', WHERE WHAT IT READS IS OF BULK AT MOST 1048576: true; the input reads as it did. -/
def fnExactFussPathsUptoRow : OpenClaim := { program := "ytocbjpkllilpkaa", sum := "94d7ab5e93326ddd0266e0d26bb0903347daeda2bdcf359ff9ae756c6f6f4dc3", func := "loop.example/g03401/laws.FnExactFussPaths", spec := "fnExactFussPaths", unfollowed := true, recurses := true, plainKeys := false, apart := false, narrowed := true }
def FnExactFussPathsUptoSaid : Prop := fnExactFussPathsUptoRow.holds Try.pinned (OpenSpec.upto fnExactFussPathsSpec)

/-- 'laws.FnExactMotzkinOf', WHERE WHAT IT READS IS OF BULK AT MOST 1048576: true; the input reads as it did. -/
def fnExactMotzkinOfUptoRow : OpenClaim := { program := "ytocbjpkllilpkaa", sum := "94d7ab5e93326ddd0266e0d26bb0903347daeda2bdcf359ff9ae756c6f6f4dc3", func := "loop.example/g03401/laws.FnExactMotzkinOf", spec := "fnExactMotzkinOf", plainKeys := false, apart := false, narrowed := true }
def FnExactMotzkinOfUptoSaid : Prop := fnExactMotzkinOfUptoRow.holds Try.pinned (OpenSpec.upto fnExactMotzkinOfSpec)

/-- 'laws.FnExactLittleSchroeder', WHERE WHAT IT READS IS OF BULK AT MOST 1048576: true; the input reads as it did. -/
def fnExactLittleSchroederUptoRow : OpenClaim := { program := "ytocbjpkllilpkaa", sum := "94d7ab5e93326ddd0266e0d26bb0903347daeda2bdcf359ff9ae756c6f6f4dc3", func := "loop.example/g03401/laws.FnExactLittleSchroeder", spec := "fnExactLittleSchroeder", unfollowed := true, recurses := true, plainKeys := false, apart := false, narrowed := true }
def FnExactLittleSchroederUptoSaid : Prop := fnExactLittleSchroederUptoRow.holds Try.pinned (OpenSpec.upto fnExactLittleSchroederSpec)

/-- 'laws.FnExactMotzkinPaths', WHERE WHAT IT READS IS OF BULK AT MOST 1048576: true; the input reads as it did. -/
def fnExactMotzkinPathsUptoRow : OpenClaim := { program := "ytocbjpkllilpkaa", sum := "94d7ab5e93326ddd0266e0d26bb0903347daeda2bdcf359ff9ae756c6f6f4dc3", func := "loop.example/g03401/laws.FnExactMotzkinPaths", spec := "fnExactMotzkinPaths", unfollowed := true, recurses := true, plainKeys := false, apart := false, narrowed := true }
def FnExactMotzkinPathsUptoSaid : Prop := fnExactMotzkinPathsUptoRow.holds Try.pinned (OpenSpec.upto fnExactMotzkinPathsSpec)

/-- 'laws.FnExactSchroederPaths', WHERE WHAT IT READS IS OF BULK AT MOST 1048576: true; the input reads as it did. -/
def fnExactSchroederPathsUptoRow : OpenClaim := { program := "ytocbjpkllilpkaa", sum := "94d7ab5e93326ddd0266e0d26bb0903347daeda2bdcf359ff9ae756c6f6f4dc3", func := "loop.example/g03401/laws.FnExactSchroederPaths", spec := "fnExactSchroederPaths", unfollowed := true, recurses := true, plainKeys := false, apart := false, narrowed := true }
def FnExactSchroederPathsUptoSaid : Prop := fnExactSchroederPathsUptoRow.holds Try.pinned (OpenSpec.upto fnExactSchroederPathsSpec)

/-- 'laws.FnExactLiftLevels', WHERE WHAT IT READS IS OF BULK AT MOST 1048576: true; the input reads as it did. -/
def fnExactLiftLevelsUptoRow : OpenClaim := { program := "ytocbjpkllilpkaa", sum := "94d7ab5e93326ddd0266e0d26bb0903347daeda2bdcf359ff9ae756c6f6f4dc3", func := "loop.example/g03401/laws.FnExactLiftLevels", spec := "fnExactLiftLevels", plainKeys := false, apart := false, narrowed := true }
def FnExactLiftLevelsUptoSaid : Prop := fnExactLiftLevelsUptoRow.holds Try.pinned (OpenSpec.upto fnExactLiftLevelsSpec)

/-- 'laws.FnExactGoodShift', WHERE WHAT IT READS IS OF BULK AT MOST 1048576: true; the input reads as it did. -/
def fnExactGoodShiftUptoRow : OpenClaim := { program := "ytocbjpkllilpkaa", sum := "94d7ab5e93326ddd0266e0d26bb0903347daeda2bdcf359ff9ae756c6f6f4dc3", func := "loop.example/g03401/laws.FnExactGoodShift", spec := "fnExactGoodShift", plainKeys := false, apart := false, narrowed := true }
def FnExactGoodShiftUptoSaid : Prop := fnExactGoodShiftUptoRow.holds Try.pinned (OpenSpec.upto fnExactGoodShiftSpec)

/-- 'laws.FnExactCountGoodShifts', WHERE WHAT IT READS IS OF BULK AT MOST 1048576: true; the input reads as it did. -/
def fnExactCountGoodShiftsUptoRow : OpenClaim := { program := "ytocbjpkllilpkaa", sum := "94d7ab5e93326ddd0266e0d26bb0903347daeda2bdcf359ff9ae756c6f6f4dc3", func := "loop.example/g03401/laws.FnExactCountGoodShifts", spec := "fnExactCountGoodShifts", plainKeys := false, apart := false, narrowed := true }
def FnExactCountGoodShiftsUptoSaid : Prop := fnExactCountGoodShiftsUptoRow.holds Try.pinned (OpenSpec.upto fnExactCountGoodShiftsSpec)

/-- 'laws.FnExactThroughOf', WHERE WHAT IT READS IS OF BULK AT MOST 1048576: true; the input reads as it did. -/
def fnExactThroughOfUptoRow : OpenClaim := { program := "ytocbjpkllilpkaa", sum := "94d7ab5e93326ddd0266e0d26bb0903347daeda2bdcf359ff9ae756c6f6f4dc3", func := "loop.example/g03401/laws.FnExactThroughOf", spec := "fnExactThroughOf", plainKeys := false, apart := false, narrowed := true }
def FnExactThroughOfUptoSaid : Prop := fnExactThroughOfUptoRow.holds Try.pinned (OpenSpec.upto fnExactThroughOfSpec)

/-- 'laws.FnExactFlattenPeaks', WHERE WHAT IT READS IS OF BULK AT MOST 1048576: true; the input reads as it did. -/
def fnExactFlattenPeaksUptoRow : OpenClaim := { program := "ytocbjpkllilpkaa", sum := "94d7ab5e93326ddd0266e0d26bb0903347daeda2bdcf359ff9ae756c6f6f4dc3", func := "loop.example/g03401/laws.FnExactFlattenPeaks", spec := "fnExactFlattenPeaks", plainKeys := false, apart := false, narrowed := true }
def FnExactFlattenPeaksUptoSaid : Prop := fnExactFlattenPeaksUptoRow.holds Try.pinned (OpenSpec.upto fnExactFlattenPeaksSpec)

end Rows
end Go.Proofs.Ytocbjpkllilpkaa
