/-
  No cell of these rows narrows 'for every input' (looked for: loops, veiled, ifaces, maps, wideKeys, modest, calm, conditions, laid).
  DERIVED. THE GIVEN ROWS OF THIS SEAT. 12 by the template 'for every input the law returns true; each argument reads behind the call as it read before'; 0 by the template 'total and deterministic' (their statements: YtlkllofifjkehaaTotals.lean).
  GIVEN WITH THE SEED: the statements are not yours to turn. If you find one false, say at which input.
  Laid BY PROGRAM, IN A SANDBOX (cutbox-rows.mjs): the forced cells as the released guide's own fill.sh prints them over the translation ababcde54d8645af… (all of the seat's roots in one cut). By AI agents, Wed Nov 11 2026. No macro, syntax, notation, axiom, sorry.
-/
import Derived.Test.YtlkllofifjkehaaChecked
import GoSem.Claim
import GoSem.ClaimJoined
import GoSem.ClaimMapViews
import Derived.JoinedTies
import Derived.KernelRfl
namespace Go.Proofs.Ytlkllofifjkehaa
/- THE CELL 'sum', in the pinned program and in every row, IS THE sha256 OF THE DUMP (.gsa) THAT YtlkllofifjkehaaProg.lean LOADS. Nothing in Lean hashes anything: it is a label: what it is worth is what the hold of that sum in a sandbox is worth. -/
noncomputable def Try.pinned : Pinned := { name := "ytlkllofifjkehaa", sum := "ababcde54d8645af744f03d994399d1fdde0dfc6c52ffceb6a8756f61829ef32", checked := Try.checked }
namespace Rows
def none {H : Type} : Left H := { results := [], args := [] }

/-- 'laws.FnExactIsQuiddity': WHATEVER THE INPUT: true; the input reads as it did. -/
def fnExactIsQuidditySpec : ChangeSpec := { name := "fnExactIsQuiddity", fn := fun _ => fun
  | [d] => { results := [.lit (.bool true)], args := [d] }
  | _ => none }
def fnExactIsQuiddityRow : OpenClaim := { program := "ytlkllofifjkehaa", sum := "ababcde54d8645af744f03d994399d1fdde0dfc6c52ffceb6a8756f61829ef32", func := "loop.example/g03401/laws.FnExactIsQuiddity", spec := "fnExactIsQuiddity", apart := false }
def FnExactIsQuidditySaid : Prop := fnExactIsQuiddityRow.holds Try.pinned (OpenSpec.ofChange fnExactIsQuidditySpec)

/-- ITS FALSE NEIGHBOUR: 'it returns false'. Refute it at one input. -/
def fnExactIsQuiddityWrong : ChangeSpec := { name := "fnExactIsQuiddity", fn := fun _ => fun
  | [d] => { results := [.lit (.bool false)], args := [d] }
  | _ => none }
def FnExactIsQuiddityWrongFalsely : Prop := fnExactIsQuiddityRow.holds Try.pinned (OpenSpec.ofChange fnExactIsQuiddityWrong)

/-- 'laws.FnExactLoopsOf': WHATEVER THE INPUT: true; the input reads as it did. -/
def fnExactLoopsOfSpec : ChangeSpec := { name := "fnExactLoopsOf", fn := fun _ => fun
  | [d1, d2] => { results := [.lit (.bool true)], args := [d1, d2] }
  | _ => none }
def fnExactLoopsOfRow : OpenClaim := { program := "ytlkllofifjkehaa", sum := "ababcde54d8645af744f03d994399d1fdde0dfc6c52ffceb6a8756f61829ef32", func := "loop.example/g03401/laws.FnExactLoopsOf", spec := "fnExactLoopsOf", apart := false }
def FnExactLoopsOfSaid : Prop := fnExactLoopsOfRow.holds Try.pinned (OpenSpec.ofChange fnExactLoopsOfSpec)

/-- ITS FALSE NEIGHBOUR: 'it returns false'. Refute it at one input. -/
def fnExactLoopsOfWrong : ChangeSpec := { name := "fnExactLoopsOf", fn := fun _ => fun
  | [d1, d2] => { results := [.lit (.bool false)], args := [d1, d2] }
  | _ => none }
def FnExactLoopsOfWrongFalsely : Prop := fnExactLoopsOfRow.holds Try.pinned (OpenSpec.ofChange fnExactLoopsOfWrong)

/-- 'laws.FnExactFlipDiagram': WHATEVER THE INPUT: true; the input reads as it did. -/
def fnExactFlipDiagramSpec : ChangeSpec := { name := "fnExactFlipDiagram", fn := fun _ => fun
  | [d] => { results := [.lit (.bool true)], args := [d] }
  | _ => none }
def fnExactFlipDiagramRow : OpenClaim := { program := "ytlkllofifjkehaa", sum := "ababcde54d8645af744f03d994399d1fdde0dfc6c52ffceb6a8756f61829ef32", func := "loop.example/g03401/laws.FnExactFlipDiagram", spec := "fnExactFlipDiagram", apart := false }
def FnExactFlipDiagramSaid : Prop := fnExactFlipDiagramRow.holds Try.pinned (OpenSpec.ofChange fnExactFlipDiagramSpec)

/-- ITS FALSE NEIGHBOUR: 'it returns false'. Refute it at one input. -/
def fnExactFlipDiagramWrong : ChangeSpec := { name := "fnExactFlipDiagram", fn := fun _ => fun
  | [d] => { results := [.lit (.bool false)], args := [d] }
  | _ => none }
def FnExactFlipDiagramWrongFalsely : Prop := fnExactFlipDiagramRow.holds Try.pinned (OpenSpec.ofChange fnExactFlipDiagramWrong)

/-- 'laws.FnExactIsFrieze': WHATEVER THE INPUT: true; the input reads as it did. -/
def fnExactIsFriezeSpec : ChangeSpec := { name := "fnExactIsFrieze", fn := fun _ => fun
  | [d] => { results := [.lit (.bool true)], args := [d] }
  | _ => none }
def fnExactIsFriezeRow : OpenClaim := { program := "ytlkllofifjkehaa", sum := "ababcde54d8645af744f03d994399d1fdde0dfc6c52ffceb6a8756f61829ef32", func := "loop.example/g03401/laws.FnExactIsFrieze", spec := "fnExactIsFrieze", apart := false }
def FnExactIsFriezeSaid : Prop := fnExactIsFriezeRow.holds Try.pinned (OpenSpec.ofChange fnExactIsFriezeSpec)

/-- ITS FALSE NEIGHBOUR: 'it returns false'. Refute it at one input. -/
def fnExactIsFriezeWrong : ChangeSpec := { name := "fnExactIsFrieze", fn := fun _ => fun
  | [d] => { results := [.lit (.bool false)], args := [d] }
  | _ => none }
def FnExactIsFriezeWrongFalsely : Prop := fnExactIsFriezeRow.holds Try.pinned (OpenSpec.ofChange fnExactIsFriezeWrong)

/-- 'laws.FnExactJoinFuss': WHATEVER THE INPUT: true; the input reads as it did. -/
def fnExactJoinFussSpec : ChangeSpec := { name := "fnExactJoinFuss", fn := fun _ => fun
  | [d1, d2] => { results := [.lit (.bool true)], args := [d1, d2] }
  | _ => none }
def fnExactJoinFussRow : OpenClaim := { program := "ytlkllofifjkehaa", sum := "ababcde54d8645af744f03d994399d1fdde0dfc6c52ffceb6a8756f61829ef32", func := "loop.example/g03401/laws.FnExactJoinFuss", spec := "fnExactJoinFuss", apart := false }
def FnExactJoinFussSaid : Prop := fnExactJoinFussRow.holds Try.pinned (OpenSpec.ofChange fnExactJoinFussSpec)

/-- ITS FALSE NEIGHBOUR: 'it returns false'. Refute it at one input. -/
def fnExactJoinFussWrong : ChangeSpec := { name := "fnExactJoinFuss", fn := fun _ => fun
  | [d1, d2] => { results := [.lit (.bool false)], args := [d1, d2] }
  | _ => none }
def FnExactJoinFussWrongFalsely : Prop := fnExactJoinFussRow.holds Try.pinned (OpenSpec.ofChange fnExactJoinFussWrong)

/-- 'laws.FnExactIsMeander': WHATEVER THE INPUT: true; the input reads as it did. -/
def fnExactIsMeanderSpec : ChangeSpec := { name := "fnExactIsMeander", fn := fun _ => fun
  | [d1, d2] => { results := [.lit (.bool true)], args := [d1, d2] }
  | _ => none }
def fnExactIsMeanderRow : OpenClaim := { program := "ytlkllofifjkehaa", sum := "ababcde54d8645af744f03d994399d1fdde0dfc6c52ffceb6a8756f61829ef32", func := "loop.example/g03401/laws.FnExactIsMeander", spec := "fnExactIsMeander", apart := false }
def FnExactIsMeanderSaid : Prop := fnExactIsMeanderRow.holds Try.pinned (OpenSpec.ofChange fnExactIsMeanderSpec)

/-- ITS FALSE NEIGHBOUR: 'it returns false'. Refute it at one input. -/
def fnExactIsMeanderWrong : ChangeSpec := { name := "fnExactIsMeander", fn := fun _ => fun
  | [d1, d2] => { results := [.lit (.bool false)], args := [d1, d2] }
  | _ => none }
def FnExactIsMeanderWrongFalsely : Prop := fnExactIsMeanderRow.holds Try.pinned (OpenSpec.ofChange fnExactIsMeanderWrong)

/-- 'laws.FnExactFussRank': WHATEVER THE INPUT: true; the input reads as it did. -/
def fnExactFussRankSpec : ChangeSpec := { name := "fnExactFussRank", fn := fun _ => fun
  | [d1, d2] => { results := [.lit (.bool true)], args := [d1, d2] }
  | _ => none }
def fnExactFussRankRow : OpenClaim := { program := "ytlkllofifjkehaa", sum := "ababcde54d8645af744f03d994399d1fdde0dfc6c52ffceb6a8756f61829ef32", func := "loop.example/g03401/laws.FnExactFussRank", spec := "fnExactFussRank", unfollowed := true, recurses := true, apart := false }
def FnExactFussRankSaid : Prop := fnExactFussRankRow.holds Try.pinned (OpenSpec.ofChange fnExactFussRankSpec)

/-- ITS FALSE NEIGHBOUR: 'it returns false'. Refute it at one input. -/
def fnExactFussRankWrong : ChangeSpec := { name := "fnExactFussRank", fn := fun _ => fun
  | [d1, d2] => { results := [.lit (.bool false)], args := [d1, d2] }
  | _ => none }
def FnExactFussRankWrongFalsely : Prop := fnExactFussRankRow.holds Try.pinned (OpenSpec.ofChange fnExactFussRankWrong)

/-- 'laws.FnExactTraceLoops': WHATEVER THE INPUT: true; the input reads as it did. -/
def fnExactTraceLoopsSpec : ChangeSpec := { name := "fnExactTraceLoops", fn := fun _ => fun
  | [d] => { results := [.lit (.bool true)], args := [d] }
  | _ => none }
def fnExactTraceLoopsRow : OpenClaim := { program := "ytlkllofifjkehaa", sum := "ababcde54d8645af744f03d994399d1fdde0dfc6c52ffceb6a8756f61829ef32", func := "loop.example/g03401/laws.FnExactTraceLoops", spec := "fnExactTraceLoops", apart := false }
def FnExactTraceLoopsSaid : Prop := fnExactTraceLoopsRow.holds Try.pinned (OpenSpec.ofChange fnExactTraceLoopsSpec)

/-- ITS FALSE NEIGHBOUR: 'it returns false'. Refute it at one input. -/
def fnExactTraceLoopsWrong : ChangeSpec := { name := "fnExactTraceLoops", fn := fun _ => fun
  | [d] => { results := [.lit (.bool false)], args := [d] }
  | _ => none }
def FnExactTraceLoopsWrongFalsely : Prop := fnExactTraceLoopsRow.holds Try.pinned (OpenSpec.ofChange fnExactTraceLoopsWrong)

/-- 'laws.FnExactSplitFuss': WHATEVER THE INPUT: true; the input reads as it did. -/
def fnExactSplitFussSpec : ChangeSpec := { name := "fnExactSplitFuss", fn := fun _ => fun
  | [d1, d2] => { results := [.lit (.bool true)], args := [d1, d2] }
  | _ => none }
def fnExactSplitFussRow : OpenClaim := { program := "ytlkllofifjkehaa", sum := "ababcde54d8645af744f03d994399d1fdde0dfc6c52ffceb6a8756f61829ef32", func := "loop.example/g03401/laws.FnExactSplitFuss", spec := "fnExactSplitFuss", apart := false }
def FnExactSplitFussSaid : Prop := fnExactSplitFussRow.holds Try.pinned (OpenSpec.ofChange fnExactSplitFussSpec)

/-- ITS FALSE NEIGHBOUR: 'it returns false'. Refute it at one input. -/
def fnExactSplitFussWrong : ChangeSpec := { name := "fnExactSplitFuss", fn := fun _ => fun
  | [d1, d2] => { results := [.lit (.bool false)], args := [d1, d2] }
  | _ => none }
def FnExactSplitFussWrongFalsely : Prop := fnExactSplitFussRow.holds Try.pinned (OpenSpec.ofChange fnExactSplitFussWrong)

/-- 'laws.FnExactSumOfFrieze': WHATEVER THE INPUT: true; the input reads as it did. -/
def fnExactSumOfFriezeSpec : ChangeSpec := { name := "fnExactSumOfFrieze", fn := fun _ => fun
  | [d] => { results := [.lit (.bool true)], args := [d] }
  | _ => none }
def fnExactSumOfFriezeRow : OpenClaim := { program := "ytlkllofifjkehaa", sum := "ababcde54d8645af744f03d994399d1fdde0dfc6c52ffceb6a8756f61829ef32", func := "loop.example/g03401/laws.FnExactSumOfFrieze", spec := "fnExactSumOfFrieze", apart := false }
def FnExactSumOfFriezeSaid : Prop := fnExactSumOfFriezeRow.holds Try.pinned (OpenSpec.ofChange fnExactSumOfFriezeSpec)

/-- ITS FALSE NEIGHBOUR: 'it returns false'. Refute it at one input. -/
def fnExactSumOfFriezeWrong : ChangeSpec := { name := "fnExactSumOfFrieze", fn := fun _ => fun
  | [d] => { results := [.lit (.bool false)], args := [d] }
  | _ => none }
def FnExactSumOfFriezeWrongFalsely : Prop := fnExactSumOfFriezeRow.holds Try.pinned (OpenSpec.ofChange fnExactSumOfFriezeWrong)

/-- 'laws.FnExactTurnMeander': WHATEVER THE INPUT: true; the input reads as it did. -/
def fnExactTurnMeanderSpec : ChangeSpec := { name := "fnExactTurnMeander", fn := fun _ => fun
  | [d1, d2] => { results := [.lit (.bool true)], args := [d1, d2] }
  | _ => none }
def fnExactTurnMeanderRow : OpenClaim := { program := "ytlkllofifjkehaa", sum := "ababcde54d8645af744f03d994399d1fdde0dfc6c52ffceb6a8756f61829ef32", func := "loop.example/g03401/laws.FnExactTurnMeander", spec := "fnExactTurnMeander", apart := false }
def FnExactTurnMeanderSaid : Prop := fnExactTurnMeanderRow.holds Try.pinned (OpenSpec.ofChange fnExactTurnMeanderSpec)

/-- ITS FALSE NEIGHBOUR: 'it returns false'. Refute it at one input. -/
def fnExactTurnMeanderWrong : ChangeSpec := { name := "fnExactTurnMeander", fn := fun _ => fun
  | [d1, d2] => { results := [.lit (.bool false)], args := [d1, d2] }
  | _ => none }
def FnExactTurnMeanderWrongFalsely : Prop := fnExactTurnMeanderRow.holds Try.pinned (OpenSpec.ofChange fnExactTurnMeanderWrong)

/-- 'laws.FnExactMultiplyDiagrams': WHATEVER THE INPUT: true; the input reads as it did. -/
def fnExactMultiplyDiagramsSpec : ChangeSpec := { name := "fnExactMultiplyDiagrams", fn := fun _ => fun
  | [d1, d2] => { results := [.lit (.bool true)], args := [d1, d2] }
  | _ => none }
def fnExactMultiplyDiagramsRow : OpenClaim := { program := "ytlkllofifjkehaa", sum := "ababcde54d8645af744f03d994399d1fdde0dfc6c52ffceb6a8756f61829ef32", func := "loop.example/g03401/laws.FnExactMultiplyDiagrams", spec := "fnExactMultiplyDiagrams", unfollowed := true, recurses := true, apart := false }
def FnExactMultiplyDiagramsSaid : Prop := fnExactMultiplyDiagramsRow.holds Try.pinned (OpenSpec.ofChange fnExactMultiplyDiagramsSpec)

/-- ITS FALSE NEIGHBOUR: 'it returns false'. Refute it at one input. -/
def fnExactMultiplyDiagramsWrong : ChangeSpec := { name := "fnExactMultiplyDiagrams", fn := fun _ => fun
  | [d1, d2] => { results := [.lit (.bool false)], args := [d1, d2] }
  | _ => none }
def FnExactMultiplyDiagramsWrongFalsely : Prop := fnExactMultiplyDiagramsRow.holds Try.pinned (OpenSpec.ofChange fnExactMultiplyDiagramsWrong)

/- THE SECOND FORM. 'bulk': how many values and letters a reading holds, each counted each time it is reached (what is shared counts as often as it is met; a slice's spare places count too). A statement '..UptoSaid' is the law's where the arguments, and the package variables that the reading takes, are together of bulk at most 1048576: NARROWER than '..Said'. Prove '..Said' where nothing that the law and all that it calls make is longer than what came in: it says more and counts as full. Else prove '..UptoSaid'. A law counts once. -/
mutual
def uptoBulk {H : Type} : DataW H → Nat
  | .lit (.string bytes) => bytes.length + 1
  | .lit _ => 1
  | .nil => 1
  | .ptr d => uptoBulk d + 1
  | .slice elems spare => uptoBulkAll elems + uptoBulkAll spare + 1
  | .agg parts => uptoBulkAll parts + 1
  | .iface _ d => uptoBulk d + 1
  | .map entries => uptoBulkEntries entries + 1
  | .held _ => 1
def uptoBulkAll {H : Type} : List (DataW H) → Nat
  | [] => 0
  | d :: r => uptoBulk d + uptoBulkAll r
def uptoBulkEntries {H : Type} : List (Lit × DataW H) → Nat
  | [] => 0
  | x :: r => uptoBulkEntry x + uptoBulkEntries r
def uptoBulkEntry {H : Type} : Lit × DataW H → Nat
  | (.string bytes, d) => bytes.length + uptoBulk d + 1
  | (_, d) => uptoBulk d + 1
 end
def uptoSmall : (H : Type) → List (DataW H) → Bool := fun _ ds => decide (uptoBulkAll ds ≤ 1048576)
def OpenSpec.upto (s : _root_.Go.ChangeSpec) : _root_.Go.OpenSpec := { _root_.Go.OpenSpec.ofChange s with cond := some uptoSmall }

/-- 'laws.FnExactIsQuiddity', WHERE WHAT IT READS IS OF BULK AT MOST 1048576: true; the input reads as it did. -/
def fnExactIsQuiddityUptoRow : OpenClaim := { program := "ytlkllofifjkehaa", sum := "ababcde54d8645af744f03d994399d1fdde0dfc6c52ffceb6a8756f61829ef32", func := "loop.example/g03401/laws.FnExactIsQuiddity", spec := "fnExactIsQuiddity", apart := false, narrowed := true }
def FnExactIsQuiddityUptoSaid : Prop := fnExactIsQuiddityUptoRow.holds Try.pinned (OpenSpec.upto fnExactIsQuidditySpec)

/-- 'laws.FnExactLoopsOf', WHERE WHAT IT READS IS OF BULK AT MOST 1048576: true; the input reads as it did. -/
def fnExactLoopsOfUptoRow : OpenClaim := { program := "ytlkllofifjkehaa", sum := "ababcde54d8645af744f03d994399d1fdde0dfc6c52ffceb6a8756f61829ef32", func := "loop.example/g03401/laws.FnExactLoopsOf", spec := "fnExactLoopsOf", apart := false, narrowed := true }
def FnExactLoopsOfUptoSaid : Prop := fnExactLoopsOfUptoRow.holds Try.pinned (OpenSpec.upto fnExactLoopsOfSpec)

/-- 'laws.FnExactFlipDiagram', WHERE WHAT IT READS IS OF BULK AT MOST 1048576: true; the input reads as it did. -/
def fnExactFlipDiagramUptoRow : OpenClaim := { program := "ytlkllofifjkehaa", sum := "ababcde54d8645af744f03d994399d1fdde0dfc6c52ffceb6a8756f61829ef32", func := "loop.example/g03401/laws.FnExactFlipDiagram", spec := "fnExactFlipDiagram", apart := false, narrowed := true }
def FnExactFlipDiagramUptoSaid : Prop := fnExactFlipDiagramUptoRow.holds Try.pinned (OpenSpec.upto fnExactFlipDiagramSpec)

/-- 'laws.FnExactIsFrieze', WHERE WHAT IT READS IS OF BULK AT MOST 1048576: true; the input reads as it did. -/
def fnExactIsFriezeUptoRow : OpenClaim := { program := "ytlkllofifjkehaa", sum := "ababcde54d8645af744f03d994399d1fdde0dfc6c52ffceb6a8756f61829ef32", func := "loop.example/g03401/laws.FnExactIsFrieze", spec := "fnExactIsFrieze", apart := false, narrowed := true }
def FnExactIsFriezeUptoSaid : Prop := fnExactIsFriezeUptoRow.holds Try.pinned (OpenSpec.upto fnExactIsFriezeSpec)

/-- 'laws.FnExactJoinFuss', WHERE WHAT IT READS IS OF BULK AT MOST 1048576: true; the input reads as it did. -/
def fnExactJoinFussUptoRow : OpenClaim := { program := "ytlkllofifjkehaa", sum := "ababcde54d8645af744f03d994399d1fdde0dfc6c52ffceb6a8756f61829ef32", func := "loop.example/g03401/laws.FnExactJoinFuss", spec := "fnExactJoinFuss", apart := false, narrowed := true }
def FnExactJoinFussUptoSaid : Prop := fnExactJoinFussUptoRow.holds Try.pinned (OpenSpec.upto fnExactJoinFussSpec)

/-- 'laws.FnExactIsMeander', WHERE WHAT IT READS IS OF BULK AT MOST 1048576: true; the input reads as it did. -/
def fnExactIsMeanderUptoRow : OpenClaim := { program := "ytlkllofifjkehaa", sum := "ababcde54d8645af744f03d994399d1fdde0dfc6c52ffceb6a8756f61829ef32", func := "loop.example/g03401/laws.FnExactIsMeander", spec := "fnExactIsMeander", apart := false, narrowed := true }
def FnExactIsMeanderUptoSaid : Prop := fnExactIsMeanderUptoRow.holds Try.pinned (OpenSpec.upto fnExactIsMeanderSpec)

/-- 'laws.FnExactFussRank', WHERE WHAT IT READS IS OF BULK AT MOST 1048576: true; the input reads as it did. -/
def fnExactFussRankUptoRow : OpenClaim := { program := "ytlkllofifjkehaa", sum := "ababcde54d8645af744f03d994399d1fdde0dfc6c52ffceb6a8756f61829ef32", func := "loop.example/g03401/laws.FnExactFussRank", spec := "fnExactFussRank", unfollowed := true, recurses := true, apart := false, narrowed := true }
def FnExactFussRankUptoSaid : Prop := fnExactFussRankUptoRow.holds Try.pinned (OpenSpec.upto fnExactFussRankSpec)

/-- 'laws.FnExactTraceLoops', WHERE WHAT IT READS IS OF BULK AT MOST 1048576: true; the input reads as it did. -/
def fnExactTraceLoopsUptoRow : OpenClaim := { program := "ytlkllofifjkehaa", sum := "ababcde54d8645af744f03d994399d1fdde0dfc6c52ffceb6a8756f61829ef32", func := "loop.example/g03401/laws.FnExactTraceLoops", spec := "fnExactTraceLoops", apart := false, narrowed := true }
def FnExactTraceLoopsUptoSaid : Prop := fnExactTraceLoopsUptoRow.holds Try.pinned (OpenSpec.upto fnExactTraceLoopsSpec)

/-- 'laws.FnExactSplitFuss', WHERE WHAT IT READS IS OF BULK AT MOST 1048576: true; the input reads as it did. -/
def fnExactSplitFussUptoRow : OpenClaim := { program := "ytlkllofifjkehaa", sum := "ababcde54d8645af744f03d994399d1fdde0dfc6c52ffceb6a8756f61829ef32", func := "loop.example/g03401/laws.FnExactSplitFuss", spec := "fnExactSplitFuss", apart := false, narrowed := true }
def FnExactSplitFussUptoSaid : Prop := fnExactSplitFussUptoRow.holds Try.pinned (OpenSpec.upto fnExactSplitFussSpec)

/-- 'laws.FnExactSumOfFrieze', WHERE WHAT IT READS IS OF BULK AT MOST 1048576: true; the input reads as it did. -/
def fnExactSumOfFriezeUptoRow : OpenClaim := { program := "ytlkllofifjkehaa", sum := "ababcde54d8645af744f03d994399d1fdde0dfc6c52ffceb6a8756f61829ef32", func := "loop.example/g03401/laws.FnExactSumOfFrieze", spec := "fnExactSumOfFrieze", apart := false, narrowed := true }
def FnExactSumOfFriezeUptoSaid : Prop := fnExactSumOfFriezeUptoRow.holds Try.pinned (OpenSpec.upto fnExactSumOfFriezeSpec)

/-- 'laws.FnExactTurnMeander', WHERE WHAT IT READS IS OF BULK AT MOST 1048576: true; the input reads as it did. -/
def fnExactTurnMeanderUptoRow : OpenClaim := { program := "ytlkllofifjkehaa", sum := "ababcde54d8645af744f03d994399d1fdde0dfc6c52ffceb6a8756f61829ef32", func := "loop.example/g03401/laws.FnExactTurnMeander", spec := "fnExactTurnMeander", apart := false, narrowed := true }
def FnExactTurnMeanderUptoSaid : Prop := fnExactTurnMeanderUptoRow.holds Try.pinned (OpenSpec.upto fnExactTurnMeanderSpec)

/-- 'laws.FnExactMultiplyDiagrams', WHERE WHAT IT READS IS OF BULK AT MOST 1048576: true; the input reads as it did. -/
def fnExactMultiplyDiagramsUptoRow : OpenClaim := { program := "ytlkllofifjkehaa", sum := "ababcde54d8645af744f03d994399d1fdde0dfc6c52ffceb6a8756f61829ef32", func := "loop.example/g03401/laws.FnExactMultiplyDiagrams", spec := "fnExactMultiplyDiagrams", unfollowed := true, recurses := true, apart := false, narrowed := true }
def FnExactMultiplyDiagramsUptoSaid : Prop := fnExactMultiplyDiagramsUptoRow.holds Try.pinned (OpenSpec.upto fnExactMultiplyDiagramsSpec)

end Rows
end Go.Proofs.Ytlkllofifjkehaa
