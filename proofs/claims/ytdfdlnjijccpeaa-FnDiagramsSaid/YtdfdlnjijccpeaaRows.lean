/-
  No cell of these rows narrows 'for every input' (looked for: loops, veiled, ifaces, maps, wideKeys, modest, calm, conditions, laid).
  DERIVED. THE GIVEN ROWS OF THIS SEAT. 5 by the template 'for every input the law returns true; each argument reads behind the call as it read before'; 0 by the template 'total and deterministic' (their statements: YtdfdlnjijccpeaaTotals.lean).
  GIVEN WITH THE SEED: the statements are not yours to turn. If you find one false, say at which input.
  Laid BY PROGRAM, IN A SANDBOX (cutbox-rows.mjs): the forced cells as the released guide's own fill.sh prints them over the translation 4f9f21c3dd0de11c… (all of the seat's roots in one cut). By AI agents, Wed Nov 11 2026. No macro, syntax, notation, axiom, sorry.
-/
import Derived.Test.YtdfdlnjijccpeaaChecked
import GoSem.Claim
import GoSem.ClaimJoined
import GoSem.ClaimMapViews
import Derived.JoinedTies
import Derived.KernelRfl
namespace Go.Proofs.Ytdfdlnjijccpeaa
/- THE CELL 'sum', in the pinned program and in every row, IS THE sha256 OF THE DUMP (.gsa) THAT YtdfdlnjijccpeaaProg.lean LOADS. Nothing in Lean hashes anything: it is a label: what it is worth is what the hold of that sum in a sandbox is worth. -/
noncomputable def Try.pinned : Pinned := { name := "ytdfdlnjijccpeaa", sum := "4f9f21c3dd0de11c980a5fe493a682106b6bcb455405cdcf5511aae041e0ffd3", checked := Try.checked }
namespace Rows
def none {H : Type} : Left H := { results := [], args := [] }

/-- 'laws.FnDiagrams': WHATEVER THE INPUT: true; the input reads as it did. -/
def fnDiagramsSpec : ChangeSpec := { name := "fnDiagrams", fn := fun _ => fun
  | [d] => { results := [.lit (.bool true)], args := [d] }
  | _ => none }
def fnDiagramsRow : OpenClaim := { program := "ytdfdlnjijccpeaa", sum := "4f9f21c3dd0de11c980a5fe493a682106b6bcb455405cdcf5511aae041e0ffd3", func := "loop.example/g03401/laws.FnDiagrams", spec := "fnDiagrams", unfollowed := true, recurses := true, plainKeys := false, apart := false }
def FnDiagramsSaid : Prop := fnDiagramsRow.holds Try.pinned (OpenSpec.ofChange fnDiagramsSpec)

/-- ITS FALSE NEIGHBOUR: 'it returns false'. Refute it at one input. -/
def fnDiagramsWrong : ChangeSpec := { name := "fnDiagrams", fn := fun _ => fun
  | [d] => { results := [.lit (.bool false)], args := [d] }
  | _ => none }
def FnDiagramsWrongFalsely : Prop := fnDiagramsRow.holds Try.pinned (OpenSpec.ofChange fnDiagramsWrong)

/-- 'laws.FnExactLittleSchroeder': WHATEVER THE INPUT: true; the input reads as it did. -/
def fnExactLittleSchroederSpec : ChangeSpec := { name := "fnExactLittleSchroeder", fn := fun _ => fun
  | [d] => { results := [.lit (.bool true)], args := [d] }
  | _ => none }
def fnExactLittleSchroederRow : OpenClaim := { program := "ytdfdlnjijccpeaa", sum := "4f9f21c3dd0de11c980a5fe493a682106b6bcb455405cdcf5511aae041e0ffd3", func := "loop.example/g03401/laws.FnExactLittleSchroeder", spec := "fnExactLittleSchroeder", unfollowed := true, recurses := true, plainKeys := false, apart := false }
def FnExactLittleSchroederSaid : Prop := fnExactLittleSchroederRow.holds Try.pinned (OpenSpec.ofChange fnExactLittleSchroederSpec)

/-- ITS FALSE NEIGHBOUR: 'it returns false'. Refute it at one input. -/
def fnExactLittleSchroederWrong : ChangeSpec := { name := "fnExactLittleSchroeder", fn := fun _ => fun
  | [d] => { results := [.lit (.bool false)], args := [d] }
  | _ => none }
def FnExactLittleSchroederWrongFalsely : Prop := fnExactLittleSchroederRow.holds Try.pinned (OpenSpec.ofChange fnExactLittleSchroederWrong)

/-- 'laws.FnFuss': WHATEVER THE INPUT: true; the input reads as it did. -/
def fnFussSpec : ChangeSpec := { name := "fnFuss", fn := fun _ => fun
  | [d] => { results := [.lit (.bool true)], args := [d] }
  | _ => none }
def fnFussRow : OpenClaim := { program := "ytdfdlnjijccpeaa", sum := "4f9f21c3dd0de11c980a5fe493a682106b6bcb455405cdcf5511aae041e0ffd3", func := "loop.example/g03401/laws.FnFuss", spec := "fnFuss", unfollowed := true, recurses := true, plainKeys := false, apart := false }
def FnFussSaid : Prop := fnFussRow.holds Try.pinned (OpenSpec.ofChange fnFussSpec)

/-- ITS FALSE NEIGHBOUR: 'it returns false'. Refute it at one input. -/
def fnFussWrong : ChangeSpec := { name := "fnFuss", fn := fun _ => fun
  | [d] => { results := [.lit (.bool false)], args := [d] }
  | _ => none }
def FnFussWrongFalsely : Prop := fnFussRow.holds Try.pinned (OpenSpec.ofChange fnFussWrong)

/-- 'laws.FnMeanders': WHATEVER THE INPUT: true; the input reads as it did. -/
def fnMeandersSpec : ChangeSpec := { name := "fnMeanders", fn := fun _ => fun
  | [d] => { results := [.lit (.bool true)], args := [d] }
  | _ => none }
def fnMeandersRow : OpenClaim := { program := "ytdfdlnjijccpeaa", sum := "4f9f21c3dd0de11c980a5fe493a682106b6bcb455405cdcf5511aae041e0ffd3", func := "loop.example/g03401/laws.FnMeanders", spec := "fnMeanders", unfollowed := true, recurses := true, plainKeys := false, apart := false }
def FnMeandersSaid : Prop := fnMeandersRow.holds Try.pinned (OpenSpec.ofChange fnMeandersSpec)

/-- ITS FALSE NEIGHBOUR: 'it returns false'. Refute it at one input. -/
def fnMeandersWrong : ChangeSpec := { name := "fnMeanders", fn := fun _ => fun
  | [d] => { results := [.lit (.bool false)], args := [d] }
  | _ => none }
def FnMeandersWrongFalsely : Prop := fnMeandersRow.holds Try.pinned (OpenSpec.ofChange fnMeandersWrong)

/-- 'laws.FnSchroeder': WHATEVER THE INPUT: true; the input reads as it did. -/
def fnSchroederSpec : ChangeSpec := { name := "fnSchroeder", fn := fun _ => fun
  | [d] => { results := [.lit (.bool true)], args := [d] }
  | _ => none }
def fnSchroederRow : OpenClaim := { program := "ytdfdlnjijccpeaa", sum := "4f9f21c3dd0de11c980a5fe493a682106b6bcb455405cdcf5511aae041e0ffd3", func := "loop.example/g03401/laws.FnSchroeder", spec := "fnSchroeder", unfollowed := true, recurses := true, plainKeys := false, apart := false }
def FnSchroederSaid : Prop := fnSchroederRow.holds Try.pinned (OpenSpec.ofChange fnSchroederSpec)

/-- ITS FALSE NEIGHBOUR: 'it returns false'. Refute it at one input. -/
def fnSchroederWrong : ChangeSpec := { name := "fnSchroeder", fn := fun _ => fun
  | [d] => { results := [.lit (.bool false)], args := [d] }
  | _ => none }
def FnSchroederWrongFalsely : Prop := fnSchroederRow.holds Try.pinned (OpenSpec.ofChange fnSchroederWrong)

/- THE SECOND FORM. 'bulk': how many values and letters a reading holds, each counted each time it is reached (what is shared counts as often as it is met; a slice's spare places count too). A statement '..UptoSaid' is the law's where the arguments, and the package variables that the reading takes, are together of bulk at most 1048576: NARROWER than '..Said'. Prove '..Said' where nothing that the law and all that it calls make is longer than what came in: it says more and counts as full. Else prove '..UptoSaid'. A law counts once. -/
mutual
def uptoBulk {H : Type} : DataW H → Nat
  | .lit (.string bytes) => bytes.length + 1
  | .lit _ => 1
  | .nil => 1
  | .ptr d => uptoBulk d + 1
  | .slice elems spare => uptoBulkAll elems + uptoBulkAll spare + 1
  | .agg parts => uptoBulkAll parts + 1
  | .iface _ d => uptoBulk d + 1
  | .map entries => uptoBulkEntries entries + 1
  | .held _ => 1
def uptoBulkAll {H : Type} : List (DataW H) → Nat
  | [] => 0
  | d :: r => uptoBulk d + uptoBulkAll r
def uptoBulkEntries {H : Type} : List (Lit × DataW H) → Nat
  | [] => 0
  | x :: r => uptoBulkEntry x + uptoBulkEntries r
def uptoBulkEntry {H : Type} : Lit × DataW H → Nat
  | (.string bytes, d) => bytes.length + uptoBulk d + 1
  | (_, d) => uptoBulk d + 1
 end
def uptoSmall : (H : Type) → List (DataW H) → Bool := fun _ ds => decide (uptoBulkAll ds ≤ 1048576)
def OpenSpec.upto (s : _root_.Go.ChangeSpec) : _root_.Go.OpenSpec := { _root_.Go.OpenSpec.ofChange s with cond := some uptoSmall }

/-- 'laws.FnDiagrams', WHERE WHAT IT READS IS OF BULK AT MOST 1048576: true; the input reads as it did. -/
def fnDiagramsUptoRow : OpenClaim := { program := "ytdfdlnjijccpeaa", sum := "4f9f21c3dd0de11c980a5fe493a682106b6bcb455405cdcf5511aae041e0ffd3", func := "loop.example/g03401/laws.FnDiagrams", spec := "fnDiagrams", unfollowed := true, recurses := true, plainKeys := false, apart := false, narrowed := true }
def FnDiagramsUptoSaid : Prop := fnDiagramsUptoRow.holds Try.pinned (OpenSpec.upto fnDiagramsSpec)

/-- 'laws.FnExactLittleSchroeder', WHERE WHAT IT READS IS OF BULK AT MOST 1048576: true; the input reads as it did. -/
def fnExactLittleSchroederUptoRow : OpenClaim := { program := "ytdfdlnjijccpeaa", sum := "4f9f21c3dd0de11c980a5fe493a682106b6bcb455405cdcf5511aae041e0ffd3", func := "loop.example/g03401/laws.FnExactLittleSchroeder", spec := "fnExactLittleSchroeder", unfollowed := true, recurses := true, plainKeys := false, apart := false, narrowed := true }
def FnExactLittleSchroederUptoSaid : Prop := fnExactLittleSchroederUptoRow.holds Try.pinned (OpenSpec.upto fnExactLittleSchroederSpec)

/-- 'laws.FnFuss', WHERE WHAT IT READS IS OF BULK AT MOST 1048576: true; the input reads as it did. -/
def fnFussUptoRow : OpenClaim := { program := "ytdfdlnjijccpeaa", sum := "4f9f21c3dd0de11c980a5fe493a682106b6bcb455405cdcf5511aae041e0ffd3", func := "loop.example/g03401/laws.FnFuss", spec := "fnFuss", unfollowed := true, recurses := true, plainKeys := false, apart := false, narrowed := true }
def FnFussUptoSaid : Prop := fnFussUptoRow.holds Try.pinned (OpenSpec.upto fnFussSpec)

/-- 'laws.FnMeanders', WHERE WHAT IT READS IS OF BULK AT MOST 1048576: true; the input reads as it did. -/
def fnMeandersUptoRow : OpenClaim := { program := "ytdfdlnjijccpeaa", sum := "4f9f21c3dd0de11c980a5fe493a682106b6bcb455405cdcf5511aae041e0ffd3", func := "loop.example/g03401/laws.FnMeanders", spec := "fnMeanders", unfollowed := true, recurses := true, plainKeys := false, apart := false, narrowed := true }
def FnMeandersUptoSaid : Prop := fnMeandersUptoRow.holds Try.pinned (OpenSpec.upto fnMeandersSpec)

/-- 'laws.FnSchroeder', WHERE WHAT IT READS IS OF BULK AT MOST 1048576: true; the input reads as it did. -/
def fnSchroederUptoRow : OpenClaim := { program := "ytdfdlnjijccpeaa", sum := "4f9f21c3dd0de11c980a5fe493a682106b6bcb455405cdcf5511aae041e0ffd3", func := "loop.example/g03401/laws.FnSchroeder", spec := "fnSchroeder", unfollowed := true, recurses := true, plainKeys := false, apart := false, narrowed := true }
def FnSchroederUptoSaid : Prop := fnSchroederUptoRow.holds Try.pinned (OpenSpec.upto fnSchroederSpec)

end Rows
end Go.Proofs.Ytdfdlnjijccpeaa
