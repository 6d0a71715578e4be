/-
  No cell of these rows narrows 'for every input' (looked for: loops, veiled, ifaces, maps, wideKeys, modest, calm, conditions, laid).
  DERIVED. THE GIVEN ROWS OF THIS SEAT. 9 by the template 'for every input the law returns true; each argument reads behind the call as it read before'; 0 by the template 'total and deterministic' (their statements: YtljfknneijmfoaaTotals.lean).
  GIVEN WITH THE SEED: the statements are not yours to turn. If you find one false, say at which input.
  Laid BY PROGRAM, IN A SANDBOX (cutbox-rows.mjs): the forced cells as the released guide's own fill.sh prints them over the translation 8ab238924a731cb1… (all of the seat's roots in one cut). By AI agents, Wed Nov 11 2026. No macro, syntax, notation, axiom, sorry.
-/
import Derived.Test.YtljfknneijmfoaaChecked
import GoSem.Claim
import GoSem.ClaimJoined
import GoSem.ClaimMapViews
import Derived.JoinedTies
import Derived.KernelRfl
namespace Go.Proofs.Ytljfknneijmfoaa
/- THE CELL 'sum', in the pinned program and in every row, IS THE sha256 OF THE DUMP (.gsa) THAT YtljfknneijmfoaaProg.lean LOADS. Nothing in Lean hashes anything: it is a label: what it is worth is what the hold of that sum in a sandbox is worth. -/
noncomputable def Try.pinned : Pinned := { name := "ytljfknneijmfoaa", sum := "8ab238924a731cb1ba415b51f60319f73da0dc7e690df88a0fad3bad42494cf6", checked := Try.checked }
namespace Rows
def none {H : Type} : Left H := { results := [], args := [] }

/-- 'lanternlaw26.QueryAlias': WHATEVER THE INPUT: true; the input reads as it did. -/
def queryAliasSpec : ChangeSpec := { name := "queryAlias", fn := fun _ => fun
  | [d1, d2, d3, d4] => { results := [.lit (.bool true)], args := [d1, d2, d3, d4] }
  | _ => none }
def queryAliasRow : OpenClaim := { program := "ytljfknneijmfoaa", sum := "8ab238924a731cb1ba415b51f60319f73da0dc7e690df88a0fad3bad42494cf6", func := "lantern/lanternlaw26.QueryAlias", spec := "queryAlias", unfollowed := true, recurses := true, apart := false }
def QueryAliasSaid : Prop := queryAliasRow.holds Try.pinned (OpenSpec.ofChange queryAliasSpec)

/-- ITS FALSE NEIGHBOUR: 'it returns false'. Refute it at one input. -/
def queryAliasWrong : ChangeSpec := { name := "queryAlias", fn := fun _ => fun
  | [d1, d2, d3, d4] => { results := [.lit (.bool false)], args := [d1, d2, d3, d4] }
  | _ => none }
def QueryAliasWrongFalsely : Prop := queryAliasRow.holds Try.pinned (OpenSpec.ofChange queryAliasWrong)

/-- 'lanternlaw26.QueryAsks': WHATEVER THE INPUT: true; the input reads as it did. -/
def queryAsksSpec : ChangeSpec := { name := "queryAsks", fn := fun _ => fun
  | [d1, d2, d3] => { results := [.lit (.bool true)], args := [d1, d2, d3] }
  | _ => none }
def queryAsksRow : OpenClaim := { program := "ytljfknneijmfoaa", sum := "8ab238924a731cb1ba415b51f60319f73da0dc7e690df88a0fad3bad42494cf6", func := "lantern/lanternlaw26.QueryAsks", spec := "queryAsks", unfollowed := true, recurses := true, apart := false }
def QueryAsksSaid : Prop := queryAsksRow.holds Try.pinned (OpenSpec.ofChange queryAsksSpec)

/-- ITS FALSE NEIGHBOUR: 'it returns false'. Refute it at one input. -/
def queryAsksWrong : ChangeSpec := { name := "queryAsks", fn := fun _ => fun
  | [d1, d2, d3] => { results := [.lit (.bool false)], args := [d1, d2, d3] }
  | _ => none }
def QueryAsksWrongFalsely : Prop := queryAsksRow.holds Try.pinned (OpenSpec.ofChange queryAsksWrong)

/-- 'lanternlaw23.GraphPaths': WHATEVER THE INPUT: true; the input reads as it did. -/
def graphPathsSpec : ChangeSpec := { name := "graphPaths", fn := fun _ => fun
  | [d1, d2, d3] => { results := [.lit (.bool true)], args := [d1, d2, d3] }
  | _ => none }
def graphPathsRow : OpenClaim := { program := "ytljfknneijmfoaa", sum := "8ab238924a731cb1ba415b51f60319f73da0dc7e690df88a0fad3bad42494cf6", func := "lantern/lanternlaw23.GraphPaths", spec := "graphPaths", inPlace := ["internal/abi.NoEscape"], unfollowed := true, recurses := true, apart := false }
def GraphPathsSaid : Prop := graphPathsRow.holds Try.pinned (OpenSpec.ofChange graphPathsSpec)

/-- ITS FALSE NEIGHBOUR: 'it returns false'. Refute it at one input. -/
def graphPathsWrong : ChangeSpec := { name := "graphPaths", fn := fun _ => fun
  | [d1, d2, d3] => { results := [.lit (.bool false)], args := [d1, d2, d3] }
  | _ => none }
def GraphPathsWrongFalsely : Prop := graphPathsRow.holds Try.pinned (OpenSpec.ofChange graphPathsWrong)

/-- 'lanternlaw23.GraphWays': WHATEVER THE INPUT: true; the input reads as it did. -/
def graphWaysSpec : ChangeSpec := { name := "graphWays", fn := fun _ => fun
  | [d1, d2, d3] => { results := [.lit (.bool true)], args := [d1, d2, d3] }
  | _ => none }
def graphWaysRow : OpenClaim := { program := "ytljfknneijmfoaa", sum := "8ab238924a731cb1ba415b51f60319f73da0dc7e690df88a0fad3bad42494cf6", func := "lantern/lanternlaw23.GraphWays", spec := "graphWays", inPlace := ["internal/abi.NoEscape"], unfollowed := true, recurses := true, apart := false }
def GraphWaysSaid : Prop := graphWaysRow.holds Try.pinned (OpenSpec.ofChange graphWaysSpec)

/-- ITS FALSE NEIGHBOUR: 'it returns false'. Refute it at one input. -/
def graphWaysWrong : ChangeSpec := { name := "graphWays", fn := fun _ => fun
  | [d1, d2, d3] => { results := [.lit (.bool false)], args := [d1, d2, d3] }
  | _ => none }
def GraphWaysWrongFalsely : Prop := graphWaysRow.holds Try.pinned (OpenSpec.ofChange graphWaysWrong)

/-- 'lanternlaw23.GraphRings': WHATEVER THE INPUT: true; the input reads as it did. -/
def graphRingsSpec : ChangeSpec := { name := "graphRings", fn := fun _ => fun
  | [d] => { results := [.lit (.bool true)], args := [d] }
  | _ => none }
def graphRingsRow : OpenClaim := { program := "ytljfknneijmfoaa", sum := "8ab238924a731cb1ba415b51f60319f73da0dc7e690df88a0fad3bad42494cf6", func := "lantern/lanternlaw23.GraphRings", spec := "graphRings", inPlace := ["internal/abi.NoEscape"], unfollowed := true, recurses := true, apart := false }
def GraphRingsSaid : Prop := graphRingsRow.holds Try.pinned (OpenSpec.ofChange graphRingsSpec)

/-- ITS FALSE NEIGHBOUR: 'it returns false'. Refute it at one input. -/
def graphRingsWrong : ChangeSpec := { name := "graphRings", fn := fun _ => fun
  | [d] => { results := [.lit (.bool false)], args := [d] }
  | _ => none }
def GraphRingsWrongFalsely : Prop := graphRingsRow.holds Try.pinned (OpenSpec.ofChange graphRingsWrong)

/-- 'lanternlaw26.QueryCalls': WHATEVER THE INPUT: true; the input reads as it did. -/
def queryCallsSpec : ChangeSpec := { name := "queryCalls", fn := fun _ => fun
  | [d1, d2, d3] => { results := [.lit (.bool true)], args := [d1, d2, d3] }
  | _ => none }
def queryCallsRow : OpenClaim := { program := "ytljfknneijmfoaa", sum := "8ab238924a731cb1ba415b51f60319f73da0dc7e690df88a0fad3bad42494cf6", func := "lantern/lanternlaw26.QueryCalls", spec := "queryCalls", unfollowed := true, recurses := true, apart := false }
def QueryCallsSaid : Prop := queryCallsRow.holds Try.pinned (OpenSpec.ofChange queryCallsSpec)

/-- ITS FALSE NEIGHBOUR: 'it returns false'. Refute it at one input. -/
def queryCallsWrong : ChangeSpec := { name := "queryCalls", fn := fun _ => fun
  | [d1, d2, d3] => { results := [.lit (.bool false)], args := [d1, d2, d3] }
  | _ => none }
def QueryCallsWrongFalsely : Prop := queryCallsRow.holds Try.pinned (OpenSpec.ofChange queryCallsWrong)

/-- 'lanternlaw26.QueryEdges': WHATEVER THE INPUT: true; the input reads as it did. -/
def queryEdgesSpec : ChangeSpec := { name := "queryEdges", fn := fun _ => fun
  | [d] => { results := [.lit (.bool true)], args := [d] }
  | _ => none }
def queryEdgesRow : OpenClaim := { program := "ytljfknneijmfoaa", sum := "8ab238924a731cb1ba415b51f60319f73da0dc7e690df88a0fad3bad42494cf6", func := "lantern/lanternlaw26.QueryEdges", spec := "queryEdges", unfollowed := true, recurses := true, apart := false }
def QueryEdgesSaid : Prop := queryEdgesRow.holds Try.pinned (OpenSpec.ofChange queryEdgesSpec)

/-- ITS FALSE NEIGHBOUR: 'it returns false'. Refute it at one input. -/
def queryEdgesWrong : ChangeSpec := { name := "queryEdges", fn := fun _ => fun
  | [d] => { results := [.lit (.bool false)], args := [d] }
  | _ => none }
def QueryEdgesWrongFalsely : Prop := queryEdgesRow.holds Try.pinned (OpenSpec.ofChange queryEdgesWrong)

/-- 'lanternlaw23.GraphAsks': WHATEVER THE INPUT: true; the input reads as it did. -/
def graphAsksSpec : ChangeSpec := { name := "graphAsks", fn := fun _ => fun
  | [d1, d2] => { results := [.lit (.bool true)], args := [d1, d2] }
  | _ => none }
def graphAsksRow : OpenClaim := { program := "ytljfknneijmfoaa", sum := "8ab238924a731cb1ba415b51f60319f73da0dc7e690df88a0fad3bad42494cf6", func := "lantern/lanternlaw23.GraphAsks", spec := "graphAsks", inPlace := ["internal/abi.NoEscape"], unfollowed := true, recurses := true, apart := false }
def GraphAsksSaid : Prop := graphAsksRow.holds Try.pinned (OpenSpec.ofChange graphAsksSpec)

/-- ITS FALSE NEIGHBOUR: 'it returns false'. Refute it at one input. -/
def graphAsksWrong : ChangeSpec := { name := "graphAsks", fn := fun _ => fun
  | [d1, d2] => { results := [.lit (.bool false)], args := [d1, d2] }
  | _ => none }
def GraphAsksWrongFalsely : Prop := graphAsksRow.holds Try.pinned (OpenSpec.ofChange graphAsksWrong)

/-- 'lanternlaw23.GraphOrder': WHATEVER THE INPUT: true; the input reads as it did. -/
def graphOrderSpec : ChangeSpec := { name := "graphOrder", fn := fun _ => fun
  | [d1, d2] => { results := [.lit (.bool true)], args := [d1, d2] }
  | _ => none }
def graphOrderRow : OpenClaim := { program := "ytljfknneijmfoaa", sum := "8ab238924a731cb1ba415b51f60319f73da0dc7e690df88a0fad3bad42494cf6", func := "lantern/lanternlaw23.GraphOrder", spec := "graphOrder", inPlace := ["internal/abi.NoEscape"], unfollowed := true, recurses := true, apart := false }
def GraphOrderSaid : Prop := graphOrderRow.holds Try.pinned (OpenSpec.ofChange graphOrderSpec)

/-- ITS FALSE NEIGHBOUR: 'it returns false'. Refute it at one input. -/
def graphOrderWrong : ChangeSpec := { name := "graphOrder", fn := fun _ => fun
  | [d1, d2] => { results := [.lit (.bool false)], args := [d1, d2] }
  | _ => none }
def GraphOrderWrongFalsely : Prop := graphOrderRow.holds Try.pinned (OpenSpec.ofChange graphOrderWrong)

/- THE SECOND FORM. 'bulk': how many values and letters a reading holds, each counted each time it is reached (what is shared counts as often as it is met; a slice's spare places count too). A statement '..UptoSaid' is the law's where the arguments, and the package variables that the reading takes, are together of bulk at most 1048576: NARROWER than '..Said'. Prove '..Said' where nothing that the law and all that it calls make is longer than what came in: it says more and counts as full. Else prove '..UptoSaid'. A law counts once. -/
mutual
def uptoBulk {H : Type} : DataW H → Nat
  | .lit (.string bytes) => bytes.length + 1
  | .lit _ => 1
  | .nil => 1
  | .ptr d => uptoBulk d + 1
  | .slice elems spare => uptoBulkAll elems + uptoBulkAll spare + 1
  | .agg parts => uptoBulkAll parts + 1
  | .iface _ d => uptoBulk d + 1
  | .map entries => uptoBulkEntries entries + 1
  | .held _ => 1
def uptoBulkAll {H : Type} : List (DataW H) → Nat
  | [] => 0
  | d :: r => uptoBulk d + uptoBulkAll r
def uptoBulkEntries {H : Type} : List (Lit × DataW H) → Nat
  | [] => 0
  | x :: r => uptoBulkEntry x + uptoBulkEntries r
def uptoBulkEntry {H : Type} : Lit × DataW H → Nat
  | (.string bytes, d) => bytes.length + uptoBulk d + 1
  | (_, d) => uptoBulk d + 1
 end
def uptoSmall : (H : Type) → List (DataW H) → Bool := fun _ ds => decide (uptoBulkAll ds ≤ 1048576)
def OpenSpec.upto (s : _root_.Go.ChangeSpec) : _root_.Go.OpenSpec := { _root_.Go.OpenSpec.ofChange s with cond := some uptoSmall }

/-- 'lanternlaw26.QueryAlias', WHERE WHAT IT READS IS OF BULK AT MOST 1048576: true; the input reads as it did. -/
def queryAliasUptoRow : OpenClaim := { program := "ytljfknneijmfoaa", sum := "8ab238924a731cb1ba415b51f60319f73da0dc7e690df88a0fad3bad42494cf6", func := "lantern/lanternlaw26.QueryAlias", spec := "queryAlias", unfollowed := true, recurses := true, apart := false, narrowed := true }
def QueryAliasUptoSaid : Prop := queryAliasUptoRow.holds Try.pinned (OpenSpec.upto queryAliasSpec)

/-- 'lanternlaw26.QueryAsks', WHERE WHAT IT READS IS OF BULK AT MOST 1048576: true; the input reads as it did. -/
def queryAsksUptoRow : OpenClaim := { program := "ytljfknneijmfoaa", sum := "8ab238924a731cb1ba415b51f60319f73da0dc7e690df88a0fad3bad42494cf6", func := "lantern/lanternlaw26.QueryAsks", spec := "queryAsks", unfollowed := true, recurses := true, apart := false, narrowed := true }
def QueryAsksUptoSaid : Prop := queryAsksUptoRow.holds Try.pinned (OpenSpec.upto queryAsksSpec)

/-- 'lanternlaw23.GraphPaths', WHERE WHAT IT READS IS OF BULK AT MOST 1048576: true; the input reads as it did. -/
def graphPathsUptoRow : OpenClaim := { program := "ytljfknneijmfoaa", sum := "8ab238924a731cb1ba415b51f60319f73da0dc7e690df88a0fad3bad42494cf6", func := "lantern/lanternlaw23.GraphPaths", spec := "graphPaths", inPlace := ["internal/abi.NoEscape"], unfollowed := true, recurses := true, apart := false, narrowed := true }
def GraphPathsUptoSaid : Prop := graphPathsUptoRow.holds Try.pinned (OpenSpec.upto graphPathsSpec)

/-- 'lanternlaw23.GraphWays', WHERE WHAT IT READS IS OF BULK AT MOST 1048576: true; the input reads as it did. -/
def graphWaysUptoRow : OpenClaim := { program := "ytljfknneijmfoaa", sum := "8ab238924a731cb1ba415b51f60319f73da0dc7e690df88a0fad3bad42494cf6", func := "lantern/lanternlaw23.GraphWays", spec := "graphWays", inPlace := ["internal/abi.NoEscape"], unfollowed := true, recurses := true, apart := false, narrowed := true }
def GraphWaysUptoSaid : Prop := graphWaysUptoRow.holds Try.pinned (OpenSpec.upto graphWaysSpec)

/-- 'lanternlaw23.GraphRings', WHERE WHAT IT READS IS OF BULK AT MOST 1048576: true; the input reads as it did. -/
def graphRingsUptoRow : OpenClaim := { program := "ytljfknneijmfoaa", sum := "8ab238924a731cb1ba415b51f60319f73da0dc7e690df88a0fad3bad42494cf6", func := "lantern/lanternlaw23.GraphRings", spec := "graphRings", inPlace := ["internal/abi.NoEscape"], unfollowed := true, recurses := true, apart := false, narrowed := true }
def GraphRingsUptoSaid : Prop := graphRingsUptoRow.holds Try.pinned (OpenSpec.upto graphRingsSpec)

/-- 'lanternlaw26.QueryCalls', WHERE WHAT IT READS IS OF BULK AT MOST 1048576: true; the input reads as it did. -/
def queryCallsUptoRow : OpenClaim := { program := "ytljfknneijmfoaa", sum := "8ab238924a731cb1ba415b51f60319f73da0dc7e690df88a0fad3bad42494cf6", func := "lantern/lanternlaw26.QueryCalls", spec := "queryCalls", unfollowed := true, recurses := true, apart := false, narrowed := true }
def QueryCallsUptoSaid : Prop := queryCallsUptoRow.holds Try.pinned (OpenSpec.upto queryCallsSpec)

/-- 'lanternlaw26.QueryEdges', WHERE WHAT IT READS IS OF BULK AT MOST 1048576: true; the input reads as it did. -/
def queryEdgesUptoRow : OpenClaim := { program := "ytljfknneijmfoaa", sum := "8ab238924a731cb1ba415b51f60319f73da0dc7e690df88a0fad3bad42494cf6", func := "lantern/lanternlaw26.QueryEdges", spec := "queryEdges", unfollowed := true, recurses := true, apart := false, narrowed := true }
def QueryEdgesUptoSaid : Prop := queryEdgesUptoRow.holds Try.pinned (OpenSpec.upto queryEdgesSpec)

/-- 'lanternlaw23.GraphAsks', WHERE WHAT IT READS IS OF BULK AT MOST 1048576: true; the input reads as it did. -/
def graphAsksUptoRow : OpenClaim := { program := "ytljfknneijmfoaa", sum := "8ab238924a731cb1ba415b51f60319f73da0dc7e690df88a0fad3bad42494cf6", func := "lantern/lanternlaw23.GraphAsks", spec := "graphAsks", inPlace := ["internal/abi.NoEscape"], unfollowed := true, recurses := true, apart := false, narrowed := true }
def GraphAsksUptoSaid : Prop := graphAsksUptoRow.holds Try.pinned (OpenSpec.upto graphAsksSpec)

/-- 'lanternlaw23.GraphOrder', WHERE WHAT IT READS IS OF BULK AT MOST 1048576: true; the input reads as it did. -/
def graphOrderUptoRow : OpenClaim := { program := "ytljfknneijmfoaa", sum := "8ab238924a731cb1ba415b51f60319f73da0dc7e690df88a0fad3bad42494cf6", func := "lantern/lanternlaw23.GraphOrder", spec := "graphOrder", inPlace := ["internal/abi.NoEscape"], unfollowed := true, recurses := true, apart := false, narrowed := true }
def GraphOrderUptoSaid : Prop := graphOrderUptoRow.holds Try.pinned (OpenSpec.upto graphOrderSpec)

end Rows
end Go.Proofs.Ytljfknneijmfoaa
