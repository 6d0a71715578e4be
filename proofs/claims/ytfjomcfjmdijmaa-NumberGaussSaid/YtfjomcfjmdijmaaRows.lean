/-
  No cell of these rows narrows 'for every input' (looked for: loops, veiled, ifaces, maps, wideKeys, modest, calm, conditions, laid).
  DERIVED. THE GIVEN ROWS OF THIS SEAT. 4 by the template 'for every input the law returns true; each argument reads behind the call as it read before'; 0 by the template 'total and deterministic' (their statements: YtfjomcfjmdijmaaTotals.lean).
  GIVEN WITH THE SEED: the statements are not yours to turn. If you find one false, say at which input.
  Laid BY PROGRAM, IN A SANDBOX (cutbox-rows.mjs): the forced cells as the released guide's own fill.sh prints them over the translation c2abb739de8a0979… (all of the seat's roots in one cut). By AI agents, Wed Nov 11 2026. No macro, syntax, notation, axiom, sorry.
-/
import Derived.Test.YtfjomcfjmdijmaaChecked
import GoSem.Claim
import GoSem.ClaimJoined
import GoSem.ClaimMapViews
import Derived.JoinedTies
import Derived.KernelRfl
namespace Go.Proofs.Ytfjomcfjmdijmaa
/- THE CELL 'sum', in the pinned program and in every row, IS THE sha256 OF THE DUMP (.gsa) THAT YtfjomcfjmdijmaaProg.lean LOADS. Nothing in Lean hashes anything: it is a label: what it is worth is what the hold of that sum in a sandbox is worth. -/
noncomputable def Try.pinned : Pinned := { name := "ytfjomcfjmdijmaa", sum := "c2abb739de8a0979321d7565822bf26f2c59c6d2497994b5ea8e84ec814f8f58", checked := Try.checked }
namespace Rows
def none {H : Type} : Left H := { results := [], args := [] }

/-- 'lanternlaw3.NumberInts': WHATEVER THE INPUT: true; the input reads as it did. -/
def numberIntsSpec : ChangeSpec := { name := "numberInts", fn := fun _ => fun
  | [d1, d2] => { results := [.lit (.bool true)], args := [d1, d2] }
  | _ => none }
def numberIntsRow : OpenClaim := { program := "ytfjomcfjmdijmaa", sum := "c2abb739de8a0979321d7565822bf26f2c59c6d2497994b5ea8e84ec814f8f58", func := "lantern/lanternlaw3.NumberInts", spec := "numberInts", apart := false }
def NumberIntsSaid : Prop := numberIntsRow.holds Try.pinned (OpenSpec.ofChange numberIntsSpec)

/-- ITS FALSE NEIGHBOUR: 'it returns false'. Refute it at one input. -/
def numberIntsWrong : ChangeSpec := { name := "numberInts", fn := fun _ => fun
  | [d1, d2] => { results := [.lit (.bool false)], args := [d1, d2] }
  | _ => none }
def NumberIntsWrongFalsely : Prop := numberIntsRow.holds Try.pinned (OpenSpec.ofChange numberIntsWrong)

/-- 'lanternlaw3.NumberRings': WHATEVER THE INPUT: true; the input reads as it did. -/
def numberRingsSpec : ChangeSpec := { name := "numberRings", fn := fun _ => fun
  | [d1, d2, d3] => { results := [.lit (.bool true)], args := [d1, d2, d3] }
  | _ => none }
def numberRingsRow : OpenClaim := { program := "ytfjomcfjmdijmaa", sum := "c2abb739de8a0979321d7565822bf26f2c59c6d2497994b5ea8e84ec814f8f58", func := "lantern/lanternlaw3.NumberRings", spec := "numberRings", unfollowed := true, recurses := true, apart := false }
def NumberRingsSaid : Prop := numberRingsRow.holds Try.pinned (OpenSpec.ofChange numberRingsSpec)

/-- ITS FALSE NEIGHBOUR: 'it returns false'. Refute it at one input. -/
def numberRingsWrong : ChangeSpec := { name := "numberRings", fn := fun _ => fun
  | [d1, d2, d3] => { results := [.lit (.bool false)], args := [d1, d2, d3] }
  | _ => none }
def NumberRingsWrongFalsely : Prop := numberRingsRow.holds Try.pinned (OpenSpec.ofChange numberRingsWrong)

/-- 'lanternlaw3.NumberReals': WHATEVER THE INPUT: true; the input reads as it did. -/
def numberRealsSpec : ChangeSpec := { name := "numberReals", fn := fun _ => fun
  | [d1, d2, d3] => { results := [.lit (.bool true)], args := [d1, d2, d3] }
  | _ => none }
def numberRealsRow : OpenClaim := { program := "ytfjomcfjmdijmaa", sum := "c2abb739de8a0979321d7565822bf26f2c59c6d2497994b5ea8e84ec814f8f58", func := "lantern/lanternlaw3.NumberReals", spec := "numberReals", apart := false }
def NumberRealsSaid : Prop := numberRealsRow.holds Try.pinned (OpenSpec.ofChange numberRealsSpec)

/-- ITS FALSE NEIGHBOUR: 'it returns false'. Refute it at one input. -/
def numberRealsWrong : ChangeSpec := { name := "numberReals", fn := fun _ => fun
  | [d1, d2, d3] => { results := [.lit (.bool false)], args := [d1, d2, d3] }
  | _ => none }
def NumberRealsWrongFalsely : Prop := numberRealsRow.holds Try.pinned (OpenSpec.ofChange numberRealsWrong)

/-- 'lanternlaw3.NumberGauss': WHATEVER THE INPUT: true; the input reads as it did. -/
def numberGaussSpec : ChangeSpec := { name := "numberGauss", fn := fun _ => fun
  | [d1, d2, d3, d4, d5] => { results := [.lit (.bool true)], args := [d1, d2, d3, d4, d5] }
  | _ => none }
def numberGaussRow : OpenClaim := { program := "ytfjomcfjmdijmaa", sum := "c2abb739de8a0979321d7565822bf26f2c59c6d2497994b5ea8e84ec814f8f58", func := "lantern/lanternlaw3.NumberGauss", spec := "numberGauss", apart := false }
def NumberGaussSaid : Prop := numberGaussRow.holds Try.pinned (OpenSpec.ofChange numberGaussSpec)

/-- ITS FALSE NEIGHBOUR: 'it returns false'. Refute it at one input. -/
def numberGaussWrong : ChangeSpec := { name := "numberGauss", fn := fun _ => fun
  | [d1, d2, d3, d4, d5] => { results := [.lit (.bool false)], args := [d1, d2, d3, d4, d5] }
  | _ => none }
def NumberGaussWrongFalsely : Prop := numberGaussRow.holds Try.pinned (OpenSpec.ofChange numberGaussWrong)

/- THE SECOND FORM. 'bulk': how many values and letters a reading holds, each counted each time it is reached (what is shared counts as often as it is met; a slice's spare places count too). A statement '..UptoSaid' is the law's where the arguments, and the package variables that the reading takes, are together of bulk at most 1048576: NARROWER than '..Said'. Prove '..Said' where nothing that the law and all that it calls make is longer than what came in: it says more and counts as full. Else prove '..UptoSaid'. A law counts once. -/
mutual
def uptoBulk {H : Type} : DataW H → Nat
  | .lit (.string bytes) => bytes.length + 1
  | .lit _ => 1
  | .nil => 1
  | .ptr d => uptoBulk d + 1
  | .slice elems spare => uptoBulkAll elems + uptoBulkAll spare + 1
  | .agg parts => uptoBulkAll parts + 1
  | .iface _ d => uptoBulk d + 1
  | .map entries => uptoBulkEntries entries + 1
  | .held _ => 1
def uptoBulkAll {H : Type} : List (DataW H) → Nat
  | [] => 0
  | d :: r => uptoBulk d + uptoBulkAll r
def uptoBulkEntries {H : Type} : List (Lit × DataW H) → Nat
  | [] => 0
  | x :: r => uptoBulkEntry x + uptoBulkEntries r
def uptoBulkEntry {H : Type} : Lit × DataW H → Nat
  | (.string bytes, d) => bytes.length + uptoBulk d + 1
  | (_, d) => uptoBulk d + 1
 end
def uptoSmall : (H : Type) → List (DataW H) → Bool := fun _ ds => decide (uptoBulkAll ds ≤ 1048576)
def OpenSpec.upto (s : _root_.Go.ChangeSpec) : _root_.Go.OpenSpec := { _root_.Go.OpenSpec.ofChange s with cond := some uptoSmall }

/-- 'lanternlaw3.NumberInts', WHERE WHAT IT READS IS OF BULK AT MOST 1048576: true; the input reads as it did. -/
def numberIntsUptoRow : OpenClaim := { program := "ytfjomcfjmdijmaa", sum := "c2abb739de8a0979321d7565822bf26f2c59c6d2497994b5ea8e84ec814f8f58", func := "lantern/lanternlaw3.NumberInts", spec := "numberInts", apart := false, narrowed := true }
def NumberIntsUptoSaid : Prop := numberIntsUptoRow.holds Try.pinned (OpenSpec.upto numberIntsSpec)

/-- 'lanternlaw3.NumberRings', WHERE WHAT IT READS IS OF BULK AT MOST 1048576: true; the input reads as it did. -/
def numberRingsUptoRow : OpenClaim := { program := "ytfjomcfjmdijmaa", sum := "c2abb739de8a0979321d7565822bf26f2c59c6d2497994b5ea8e84ec814f8f58", func := "lantern/lanternlaw3.NumberRings", spec := "numberRings", unfollowed := true, recurses := true, apart := false, narrowed := true }
def NumberRingsUptoSaid : Prop := numberRingsUptoRow.holds Try.pinned (OpenSpec.upto numberRingsSpec)

/-- 'lanternlaw3.NumberReals', WHERE WHAT IT READS IS OF BULK AT MOST 1048576: true; the input reads as it did. -/
def numberRealsUptoRow : OpenClaim := { program := "ytfjomcfjmdijmaa", sum := "c2abb739de8a0979321d7565822bf26f2c59c6d2497994b5ea8e84ec814f8f58", func := "lantern/lanternlaw3.NumberReals", spec := "numberReals", apart := false, narrowed := true }
def NumberRealsUptoSaid : Prop := numberRealsUptoRow.holds Try.pinned (OpenSpec.upto numberRealsSpec)

/-- 'lanternlaw3.NumberGauss', WHERE WHAT IT READS IS OF BULK AT MOST 1048576: true; the input reads as it did. -/
def numberGaussUptoRow : OpenClaim := { program := "ytfjomcfjmdijmaa", sum := "c2abb739de8a0979321d7565822bf26f2c59c6d2497994b5ea8e84ec814f8f58", func := "lantern/lanternlaw3.NumberGauss", spec := "numberGauss", apart := false, narrowed := true }
def NumberGaussUptoSaid : Prop := numberGaussUptoRow.holds Try.pinned (OpenSpec.upto numberGaussSpec)

end Rows
end Go.Proofs.Ytfjomcfjmdijmaa
