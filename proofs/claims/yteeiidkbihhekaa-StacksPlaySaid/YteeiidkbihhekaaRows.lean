/-
  No cell of these rows narrows 'for every input' (looked for: loops, veiled, ifaces, maps, wideKeys, modest, calm, conditions, laid).
  DERIVED. THE GIVEN ROWS OF THIS SEAT. 5 by the template 'for every input the law returns true; each argument reads behind the call as it read before'; 0 by the template 'total and deterministic' (their statements: YteeiidkbihhekaaTotals.lean).
  GIVEN WITH THE SEED: the statements are not yours to turn. If you find one false, say at which input.
  Laid BY PROGRAM, IN A SANDBOX (cutbox-rows.mjs): the forced cells as the released guide's own fill.sh prints them over the translation 2250397bdb72086c… (all of the seat's roots in one cut). By AI agents, Wed Nov 11 2026. No macro, syntax, notation, axiom, sorry.
-/
import Derived.Test.YteeiidkbihhekaaChecked
import GoSem.Claim
import GoSem.ClaimJoined
import GoSem.ClaimMapViews
import Derived.JoinedTies
import Derived.KernelRfl
namespace Go.Proofs.Yteeiidkbihhekaa
/- THE CELL 'sum', in the pinned program and in every row, IS THE sha256 OF THE DUMP (.gsa) THAT YteeiidkbihhekaaProg.lean LOADS. Nothing in Lean hashes anything: it is a label: what it is worth is what the hold of that sum in a sandbox is worth. -/
noncomputable def Try.pinned : Pinned := { name := "yteeiidkbihhekaa", sum := "2250397bdb72086c0d1077e8edc69f3c9b2273b345ff16a8078d57043e64fda1", checked := Try.checked }
namespace Rows
def none {H : Type} : Left H := { results := [], args := [] }

/-- 'rootstocklaw18.StacksRow': WHATEVER THE INPUT: true; the input reads as it did. -/
def stacksRowSpec : ChangeSpec := { name := "stacksRow", fn := fun _ => fun
  | [d1, d2] => { results := [.lit (.bool true)], args := [d1, d2] }
  | _ => none }
def stacksRowRow : OpenClaim := { program := "yteeiidkbihhekaa", sum := "2250397bdb72086c0d1077e8edc69f3c9b2273b345ff16a8078d57043e64fda1", func := "rootstock/rootstocklaw18.StacksRow", spec := "stacksRow", recurses := true, plainKeys := false, apart := false }
def StacksRowSaid : Prop := stacksRowRow.holds Try.pinned (OpenSpec.ofChange stacksRowSpec)

/-- ITS FALSE NEIGHBOUR: 'it returns false'. Refute it at one input. -/
def stacksRowWrong : ChangeSpec := { name := "stacksRow", fn := fun _ => fun
  | [d1, d2] => { results := [.lit (.bool false)], args := [d1, d2] }
  | _ => none }
def StacksRowWrongFalsely : Prop := stacksRowRow.holds Try.pinned (OpenSpec.ofChange stacksRowWrong)

/-- 'rootstocklaw18.StacksStay': WHATEVER THE INPUT: true; the input reads as it did. -/
def stacksStaySpec : ChangeSpec := { name := "stacksStay", fn := fun _ => fun
  | [d1, d2] => { results := [.lit (.bool true)], args := [d1, d2] }
  | _ => none }
def stacksStayRow : OpenClaim := { program := "yteeiidkbihhekaa", sum := "2250397bdb72086c0d1077e8edc69f3c9b2273b345ff16a8078d57043e64fda1", func := "rootstock/rootstocklaw18.StacksStay", spec := "stacksStay", recurses := true, plainKeys := false, apart := false }
def StacksStaySaid : Prop := stacksStayRow.holds Try.pinned (OpenSpec.ofChange stacksStaySpec)

/-- ITS FALSE NEIGHBOUR: 'it returns false'. Refute it at one input. -/
def stacksStayWrong : ChangeSpec := { name := "stacksStay", fn := fun _ => fun
  | [d1, d2] => { results := [.lit (.bool false)], args := [d1, d2] }
  | _ => none }
def StacksStayWrongFalsely : Prop := stacksStayRow.holds Try.pinned (OpenSpec.ofChange stacksStayWrong)

/-- 'rootstocklaw18.StacksWays': WHATEVER THE INPUT: true; the input reads as it did. -/
def stacksWaysSpec : ChangeSpec := { name := "stacksWays", fn := fun _ => fun
  | [d1, d2, d3] => { results := [.lit (.bool true)], args := [d1, d2, d3] }
  | _ => none }
def stacksWaysRow : OpenClaim := { program := "yteeiidkbihhekaa", sum := "2250397bdb72086c0d1077e8edc69f3c9b2273b345ff16a8078d57043e64fda1", func := "rootstock/rootstocklaw18.StacksWays", spec := "stacksWays", recurses := true, plainKeys := false, apart := false }
def StacksWaysSaid : Prop := stacksWaysRow.holds Try.pinned (OpenSpec.ofChange stacksWaysSpec)

/-- ITS FALSE NEIGHBOUR: 'it returns false'. Refute it at one input. -/
def stacksWaysWrong : ChangeSpec := { name := "stacksWays", fn := fun _ => fun
  | [d1, d2, d3] => { results := [.lit (.bool false)], args := [d1, d2, d3] }
  | _ => none }
def StacksWaysWrongFalsely : Prop := stacksWaysRow.holds Try.pinned (OpenSpec.ofChange stacksWaysWrong)

/-- 'rootstocklaw18.StacksPlay': WHATEVER THE INPUT: true; the input reads as it did. -/
def stacksPlaySpec : ChangeSpec := { name := "stacksPlay", fn := fun _ => fun
  | [d1, d2, d3] => { results := [.lit (.bool true)], args := [d1, d2, d3] }
  | _ => none }
def stacksPlayRow : OpenClaim := { program := "yteeiidkbihhekaa", sum := "2250397bdb72086c0d1077e8edc69f3c9b2273b345ff16a8078d57043e64fda1", func := "rootstock/rootstocklaw18.StacksPlay", spec := "stacksPlay", recurses := true, plainKeys := false, apart := false }
def StacksPlaySaid : Prop := stacksPlayRow.holds Try.pinned (OpenSpec.ofChange stacksPlaySpec)

/-- ITS FALSE NEIGHBOUR: 'it returns false'. Refute it at one input. -/
def stacksPlayWrong : ChangeSpec := { name := "stacksPlay", fn := fun _ => fun
  | [d1, d2, d3] => { results := [.lit (.bool false)], args := [d1, d2, d3] }
  | _ => none }
def StacksPlayWrongFalsely : Prop := stacksPlayRow.holds Try.pinned (OpenSpec.ofChange stacksPlayWrong)

/-- 'rootstocklaw18.StacksNone': WHATEVER THE INPUT: true; the input reads as it did. -/
def stacksNoneSpec : ChangeSpec := { name := "stacksNone", fn := fun _ => fun
  | [d1, d2] => { results := [.lit (.bool true)], args := [d1, d2] }
  | _ => none }
def stacksNoneRow : OpenClaim := { program := "yteeiidkbihhekaa", sum := "2250397bdb72086c0d1077e8edc69f3c9b2273b345ff16a8078d57043e64fda1", func := "rootstock/rootstocklaw18.StacksNone", spec := "stacksNone", recurses := true, plainKeys := false, apart := false }
def StacksNoneSaid : Prop := stacksNoneRow.holds Try.pinned (OpenSpec.ofChange stacksNoneSpec)

/-- ITS FALSE NEIGHBOUR: 'it returns false'. Refute it at one input. -/
def stacksNoneWrong : ChangeSpec := { name := "stacksNone", fn := fun _ => fun
  | [d1, d2] => { results := [.lit (.bool false)], args := [d1, d2] }
  | _ => none }
def StacksNoneWrongFalsely : Prop := stacksNoneRow.holds Try.pinned (OpenSpec.ofChange stacksNoneWrong)

/- THE SECOND FORM. 'bulk': how many values and letters a reading holds, each counted each time it is reached (what is shared counts as often as it is met; a slice's spare places count too). A statement '..UptoSaid' is the law's where the arguments, and the package variables that the reading takes, are together of bulk at most 1048576: NARROWER than '..Said'. Prove '..Said' where nothing that the law and all that it calls make is longer than what came in: it says more and counts as full. Else prove '..UptoSaid'. A law counts once. -/
mutual
def uptoBulk {H : Type} : DataW H → Nat
  | .lit (.string bytes) => bytes.length + 1
  | .lit _ => 1
  | .nil => 1
  | .ptr d => uptoBulk d + 1
  | .slice elems spare => uptoBulkAll elems + uptoBulkAll spare + 1
  | .agg parts => uptoBulkAll parts + 1
  | .iface _ d => uptoBulk d + 1
  | .map entries => uptoBulkEntries entries + 1
  | .held _ => 1
def uptoBulkAll {H : Type} : List (DataW H) → Nat
  | [] => 0
  | d :: r => uptoBulk d + uptoBulkAll r
def uptoBulkEntries {H : Type} : List (Lit × DataW H) → Nat
  | [] => 0
  | x :: r => uptoBulkEntry x + uptoBulkEntries r
def uptoBulkEntry {H : Type} : Lit × DataW H → Nat
  | (.string bytes, d) => bytes.length + uptoBulk d + 1
  | (_, d) => uptoBulk d + 1
 end
def uptoSmall : (H : Type) → List (DataW H) → Bool := fun _ ds => decide (uptoBulkAll ds ≤ 1048576)
def OpenSpec.upto (s : _root_.Go.ChangeSpec) : _root_.Go.OpenSpec := { _root_.Go.OpenSpec.ofChange s with cond := some uptoSmall }

/-- 'rootstocklaw18.StacksRow', WHERE WHAT IT READS IS OF BULK AT MOST 1048576: true; the input reads as it did. -/
def stacksRowUptoRow : OpenClaim := { program := "yteeiidkbihhekaa", sum := "2250397bdb72086c0d1077e8edc69f3c9b2273b345ff16a8078d57043e64fda1", func := "rootstock/rootstocklaw18.StacksRow", spec := "stacksRow", recurses := true, plainKeys := false, apart := false, narrowed := true }
def StacksRowUptoSaid : Prop := stacksRowUptoRow.holds Try.pinned (OpenSpec.upto stacksRowSpec)

/-- 'rootstocklaw18.StacksStay', WHERE WHAT IT READS IS OF BULK AT MOST 1048576: true; the input reads as it did. -/
def stacksStayUptoRow : OpenClaim := { program := "yteeiidkbihhekaa", sum := "2250397bdb72086c0d1077e8edc69f3c9b2273b345ff16a8078d57043e64fda1", func := "rootstock/rootstocklaw18.StacksStay", spec := "stacksStay", recurses := true, plainKeys := false, apart := false, narrowed := true }
def StacksStayUptoSaid : Prop := stacksStayUptoRow.holds Try.pinned (OpenSpec.upto stacksStaySpec)

/-- 'rootstocklaw18.StacksWays', WHERE WHAT IT READS IS OF BULK AT MOST 1048576: true; the input reads as it did. -/
def stacksWaysUptoRow : OpenClaim := { program := "yteeiidkbihhekaa", sum := "2250397bdb72086c0d1077e8edc69f3c9b2273b345ff16a8078d57043e64fda1", func := "rootstock/rootstocklaw18.StacksWays", spec := "stacksWays", recurses := true, plainKeys := false, apart := false, narrowed := true }
def StacksWaysUptoSaid : Prop := stacksWaysUptoRow.holds Try.pinned (OpenSpec.upto stacksWaysSpec)

/-- 'rootstocklaw18.StacksPlay', WHERE WHAT IT READS IS OF BULK AT MOST 1048576: true; the input reads as it did. -/
def stacksPlayUptoRow : OpenClaim := { program := "yteeiidkbihhekaa", sum := "2250397bdb72086c0d1077e8edc69f3c9b2273b345ff16a8078d57043e64fda1", func := "rootstock/rootstocklaw18.StacksPlay", spec := "stacksPlay", recurses := true, plainKeys := false, apart := false, narrowed := true }
def StacksPlayUptoSaid : Prop := stacksPlayUptoRow.holds Try.pinned (OpenSpec.upto stacksPlaySpec)

/-- 'rootstocklaw18.StacksNone', WHERE WHAT IT READS IS OF BULK AT MOST 1048576: true; the input reads as it did. -/
def stacksNoneUptoRow : OpenClaim := { program := "yteeiidkbihhekaa", sum := "2250397bdb72086c0d1077e8edc69f3c9b2273b345ff16a8078d57043e64fda1", func := "rootstock/rootstocklaw18.StacksNone", spec := "stacksNone", recurses := true, plainKeys := false, apart := false, narrowed := true }
def StacksNoneUptoSaid : Prop := stacksNoneUptoRow.holds Try.pinned (OpenSpec.upto stacksNoneSpec)

end Rows
end Go.Proofs.Yteeiidkbihhekaa
