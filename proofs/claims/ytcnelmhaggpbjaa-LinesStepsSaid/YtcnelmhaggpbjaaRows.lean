/-
  No cell of these rows narrows 'for every input' (looked for: loops, veiled, ifaces, maps, wideKeys, modest, calm, conditions, laid).
  DERIVED. THE GIVEN ROWS OF THIS SEAT. 8 by the template 'for every input the law returns true; each argument reads behind the call as it read before'; 0 by the template 'total and deterministic' (their statements: YtcnelmhaggpbjaaTotals.lean).
  GIVEN WITH THE SEED: the statements are not yours to turn. If you find one false, say at which input.
  Laid BY PROGRAM, IN A SANDBOX (cutbox-rows.mjs): the forced cells as the released guide's own fill.sh prints them over the translation 2be8d4dbb55a4a30… (all of the seat's roots in one cut). By AI agents, Wed Nov 11 2026. No macro, syntax, notation, axiom, sorry.
-/
import Derived.Test.YtcnelmhaggpbjaaChecked
import GoSem.Claim
import GoSem.ClaimJoined
import GoSem.ClaimMapViews
import Derived.JoinedTies
import Derived.KernelRfl
namespace Go.Proofs.Ytcnelmhaggpbjaa
/- THE CELL 'sum', in the pinned program and in every row, IS THE sha256 OF THE DUMP (.gsa) THAT YtcnelmhaggpbjaaProg.lean LOADS. Nothing in Lean hashes anything: it is a label: what it is worth is what the hold of that sum in a sandbox is worth. -/
noncomputable def Try.pinned : Pinned := { name := "ytcnelmhaggpbjaa", sum := "2be8d4dbb55a4a309841c322b0899f3bbfb3fe240384826586ddf42007145be3", checked := Try.checked }
namespace Rows
def none {H : Type} : Left H := { results := [], args := [] }

/-- 'rootstocklaw02.LinesCounts': WHATEVER THE INPUT: true; the input reads as it did. -/
def linesCountsSpec : ChangeSpec := { name := "linesCounts", fn := fun _ => fun
  | [d] => { results := [.lit (.bool true)], args := [d] }
  | _ => none }
def linesCountsRow : OpenClaim := { program := "ytcnelmhaggpbjaa", sum := "2be8d4dbb55a4a309841c322b0899f3bbfb3fe240384826586ddf42007145be3", func := "rootstock/rootstocklaw02.LinesCounts", spec := "linesCounts", inPlace := ["internal/bytealg.CountString", "internal/bytealg.IndexByteString", "internal/bytealg.IndexString"], named := ["internal/bytealg.MaxLen"], apart := false }
def LinesCountsSaid : Prop := linesCountsRow.holds Try.pinned (OpenSpec.ofChange linesCountsSpec)

/-- ITS FALSE NEIGHBOUR: 'it returns false'. Refute it at one input. -/
def linesCountsWrong : ChangeSpec := { name := "linesCounts", fn := fun _ => fun
  | [d] => { results := [.lit (.bool false)], args := [d] }
  | _ => none }
def LinesCountsWrongFalsely : Prop := linesCountsRow.holds Try.pinned (OpenSpec.ofChange linesCountsWrong)

/-- 'rootstocklaw02.LinesPlaces': WHATEVER THE INPUT: true; the input reads as it did. -/
def linesPlacesSpec : ChangeSpec := { name := "linesPlaces", fn := fun _ => fun
  | [d1, d2] => { results := [.lit (.bool true)], args := [d1, d2] }
  | _ => none }
def linesPlacesRow : OpenClaim := { program := "ytcnelmhaggpbjaa", sum := "2be8d4dbb55a4a309841c322b0899f3bbfb3fe240384826586ddf42007145be3", func := "rootstock/rootstocklaw02.LinesPlaces", spec := "linesPlaces", inPlace := ["internal/bytealg.CountString", "internal/bytealg.IndexByteString", "internal/bytealg.IndexString"], named := ["internal/bytealg.MaxLen"], apart := false }
def LinesPlacesSaid : Prop := linesPlacesRow.holds Try.pinned (OpenSpec.ofChange linesPlacesSpec)

/-- ITS FALSE NEIGHBOUR: 'it returns false'. Refute it at one input. -/
def linesPlacesWrong : ChangeSpec := { name := "linesPlaces", fn := fun _ => fun
  | [d1, d2] => { results := [.lit (.bool false)], args := [d1, d2] }
  | _ => none }
def LinesPlacesWrongFalsely : Prop := linesPlacesRow.holds Try.pinned (OpenSpec.ofChange linesPlacesWrong)

/-- 'rootstocklaw02.LinesOffsets': WHATEVER THE INPUT: true; the input reads as it did. -/
def linesOffsetsSpec : ChangeSpec := { name := "linesOffsets", fn := fun _ => fun
  | [d1, d2] => { results := [.lit (.bool true)], args := [d1, d2] }
  | _ => none }
def linesOffsetsRow : OpenClaim := { program := "ytcnelmhaggpbjaa", sum := "2be8d4dbb55a4a309841c322b0899f3bbfb3fe240384826586ddf42007145be3", func := "rootstock/rootstocklaw02.LinesOffsets", spec := "linesOffsets", inPlace := ["internal/bytealg.CountString", "internal/bytealg.IndexByteString", "internal/bytealg.IndexString"], named := ["internal/bytealg.MaxLen"], apart := false }
def LinesOffsetsSaid : Prop := linesOffsetsRow.holds Try.pinned (OpenSpec.ofChange linesOffsetsSpec)

/-- ITS FALSE NEIGHBOUR: 'it returns false'. Refute it at one input. -/
def linesOffsetsWrong : ChangeSpec := { name := "linesOffsets", fn := fun _ => fun
  | [d1, d2] => { results := [.lit (.bool false)], args := [d1, d2] }
  | _ => none }
def LinesOffsetsWrongFalsely : Prop := linesOffsetsRow.holds Try.pinned (OpenSpec.ofChange linesOffsetsWrong)

/-- 'rootstocklaw02.LinesBack': WHATEVER THE INPUT: true; the input reads as it did. -/
def linesBackSpec : ChangeSpec := { name := "linesBack", fn := fun _ => fun
  | [d1, d2, d3] => { results := [.lit (.bool true)], args := [d1, d2, d3] }
  | _ => none }
def linesBackRow : OpenClaim := { program := "ytcnelmhaggpbjaa", sum := "2be8d4dbb55a4a309841c322b0899f3bbfb3fe240384826586ddf42007145be3", func := "rootstock/rootstocklaw02.LinesBack", spec := "linesBack", inPlace := ["internal/bytealg.CountString", "internal/bytealg.IndexByteString", "internal/bytealg.IndexString"], named := ["internal/bytealg.MaxLen"], apart := false }
def LinesBackSaid : Prop := linesBackRow.holds Try.pinned (OpenSpec.ofChange linesBackSpec)

/-- ITS FALSE NEIGHBOUR: 'it returns false'. Refute it at one input. -/
def linesBackWrong : ChangeSpec := { name := "linesBack", fn := fun _ => fun
  | [d1, d2, d3] => { results := [.lit (.bool false)], args := [d1, d2, d3] }
  | _ => none }
def LinesBackWrongFalsely : Prop := linesBackRow.holds Try.pinned (OpenSpec.ofChange linesBackWrong)

/-- 'rootstocklaw02.LinesRise': WHATEVER THE INPUT: true; the input reads as it did. -/
def linesRiseSpec : ChangeSpec := { name := "linesRise", fn := fun _ => fun
  | [d1, d2, d3] => { results := [.lit (.bool true)], args := [d1, d2, d3] }
  | _ => none }
def linesRiseRow : OpenClaim := { program := "ytcnelmhaggpbjaa", sum := "2be8d4dbb55a4a309841c322b0899f3bbfb3fe240384826586ddf42007145be3", func := "rootstock/rootstocklaw02.LinesRise", spec := "linesRise", inPlace := ["internal/bytealg.CountString", "internal/bytealg.IndexByteString", "internal/bytealg.IndexString"], named := ["internal/bytealg.MaxLen"], apart := false }
def LinesRiseSaid : Prop := linesRiseRow.holds Try.pinned (OpenSpec.ofChange linesRiseSpec)

/-- ITS FALSE NEIGHBOUR: 'it returns false'. Refute it at one input. -/
def linesRiseWrong : ChangeSpec := { name := "linesRise", fn := fun _ => fun
  | [d1, d2, d3] => { results := [.lit (.bool false)], args := [d1, d2, d3] }
  | _ => none }
def LinesRiseWrongFalsely : Prop := linesRiseRow.holds Try.pinned (OpenSpec.ofChange linesRiseWrong)

/-- 'rootstocklaw02.LinesJoin': WHATEVER THE INPUT: true; the input reads as it did. -/
def linesJoinSpec : ChangeSpec := { name := "linesJoin", fn := fun _ => fun
  | [d1, d2, d3] => { results := [.lit (.bool true)], args := [d1, d2, d3] }
  | _ => none }
def linesJoinRow : OpenClaim := { program := "ytcnelmhaggpbjaa", sum := "2be8d4dbb55a4a309841c322b0899f3bbfb3fe240384826586ddf42007145be3", func := "rootstock/rootstocklaw02.LinesJoin", spec := "linesJoin", inPlace := ["internal/bytealg.CountString", "internal/bytealg.IndexByteString", "internal/bytealg.IndexString"], named := ["internal/bytealg.MaxLen"], apart := false }
def LinesJoinSaid : Prop := linesJoinRow.holds Try.pinned (OpenSpec.ofChange linesJoinSpec)

/-- ITS FALSE NEIGHBOUR: 'it returns false'. Refute it at one input. -/
def linesJoinWrong : ChangeSpec := { name := "linesJoin", fn := fun _ => fun
  | [d1, d2, d3] => { results := [.lit (.bool false)], args := [d1, d2, d3] }
  | _ => none }
def LinesJoinWrongFalsely : Prop := linesJoinRow.holds Try.pinned (OpenSpec.ofChange linesJoinWrong)

/-- 'rootstocklaw02.LinesSteps': WHATEVER THE INPUT: true; the input reads as it did. -/
def linesStepsSpec : ChangeSpec := { name := "linesSteps", fn := fun _ => fun
  | [d1, d2] => { results := [.lit (.bool true)], args := [d1, d2] }
  | _ => none }
def linesStepsRow : OpenClaim := { program := "ytcnelmhaggpbjaa", sum := "2be8d4dbb55a4a309841c322b0899f3bbfb3fe240384826586ddf42007145be3", func := "rootstock/rootstocklaw02.LinesSteps", spec := "linesSteps", inPlace := ["internal/bytealg.CountString", "internal/bytealg.IndexByteString", "internal/bytealg.IndexString"], named := ["internal/bytealg.MaxLen"], apart := false }
def LinesStepsSaid : Prop := linesStepsRow.holds Try.pinned (OpenSpec.ofChange linesStepsSpec)

/-- ITS FALSE NEIGHBOUR: 'it returns false'. Refute it at one input. -/
def linesStepsWrong : ChangeSpec := { name := "linesSteps", fn := fun _ => fun
  | [d1, d2] => { results := [.lit (.bool false)], args := [d1, d2] }
  | _ => none }
def LinesStepsWrongFalsely : Prop := linesStepsRow.holds Try.pinned (OpenSpec.ofChange linesStepsWrong)

/-- 'rootstocklaw02.LinesLong': WHATEVER THE INPUT: true; the input reads as it did. -/
def linesLongSpec : ChangeSpec := { name := "linesLong", fn := fun _ => fun
  | [d1, d2] => { results := [.lit (.bool true)], args := [d1, d2] }
  | _ => none }
def linesLongRow : OpenClaim := { program := "ytcnelmhaggpbjaa", sum := "2be8d4dbb55a4a309841c322b0899f3bbfb3fe240384826586ddf42007145be3", func := "rootstock/rootstocklaw02.LinesLong", spec := "linesLong", inPlace := ["internal/bytealg.CountString", "internal/bytealg.IndexByteString", "internal/bytealg.IndexString"], named := ["internal/bytealg.MaxLen"], apart := false }
def LinesLongSaid : Prop := linesLongRow.holds Try.pinned (OpenSpec.ofChange linesLongSpec)

/-- ITS FALSE NEIGHBOUR: 'it returns false'. Refute it at one input. -/
def linesLongWrong : ChangeSpec := { name := "linesLong", fn := fun _ => fun
  | [d1, d2] => { results := [.lit (.bool false)], args := [d1, d2] }
  | _ => none }
def LinesLongWrongFalsely : Prop := linesLongRow.holds Try.pinned (OpenSpec.ofChange linesLongWrong)

/- THE SECOND FORM. 'bulk': how many values and letters a reading holds, each counted each time it is reached (what is shared counts as often as it is met; a slice's spare places count too). A statement '..UptoSaid' is the law's where the arguments, and the package variables that the reading takes, are together of bulk at most 1048576: NARROWER than '..Said'. Prove '..Said' where nothing that the law and all that it calls make is longer than what came in: it says more and counts as full. Else prove '..UptoSaid'. A law counts once. -/
mutual
def uptoBulk {H : Type} : DataW H → Nat
  | .lit (.string bytes) => bytes.length + 1
  | .lit _ => 1
  | .nil => 1
  | .ptr d => uptoBulk d + 1
  | .slice elems spare => uptoBulkAll elems + uptoBulkAll spare + 1
  | .agg parts => uptoBulkAll parts + 1
  | .iface _ d => uptoBulk d + 1
  | .map entries => uptoBulkEntries entries + 1
  | .held _ => 1
def uptoBulkAll {H : Type} : List (DataW H) → Nat
  | [] => 0
  | d :: r => uptoBulk d + uptoBulkAll r
def uptoBulkEntries {H : Type} : List (Lit × DataW H) → Nat
  | [] => 0
  | x :: r => uptoBulkEntry x + uptoBulkEntries r
def uptoBulkEntry {H : Type} : Lit × DataW H → Nat
  | (.string bytes, d) => bytes.length + uptoBulk d + 1
  | (_, d) => uptoBulk d + 1
 end
def uptoSmall : (H : Type) → List (DataW H) → Bool := fun _ ds => decide (uptoBulkAll ds ≤ 1048576)
def OpenSpec.upto (s : _root_.Go.ChangeSpec) : _root_.Go.OpenSpec := { _root_.Go.OpenSpec.ofChange s with cond := some uptoSmall }

/-- 'rootstocklaw02.LinesCounts', WHERE WHAT IT READS IS OF BULK AT MOST 1048576: true; the input reads as it did. -/
def linesCountsUptoRow : OpenClaim := { program := "ytcnelmhaggpbjaa", sum := "2be8d4dbb55a4a309841c322b0899f3bbfb3fe240384826586ddf42007145be3", func := "rootstock/rootstocklaw02.LinesCounts", spec := "linesCounts", inPlace := ["internal/bytealg.CountString", "internal/bytealg.IndexByteString", "internal/bytealg.IndexString"], named := ["internal/bytealg.MaxLen"], apart := false, narrowed := true }
def LinesCountsUptoSaid : Prop := linesCountsUptoRow.holds Try.pinned (OpenSpec.upto linesCountsSpec)

/-- 'rootstocklaw02.LinesPlaces', WHERE WHAT IT READS IS OF BULK AT MOST 1048576: true; the input reads as it did. -/
def linesPlacesUptoRow : OpenClaim := { program := "ytcnelmhaggpbjaa", sum := "2be8d4dbb55a4a309841c322b0899f3bbfb3fe240384826586ddf42007145be3", func := "rootstock/rootstocklaw02.LinesPlaces", spec := "linesPlaces", inPlace := ["internal/bytealg.CountString", "internal/bytealg.IndexByteString", "internal/bytealg.IndexString"], named := ["internal/bytealg.MaxLen"], apart := false, narrowed := true }
def LinesPlacesUptoSaid : Prop := linesPlacesUptoRow.holds Try.pinned (OpenSpec.upto linesPlacesSpec)

/-- 'rootstocklaw02.LinesOffsets', WHERE WHAT IT READS IS OF BULK AT MOST 1048576: true; the input reads as it did. -/
def linesOffsetsUptoRow : OpenClaim := { program := "ytcnelmhaggpbjaa", sum := "2be8d4dbb55a4a309841c322b0899f3bbfb3fe240384826586ddf42007145be3", func := "rootstock/rootstocklaw02.LinesOffsets", spec := "linesOffsets", inPlace := ["internal/bytealg.CountString", "internal/bytealg.IndexByteString", "internal/bytealg.IndexString"], named := ["internal/bytealg.MaxLen"], apart := false, narrowed := true }
def LinesOffsetsUptoSaid : Prop := linesOffsetsUptoRow.holds Try.pinned (OpenSpec.upto linesOffsetsSpec)

/-- 'rootstocklaw02.LinesBack', WHERE WHAT IT READS IS OF BULK AT MOST 1048576: true; the input reads as it did. -/
def linesBackUptoRow : OpenClaim := { program := "ytcnelmhaggpbjaa", sum := "2be8d4dbb55a4a309841c322b0899f3bbfb3fe240384826586ddf42007145be3", func := "rootstock/rootstocklaw02.LinesBack", spec := "linesBack", inPlace := ["internal/bytealg.CountString", "internal/bytealg.IndexByteString", "internal/bytealg.IndexString"], named := ["internal/bytealg.MaxLen"], apart := false, narrowed := true }
def LinesBackUptoSaid : Prop := linesBackUptoRow.holds Try.pinned (OpenSpec.upto linesBackSpec)

/-- 'rootstocklaw02.LinesRise', WHERE WHAT IT READS IS OF BULK AT MOST 1048576: true; the input reads as it did. -/
def linesRiseUptoRow : OpenClaim := { program := "ytcnelmhaggpbjaa", sum := "2be8d4dbb55a4a309841c322b0899f3bbfb3fe240384826586ddf42007145be3", func := "rootstock/rootstocklaw02.LinesRise", spec := "linesRise", inPlace := ["internal/bytealg.CountString", "internal/bytealg.IndexByteString", "internal/bytealg.IndexString"], named := ["internal/bytealg.MaxLen"], apart := false, narrowed := true }
def LinesRiseUptoSaid : Prop := linesRiseUptoRow.holds Try.pinned (OpenSpec.upto linesRiseSpec)

/-- 'rootstocklaw02.LinesJoin', WHERE WHAT IT READS IS OF BULK AT MOST 1048576: true; the input reads as it did. -/
def linesJoinUptoRow : OpenClaim := { program := "ytcnelmhaggpbjaa", sum := "2be8d4dbb55a4a309841c322b0899f3bbfb3fe240384826586ddf42007145be3", func := "rootstock/rootstocklaw02.LinesJoin", spec := "linesJoin", inPlace := ["internal/bytealg.CountString", "internal/bytealg.IndexByteString", "internal/bytealg.IndexString"], named := ["internal/bytealg.MaxLen"], apart := false, narrowed := true }
def LinesJoinUptoSaid : Prop := linesJoinUptoRow.holds Try.pinned (OpenSpec.upto linesJoinSpec)

/-- 'rootstocklaw02.LinesSteps', WHERE WHAT IT READS IS OF BULK AT MOST 1048576: true; the input reads as it did. -/
def linesStepsUptoRow : OpenClaim := { program := "ytcnelmhaggpbjaa", sum := "2be8d4dbb55a4a309841c322b0899f3bbfb3fe240384826586ddf42007145be3", func := "rootstock/rootstocklaw02.LinesSteps", spec := "linesSteps", inPlace := ["internal/bytealg.CountString", "internal/bytealg.IndexByteString", "internal/bytealg.IndexString"], named := ["internal/bytealg.MaxLen"], apart := false, narrowed := true }
def LinesStepsUptoSaid : Prop := linesStepsUptoRow.holds Try.pinned (OpenSpec.upto linesStepsSpec)

/-- 'rootstocklaw02.LinesLong', WHERE WHAT IT READS IS OF BULK AT MOST 1048576: true; the input reads as it did. -/
def linesLongUptoRow : OpenClaim := { program := "ytcnelmhaggpbjaa", sum := "2be8d4dbb55a4a309841c322b0899f3bbfb3fe240384826586ddf42007145be3", func := "rootstock/rootstocklaw02.LinesLong", spec := "linesLong", inPlace := ["internal/bytealg.CountString", "internal/bytealg.IndexByteString", "internal/bytealg.IndexString"], named := ["internal/bytealg.MaxLen"], apart := false, narrowed := true }
def LinesLongUptoSaid : Prop := linesLongUptoRow.holds Try.pinned (OpenSpec.upto linesLongSpec)

end Rows
end Go.Proofs.Ytcnelmhaggpbjaa
