/-
  No cell of these rows narrows 'for every input' (looked for: loops, veiled, ifaces, maps, wideKeys, modest, calm, conditions, laid).
  DERIVED. THE GIVEN ROWS OF THIS SEAT. 11 by the template 'for every input the law returns true; each argument reads behind the call as it read before'; 0 by the template 'total and deterministic' (their statements: YtncnloaclpaefaaTotals.lean).
  GIVEN WITH THE SEED: the statements are not yours to turn. If you find one false, say at which input.
  Laid BY PROGRAM, IN A SANDBOX (cutbox-rows.mjs): the forced cells as the released guide's own fill.sh prints them over the translation 37d651613ab16654… (all of the seat's roots in one cut). By AI agents, Wed Nov 11 2026. No macro, syntax, notation, axiom, sorry.
-/
import Derived.Test.YtncnloaclpaefaaChecked
import GoSem.Claim
import GoSem.ClaimJoined
import GoSem.ClaimMapViews
import Derived.JoinedTies
import Derived.KernelRfl
namespace Go.Proofs.Ytncnloaclpaefaa
/- THE CELL 'sum', in the pinned program and in every row, IS THE sha256 OF THE DUMP (.gsa) THAT YtncnloaclpaefaaProg.lean LOADS. Nothing in Lean hashes anything: it is a label: what it is worth is what the hold of that sum in a sandbox is worth. -/
noncomputable def Try.pinned : Pinned := { name := "ytncnloaclpaefaa", sum := "37d651613ab16654e3b6a40f86321e59774c8cea775ce5af2b70c18cc04b8ebb", checked := Try.checked }
namespace Rows
def none {H : Type} : Left H := { results := [], args := [] }

/-- 'rootstocklaw01.EditsChecks': WHATEVER THE INPUT: true; the input reads as it did. -/
def editsChecksSpec : ChangeSpec := { name := "editsChecks", fn := fun _ => fun
  | [d1, d2] => { results := [.lit (.bool true)], args := [d1, d2] }
  | _ => none }
def editsChecksRow : OpenClaim := { program := "ytncnloaclpaefaa", sum := "37d651613ab16654e3b6a40f86321e59774c8cea775ce5af2b70c18cc04b8ebb", func := "rootstock/rootstocklaw01.EditsChecks", spec := "editsChecks", apart := false }
def EditsChecksSaid : Prop := editsChecksRow.holds Try.pinned (OpenSpec.ofChange editsChecksSpec)

/-- ITS FALSE NEIGHBOUR: 'it returns false'. Refute it at one input. -/
def editsChecksWrong : ChangeSpec := { name := "editsChecks", fn := fun _ => fun
  | [d1, d2] => { results := [.lit (.bool false)], args := [d1, d2] }
  | _ => none }
def EditsChecksWrongFalsely : Prop := editsChecksRow.holds Try.pinned (OpenSpec.ofChange editsChecksWrong)

/-- 'rootstocklaw01.EditsApplies': WHATEVER THE INPUT: true; the input reads as it did. -/
def editsAppliesSpec : ChangeSpec := { name := "editsApplies", fn := fun _ => fun
  | [d1, d2] => { results := [.lit (.bool true)], args := [d1, d2] }
  | _ => none }
def editsAppliesRow : OpenClaim := { program := "ytncnloaclpaefaa", sum := "37d651613ab16654e3b6a40f86321e59774c8cea775ce5af2b70c18cc04b8ebb", func := "rootstock/rootstocklaw01.EditsApplies", spec := "editsApplies", apart := false }
def EditsAppliesSaid : Prop := editsAppliesRow.holds Try.pinned (OpenSpec.ofChange editsAppliesSpec)

/-- ITS FALSE NEIGHBOUR: 'it returns false'. Refute it at one input. -/
def editsAppliesWrong : ChangeSpec := { name := "editsApplies", fn := fun _ => fun
  | [d1, d2] => { results := [.lit (.bool false)], args := [d1, d2] }
  | _ => none }
def EditsAppliesWrongFalsely : Prop := editsAppliesRow.holds Try.pinned (OpenSpec.ofChange editsAppliesWrong)

/-- 'rootstocklaw01.EditsKeeps': WHATEVER THE INPUT: true; the input reads as it did. -/
def editsKeepsSpec : ChangeSpec := { name := "editsKeeps", fn := fun _ => fun
  | [d1, d2] => { results := [.lit (.bool true)], args := [d1, d2] }
  | _ => none }
def editsKeepsRow : OpenClaim := { program := "ytncnloaclpaefaa", sum := "37d651613ab16654e3b6a40f86321e59774c8cea775ce5af2b70c18cc04b8ebb", func := "rootstock/rootstocklaw01.EditsKeeps", spec := "editsKeeps", apart := false }
def EditsKeepsSaid : Prop := editsKeepsRow.holds Try.pinned (OpenSpec.ofChange editsKeepsSpec)

/-- ITS FALSE NEIGHBOUR: 'it returns false'. Refute it at one input. -/
def editsKeepsWrong : ChangeSpec := { name := "editsKeeps", fn := fun _ => fun
  | [d1, d2] => { results := [.lit (.bool false)], args := [d1, d2] }
  | _ => none }
def EditsKeepsWrongFalsely : Prop := editsKeepsRow.holds Try.pinned (OpenSpec.ofChange editsKeepsWrong)

/-- 'rootstocklaw01.EditsRise': WHATEVER THE INPUT: true; the input reads as it did. -/
def editsRiseSpec : ChangeSpec := { name := "editsRise", fn := fun _ => fun
  | [d1, d2, d3] => { results := [.lit (.bool true)], args := [d1, d2, d3] }
  | _ => none }
def editsRiseRow : OpenClaim := { program := "ytncnloaclpaefaa", sum := "37d651613ab16654e3b6a40f86321e59774c8cea775ce5af2b70c18cc04b8ebb", func := "rootstock/rootstocklaw01.EditsRise", spec := "editsRise", apart := false }
def EditsRiseSaid : Prop := editsRiseRow.holds Try.pinned (OpenSpec.ofChange editsRiseSpec)

/-- ITS FALSE NEIGHBOUR: 'it returns false'. Refute it at one input. -/
def editsRiseWrong : ChangeSpec := { name := "editsRise", fn := fun _ => fun
  | [d1, d2, d3] => { results := [.lit (.bool false)], args := [d1, d2, d3] }
  | _ => none }
def EditsRiseWrongFalsely : Prop := editsRiseRow.holds Try.pinned (OpenSpec.ofChange editsRiseWrong)

/-- 'rootstocklaw01.EditsNothing': WHATEVER THE INPUT: true; the input reads as it did. -/
def editsNothingSpec : ChangeSpec := { name := "editsNothing", fn := fun _ => fun
  | [d1, d2, d3] => { results := [.lit (.bool true)], args := [d1, d2, d3] }
  | _ => none }
def editsNothingRow : OpenClaim := { program := "ytncnloaclpaefaa", sum := "37d651613ab16654e3b6a40f86321e59774c8cea775ce5af2b70c18cc04b8ebb", func := "rootstock/rootstocklaw01.EditsNothing", spec := "editsNothing", apart := false }
def EditsNothingSaid : Prop := editsNothingRow.holds Try.pinned (OpenSpec.ofChange editsNothingSpec)

/-- ITS FALSE NEIGHBOUR: 'it returns false'. Refute it at one input. -/
def editsNothingWrong : ChangeSpec := { name := "editsNothing", fn := fun _ => fun
  | [d1, d2, d3] => { results := [.lit (.bool false)], args := [d1, d2, d3] }
  | _ => none }
def EditsNothingWrongFalsely : Prop := editsNothingRow.holds Try.pinned (OpenSpec.ofChange editsNothingWrong)

/-- 'rootstocklaw01.EditsJoin': WHATEVER THE INPUT: true; the input reads as it did. -/
def editsJoinSpec : ChangeSpec := { name := "editsJoin", fn := fun _ => fun
  | [d1, d2, d3] => { results := [.lit (.bool true)], args := [d1, d2, d3] }
  | _ => none }
def editsJoinRow : OpenClaim := { program := "ytncnloaclpaefaa", sum := "37d651613ab16654e3b6a40f86321e59774c8cea775ce5af2b70c18cc04b8ebb", func := "rootstock/rootstocklaw01.EditsJoin", spec := "editsJoin", apart := false }
def EditsJoinSaid : Prop := editsJoinRow.holds Try.pinned (OpenSpec.ofChange editsJoinSpec)

/-- ITS FALSE NEIGHBOUR: 'it returns false'. Refute it at one input. -/
def editsJoinWrong : ChangeSpec := { name := "editsJoin", fn := fun _ => fun
  | [d1, d2, d3] => { results := [.lit (.bool false)], args := [d1, d2, d3] }
  | _ => none }
def EditsJoinWrongFalsely : Prop := editsJoinRow.holds Try.pinned (OpenSpec.ofChange editsJoinWrong)

/-- 'rootstocklaw01.EditsImages': WHATEVER THE INPUT: true; the input reads as it did. -/
def editsImagesSpec : ChangeSpec := { name := "editsImages", fn := fun _ => fun
  | [d1, d2, d3] => { results := [.lit (.bool true)], args := [d1, d2, d3] }
  | _ => none }
def editsImagesRow : OpenClaim := { program := "ytncnloaclpaefaa", sum := "37d651613ab16654e3b6a40f86321e59774c8cea775ce5af2b70c18cc04b8ebb", func := "rootstock/rootstocklaw01.EditsImages", spec := "editsImages", apart := false }
def EditsImagesSaid : Prop := editsImagesRow.holds Try.pinned (OpenSpec.ofChange editsImagesSpec)

/-- ITS FALSE NEIGHBOUR: 'it returns false'. Refute it at one input. -/
def editsImagesWrong : ChangeSpec := { name := "editsImages", fn := fun _ => fun
  | [d1, d2, d3] => { results := [.lit (.bool false)], args := [d1, d2, d3] }
  | _ => none }
def EditsImagesWrongFalsely : Prop := editsImagesRow.holds Try.pinned (OpenSpec.ofChange editsImagesWrong)

/-- 'rootstocklaw01.EditsTakes': WHATEVER THE INPUT: true; the input reads as it did. -/
def editsTakesSpec : ChangeSpec := { name := "editsTakes", fn := fun _ => fun
  | [d1, d2] => { results := [.lit (.bool true)], args := [d1, d2] }
  | _ => none }
def editsTakesRow : OpenClaim := { program := "ytncnloaclpaefaa", sum := "37d651613ab16654e3b6a40f86321e59774c8cea775ce5af2b70c18cc04b8ebb", func := "rootstock/rootstocklaw01.EditsTakes", spec := "editsTakes", apart := false }
def EditsTakesSaid : Prop := editsTakesRow.holds Try.pinned (OpenSpec.ofChange editsTakesSpec)

/-- ITS FALSE NEIGHBOUR: 'it returns false'. Refute it at one input. -/
def editsTakesWrong : ChangeSpec := { name := "editsTakes", fn := fun _ => fun
  | [d1, d2] => { results := [.lit (.bool false)], args := [d1, d2] }
  | _ => none }
def EditsTakesWrongFalsely : Prop := editsTakesRow.holds Try.pinned (OpenSpec.ofChange editsTakesWrong)

/-- 'rootstocklaw01.EditsUndoes': WHATEVER THE INPUT: true; the input reads as it did. -/
def editsUndoesSpec : ChangeSpec := { name := "editsUndoes", fn := fun _ => fun
  | [d1, d2] => { results := [.lit (.bool true)], args := [d1, d2] }
  | _ => none }
def editsUndoesRow : OpenClaim := { program := "ytncnloaclpaefaa", sum := "37d651613ab16654e3b6a40f86321e59774c8cea775ce5af2b70c18cc04b8ebb", func := "rootstock/rootstocklaw01.EditsUndoes", spec := "editsUndoes", apart := false }
def EditsUndoesSaid : Prop := editsUndoesRow.holds Try.pinned (OpenSpec.ofChange editsUndoesSpec)

/-- ITS FALSE NEIGHBOUR: 'it returns false'. Refute it at one input. -/
def editsUndoesWrong : ChangeSpec := { name := "editsUndoes", fn := fun _ => fun
  | [d1, d2] => { results := [.lit (.bool false)], args := [d1, d2] }
  | _ => none }
def EditsUndoesWrongFalsely : Prop := editsUndoesRow.holds Try.pinned (OpenSpec.ofChange editsUndoesWrong)

/-- 'rootstocklaw01.EditsApart': WHATEVER THE INPUT: true; the input reads as it did. -/
def editsApartSpec : ChangeSpec := { name := "editsApart", fn := fun _ => fun
  | [d1, d2, d3] => { results := [.lit (.bool true)], args := [d1, d2, d3] }
  | _ => none }
def editsApartRow : OpenClaim := { program := "ytncnloaclpaefaa", sum := "37d651613ab16654e3b6a40f86321e59774c8cea775ce5af2b70c18cc04b8ebb", func := "rootstock/rootstocklaw01.EditsApart", spec := "editsApart", apart := false }
def EditsApartSaid : Prop := editsApartRow.holds Try.pinned (OpenSpec.ofChange editsApartSpec)

/-- ITS FALSE NEIGHBOUR: 'it returns false'. Refute it at one input. -/
def editsApartWrong : ChangeSpec := { name := "editsApart", fn := fun _ => fun
  | [d1, d2, d3] => { results := [.lit (.bool false)], args := [d1, d2, d3] }
  | _ => none }
def EditsApartWrongFalsely : Prop := editsApartRow.holds Try.pinned (OpenSpec.ofChange editsApartWrong)

/-- 'rootstocklaw01.EditsFolds': WHATEVER THE INPUT: true; the input reads as it did. -/
def editsFoldsSpec : ChangeSpec := { name := "editsFolds", fn := fun _ => fun
  | [d1, d2] => { results := [.lit (.bool true)], args := [d1, d2] }
  | _ => none }
def editsFoldsRow : OpenClaim := { program := "ytncnloaclpaefaa", sum := "37d651613ab16654e3b6a40f86321e59774c8cea775ce5af2b70c18cc04b8ebb", func := "rootstock/rootstocklaw01.EditsFolds", spec := "editsFolds", apart := false }
def EditsFoldsSaid : Prop := editsFoldsRow.holds Try.pinned (OpenSpec.ofChange editsFoldsSpec)

/-- ITS FALSE NEIGHBOUR: 'it returns false'. Refute it at one input. -/
def editsFoldsWrong : ChangeSpec := { name := "editsFolds", fn := fun _ => fun
  | [d1, d2] => { results := [.lit (.bool false)], args := [d1, d2] }
  | _ => none }
def EditsFoldsWrongFalsely : Prop := editsFoldsRow.holds Try.pinned (OpenSpec.ofChange editsFoldsWrong)

/- THE SECOND FORM. 'bulk': how many values and letters a reading holds, each counted each time it is reached (what is shared counts as often as it is met; a slice's spare places count too). A statement '..UptoSaid' is the law's where the arguments, and the package variables that the reading takes, are together of bulk at most 1048576: NARROWER than '..Said'. Prove '..Said' where nothing that the law and all that it calls make is longer than what came in: it says more and counts as full. Else prove '..UptoSaid'. A law counts once. -/
mutual
def uptoBulk {H : Type} : DataW H → Nat
  | .lit (.string bytes) => bytes.length + 1
  | .lit _ => 1
  | .nil => 1
  | .ptr d => uptoBulk d + 1
  | .slice elems spare => uptoBulkAll elems + uptoBulkAll spare + 1
  | .agg parts => uptoBulkAll parts + 1
  | .iface _ d => uptoBulk d + 1
  | .map entries => uptoBulkEntries entries + 1
  | .held _ => 1
def uptoBulkAll {H : Type} : List (DataW H) → Nat
  | [] => 0
  | d :: r => uptoBulk d + uptoBulkAll r
def uptoBulkEntries {H : Type} : List (Lit × DataW H) → Nat
  | [] => 0
  | x :: r => uptoBulkEntry x + uptoBulkEntries r
def uptoBulkEntry {H : Type} : Lit × DataW H → Nat
  | (.string bytes, d) => bytes.length + uptoBulk d + 1
  | (_, d) => uptoBulk d + 1
 end
def uptoSmall : (H : Type) → List (DataW H) → Bool := fun _ ds => decide (uptoBulkAll ds ≤ 1048576)
def OpenSpec.upto (s : _root_.Go.ChangeSpec) : _root_.Go.OpenSpec := { _root_.Go.OpenSpec.ofChange s with cond := some uptoSmall }

/-- 'rootstocklaw01.EditsChecks', WHERE WHAT IT READS IS OF BULK AT MOST 1048576: true; the input reads as it did. -/
def editsChecksUptoRow : OpenClaim := { program := "ytncnloaclpaefaa", sum := "37d651613ab16654e3b6a40f86321e59774c8cea775ce5af2b70c18cc04b8ebb", func := "rootstock/rootstocklaw01.EditsChecks", spec := "editsChecks", apart := false, narrowed := true }
def EditsChecksUptoSaid : Prop := editsChecksUptoRow.holds Try.pinned (OpenSpec.upto editsChecksSpec)

/-- 'rootstocklaw01.EditsApplies', WHERE WHAT IT READS IS OF BULK AT MOST 1048576: true; the input reads as it did. -/
def editsAppliesUptoRow : OpenClaim := { program := "ytncnloaclpaefaa", sum := "37d651613ab16654e3b6a40f86321e59774c8cea775ce5af2b70c18cc04b8ebb", func := "rootstock/rootstocklaw01.EditsApplies", spec := "editsApplies", apart := false, narrowed := true }
def EditsAppliesUptoSaid : Prop := editsAppliesUptoRow.holds Try.pinned (OpenSpec.upto editsAppliesSpec)

/-- 'rootstocklaw01.EditsKeeps', WHERE WHAT IT READS IS OF BULK AT MOST 1048576: true; the input reads as it did. -/
def editsKeepsUptoRow : OpenClaim := { program := "ytncnloaclpaefaa", sum := "37d651613ab16654e3b6a40f86321e59774c8cea775ce5af2b70c18cc04b8ebb", func := "rootstock/rootstocklaw01.EditsKeeps", spec := "editsKeeps", apart := false, narrowed := true }
def EditsKeepsUptoSaid : Prop := editsKeepsUptoRow.holds Try.pinned (OpenSpec.upto editsKeepsSpec)

/-- 'rootstocklaw01.EditsRise', WHERE WHAT IT READS IS OF BULK AT MOST 1048576: true; the input reads as it did. -/
def editsRiseUptoRow : OpenClaim := { program := "ytncnloaclpaefaa", sum := "37d651613ab16654e3b6a40f86321e59774c8cea775ce5af2b70c18cc04b8ebb", func := "rootstock/rootstocklaw01.EditsRise", spec := "editsRise", apart := false, narrowed := true }
def EditsRiseUptoSaid : Prop := editsRiseUptoRow.holds Try.pinned (OpenSpec.upto editsRiseSpec)

/-- 'rootstocklaw01.EditsNothing', WHERE WHAT IT READS IS OF BULK AT MOST 1048576: true; the input reads as it did. -/
def editsNothingUptoRow : OpenClaim := { program := "ytncnloaclpaefaa", sum := "37d651613ab16654e3b6a40f86321e59774c8cea775ce5af2b70c18cc04b8ebb", func := "rootstock/rootstocklaw01.EditsNothing", spec := "editsNothing", apart := false, narrowed := true }
def EditsNothingUptoSaid : Prop := editsNothingUptoRow.holds Try.pinned (OpenSpec.upto editsNothingSpec)

/-- 'rootstocklaw01.EditsJoin', WHERE WHAT IT READS IS OF BULK AT MOST 1048576: true; the input reads as it did. -/
def editsJoinUptoRow : OpenClaim := { program := "ytncnloaclpaefaa", sum := "37d651613ab16654e3b6a40f86321e59774c8cea775ce5af2b70c18cc04b8ebb", func := "rootstock/rootstocklaw01.EditsJoin", spec := "editsJoin", apart := false, narrowed := true }
def EditsJoinUptoSaid : Prop := editsJoinUptoRow.holds Try.pinned (OpenSpec.upto editsJoinSpec)

/-- 'rootstocklaw01.EditsImages', WHERE WHAT IT READS IS OF BULK AT MOST 1048576: true; the input reads as it did. -/
def editsImagesUptoRow : OpenClaim := { program := "ytncnloaclpaefaa", sum := "37d651613ab16654e3b6a40f86321e59774c8cea775ce5af2b70c18cc04b8ebb", func := "rootstock/rootstocklaw01.EditsImages", spec := "editsImages", apart := false, narrowed := true }
def EditsImagesUptoSaid : Prop := editsImagesUptoRow.holds Try.pinned (OpenSpec.upto editsImagesSpec)

/-- 'rootstocklaw01.EditsTakes', WHERE WHAT IT READS IS OF BULK AT MOST 1048576: true; the input reads as it did. -/
def editsTakesUptoRow : OpenClaim := { program := "ytncnloaclpaefaa", sum := "37d651613ab16654e3b6a40f86321e59774c8cea775ce5af2b70c18cc04b8ebb", func := "rootstock/rootstocklaw01.EditsTakes", spec := "editsTakes", apart := false, narrowed := true }
def EditsTakesUptoSaid : Prop := editsTakesUptoRow.holds Try.pinned (OpenSpec.upto editsTakesSpec)

/-- 'rootstocklaw01.EditsUndoes', WHERE WHAT IT READS IS OF BULK AT MOST 1048576: true; the input reads as it did. -/
def editsUndoesUptoRow : OpenClaim := { program := "ytncnloaclpaefaa", sum := "37d651613ab16654e3b6a40f86321e59774c8cea775ce5af2b70c18cc04b8ebb", func := "rootstock/rootstocklaw01.EditsUndoes", spec := "editsUndoes", apart := false, narrowed := true }
def EditsUndoesUptoSaid : Prop := editsUndoesUptoRow.holds Try.pinned (OpenSpec.upto editsUndoesSpec)

/-- 'rootstocklaw01.EditsApart', WHERE WHAT IT READS IS OF BULK AT MOST 1048576: true; the input reads as it did. -/
def editsApartUptoRow : OpenClaim := { program := "ytncnloaclpaefaa", sum := "37d651613ab16654e3b6a40f86321e59774c8cea775ce5af2b70c18cc04b8ebb", func := "rootstock/rootstocklaw01.EditsApart", spec := "editsApart", apart := false, narrowed := true }
def EditsApartUptoSaid : Prop := editsApartUptoRow.holds Try.pinned (OpenSpec.upto editsApartSpec)

/-- 'rootstocklaw01.EditsFolds', WHERE WHAT IT READS IS OF BULK AT MOST 1048576: true; the input reads as it did. -/
def editsFoldsUptoRow : OpenClaim := { program := "ytncnloaclpaefaa", sum := "37d651613ab16654e3b6a40f86321e59774c8cea775ce5af2b70c18cc04b8ebb", func := "rootstock/rootstocklaw01.EditsFolds", spec := "editsFolds", apart := false, narrowed := true }
def EditsFoldsUptoSaid : Prop := editsFoldsUptoRow.holds Try.pinned (OpenSpec.upto editsFoldsSpec)

end Rows
end Go.Proofs.Ytncnloaclpaefaa
