/-
  No cell of these rows narrows 'for every input' (looked for: loops, veiled, ifaces, maps, wideKeys, modest, calm, conditions, laid).
  DERIVED. THE GIVEN ROWS OF THIS SEAT. 9 by the template 'for every input the law returns true; each argument reads behind the call as it read before'; 0 by the template 'total and deterministic' (their statements: YthjbkiomnipjiaaTotals.lean).
  GIVEN WITH THE SEED: the statements are not yours to turn. If you find one false, say at which input.
  Laid BY PROGRAM, IN A SANDBOX (cutbox-rows.mjs): the forced cells as the released guide's own fill.sh prints them over the translation fc9d91585180857e… (all of the seat's roots in one cut). By AI agents, Wed Nov 11 2026. No macro, syntax, notation, axiom, sorry.
-/
import Derived.Test.YthjbkiomnipjiaaChecked
import GoSem.Claim
import GoSem.ClaimJoined
import GoSem.ClaimMapViews
import Derived.JoinedTies
import Derived.KernelRfl
namespace Go.Proofs.Ythjbkiomnipjiaa
/- THE CELL 'sum', in the pinned program and in every row, IS THE sha256 OF THE DUMP (.gsa) THAT YthjbkiomnipjiaaProg.lean LOADS. Nothing in Lean hashes anything: it is a label: what it is worth is what the hold of that sum in a sandbox is worth. -/
noncomputable def Try.pinned : Pinned := { name := "ythjbkiomnipjiaa", sum := "fc9d91585180857ef647fe77a374ea6dea92b69b714a2b48ee4bd6373f176e1a", checked := Try.checked }
namespace Rows
def none {H : Type} : Left H := { results := [], args := [] }

/-- 'rootstocklaw03.RopeMakes': WHATEVER THE INPUT: true; the input reads as it did. -/
def ropeMakesSpec : ChangeSpec := { name := "ropeMakes", fn := fun _ => fun
  | [d] => { results := [.lit (.bool true)], args := [d] }
  | _ => none }
def ropeMakesRow : OpenClaim := { program := "ythjbkiomnipjiaa", sum := "fc9d91585180857ef647fe77a374ea6dea92b69b714a2b48ee4bd6373f176e1a", func := "rootstock/rootstocklaw03.RopeMakes", spec := "ropeMakes", inPlace := ["internal/bytealg.CountString", "internal/bytealg.IndexByteString", "internal/bytealg.IndexString", "internal/abi.NoEscape"], unfollowed := true, recurses := true, named := ["internal/bytealg.MaxLen"], apart := false }
def RopeMakesSaid : Prop := ropeMakesRow.holds Try.pinned (OpenSpec.ofChange ropeMakesSpec)

/-- ITS FALSE NEIGHBOUR: 'it returns false'. Refute it at one input. -/
def ropeMakesWrong : ChangeSpec := { name := "ropeMakes", fn := fun _ => fun
  | [d] => { results := [.lit (.bool false)], args := [d] }
  | _ => none }
def RopeMakesWrongFalsely : Prop := ropeMakesRow.holds Try.pinned (OpenSpec.ofChange ropeMakesWrong)

/-- 'rootstocklaw03.RopeGoes': WHATEVER THE INPUT: true; the input reads as it did. -/
def ropeGoesSpec : ChangeSpec := { name := "ropeGoes", fn := fun _ => fun
  | [d1, d2] => { results := [.lit (.bool true)], args := [d1, d2] }
  | _ => none }
def ropeGoesRow : OpenClaim := { program := "ythjbkiomnipjiaa", sum := "fc9d91585180857ef647fe77a374ea6dea92b69b714a2b48ee4bd6373f176e1a", func := "rootstock/rootstocklaw03.RopeGoes", spec := "ropeGoes", inPlace := ["internal/bytealg.CountString", "internal/bytealg.IndexByteString", "internal/bytealg.IndexString", "internal/abi.NoEscape"], unfollowed := true, recurses := true, named := ["internal/bytealg.MaxLen"], apart := false }
def RopeGoesSaid : Prop := ropeGoesRow.holds Try.pinned (OpenSpec.ofChange ropeGoesSpec)

/-- ITS FALSE NEIGHBOUR: 'it returns false'. Refute it at one input. -/
def ropeGoesWrong : ChangeSpec := { name := "ropeGoes", fn := fun _ => fun
  | [d1, d2] => { results := [.lit (.bool false)], args := [d1, d2] }
  | _ => none }
def RopeGoesWrongFalsely : Prop := ropeGoesRow.holds Try.pinned (OpenSpec.ofChange ropeGoesWrong)

/-- 'rootstocklaw03.RopeShares': WHATEVER THE INPUT: true; the input reads as it did. -/
def ropeSharesSpec : ChangeSpec := { name := "ropeShares", fn := fun _ => fun
  | [d1, d2] => { results := [.lit (.bool true)], args := [d1, d2] }
  | _ => none }
def ropeSharesRow : OpenClaim := { program := "ythjbkiomnipjiaa", sum := "fc9d91585180857ef647fe77a374ea6dea92b69b714a2b48ee4bd6373f176e1a", func := "rootstock/rootstocklaw03.RopeShares", spec := "ropeShares", inPlace := ["internal/bytealg.CountString", "internal/bytealg.IndexByteString", "internal/bytealg.IndexString", "internal/abi.NoEscape"], unfollowed := true, recurses := true, named := ["internal/bytealg.MaxLen"], apart := false }
def RopeSharesSaid : Prop := ropeSharesRow.holds Try.pinned (OpenSpec.ofChange ropeSharesSpec)

/-- ITS FALSE NEIGHBOUR: 'it returns false'. Refute it at one input. -/
def ropeSharesWrong : ChangeSpec := { name := "ropeShares", fn := fun _ => fun
  | [d1, d2] => { results := [.lit (.bool false)], args := [d1, d2] }
  | _ => none }
def RopeSharesWrongFalsely : Prop := ropeSharesRow.holds Try.pinned (OpenSpec.ofChange ropeSharesWrong)

/-- 'rootstocklaw03.RopeCuts': WHATEVER THE INPUT: true; the input reads as it did. -/
def ropeCutsSpec : ChangeSpec := { name := "ropeCuts", fn := fun _ => fun
  | [d1, d2, d3] => { results := [.lit (.bool true)], args := [d1, d2, d3] }
  | _ => none }
def ropeCutsRow : OpenClaim := { program := "ythjbkiomnipjiaa", sum := "fc9d91585180857ef647fe77a374ea6dea92b69b714a2b48ee4bd6373f176e1a", func := "rootstock/rootstocklaw03.RopeCuts", spec := "ropeCuts", inPlace := ["internal/bytealg.CountString", "internal/bytealg.IndexByteString", "internal/bytealg.IndexString", "internal/abi.NoEscape"], unfollowed := true, recurses := true, named := ["internal/bytealg.MaxLen"], apart := false }
def RopeCutsSaid : Prop := ropeCutsRow.holds Try.pinned (OpenSpec.ofChange ropeCutsSpec)

/-- ITS FALSE NEIGHBOUR: 'it returns false'. Refute it at one input. -/
def ropeCutsWrong : ChangeSpec := { name := "ropeCuts", fn := fun _ => fun
  | [d1, d2, d3] => { results := [.lit (.bool false)], args := [d1, d2, d3] }
  | _ => none }
def RopeCutsWrongFalsely : Prop := ropeCutsRow.holds Try.pinned (OpenSpec.ofChange ropeCutsWrong)

/-- 'rootstocklaw03.RopePlaces': WHATEVER THE INPUT: true; the input reads as it did. -/
def ropePlacesSpec : ChangeSpec := { name := "ropePlaces", fn := fun _ => fun
  | [d1, d2, d3] => { results := [.lit (.bool true)], args := [d1, d2, d3] }
  | _ => none }
def ropePlacesRow : OpenClaim := { program := "ythjbkiomnipjiaa", sum := "fc9d91585180857ef647fe77a374ea6dea92b69b714a2b48ee4bd6373f176e1a", func := "rootstock/rootstocklaw03.RopePlaces", spec := "ropePlaces", inPlace := ["internal/bytealg.CountString", "internal/bytealg.IndexByteString", "internal/bytealg.IndexString", "internal/abi.NoEscape"], unfollowed := true, recurses := true, named := ["internal/bytealg.MaxLen"], apart := false }
def RopePlacesSaid : Prop := ropePlacesRow.holds Try.pinned (OpenSpec.ofChange ropePlacesSpec)

/-- ITS FALSE NEIGHBOUR: 'it returns false'. Refute it at one input. -/
def ropePlacesWrong : ChangeSpec := { name := "ropePlaces", fn := fun _ => fun
  | [d1, d2, d3] => { results := [.lit (.bool false)], args := [d1, d2, d3] }
  | _ => none }
def RopePlacesWrongFalsely : Prop := ropePlacesRow.holds Try.pinned (OpenSpec.ofChange ropePlacesWrong)

/-- 'rootstocklaw03.RopeTwice': WHATEVER THE INPUT: true; the input reads as it did. -/
def ropeTwiceSpec : ChangeSpec := { name := "ropeTwice", fn := fun _ => fun
  | [d1, d2] => { results := [.lit (.bool true)], args := [d1, d2] }
  | _ => none }
def ropeTwiceRow : OpenClaim := { program := "ythjbkiomnipjiaa", sum := "fc9d91585180857ef647fe77a374ea6dea92b69b714a2b48ee4bd6373f176e1a", func := "rootstock/rootstocklaw03.RopeTwice", spec := "ropeTwice", inPlace := ["internal/bytealg.CountString", "internal/bytealg.IndexByteString", "internal/bytealg.IndexString", "internal/abi.NoEscape"], unfollowed := true, recurses := true, named := ["internal/bytealg.MaxLen"], apart := false }
def RopeTwiceSaid : Prop := ropeTwiceRow.holds Try.pinned (OpenSpec.ofChange ropeTwiceSpec)

/-- ITS FALSE NEIGHBOUR: 'it returns false'. Refute it at one input. -/
def ropeTwiceWrong : ChangeSpec := { name := "ropeTwice", fn := fun _ => fun
  | [d1, d2] => { results := [.lit (.bool false)], args := [d1, d2] }
  | _ => none }
def RopeTwiceWrongFalsely : Prop := ropeTwiceRow.holds Try.pinned (OpenSpec.ofChange ropeTwiceWrong)

/-- 'rootstocklaw03.RopePlays': WHATEVER THE INPUT: true; the input reads as it did. -/
def ropePlaysSpec : ChangeSpec := { name := "ropePlays", fn := fun _ => fun
  | [d1, d2] => { results := [.lit (.bool true)], args := [d1, d2] }
  | _ => none }
def ropePlaysRow : OpenClaim := { program := "ythjbkiomnipjiaa", sum := "fc9d91585180857ef647fe77a374ea6dea92b69b714a2b48ee4bd6373f176e1a", func := "rootstock/rootstocklaw03.RopePlays", spec := "ropePlays", inPlace := ["internal/bytealg.CountString", "internal/bytealg.IndexByteString", "internal/bytealg.IndexString", "internal/abi.NoEscape"], unfollowed := true, recurses := true, named := ["internal/bytealg.MaxLen"], apart := false }
def RopePlaysSaid : Prop := ropePlaysRow.holds Try.pinned (OpenSpec.ofChange ropePlaysSpec)

/-- ITS FALSE NEIGHBOUR: 'it returns false'. Refute it at one input. -/
def ropePlaysWrong : ChangeSpec := { name := "ropePlays", fn := fun _ => fun
  | [d1, d2] => { results := [.lit (.bool false)], args := [d1, d2] }
  | _ => none }
def RopePlaysWrongFalsely : Prop := ropePlaysRow.holds Try.pinned (OpenSpec.ofChange ropePlaysWrong)

/-- 'rootstocklaw03.RopeReads': WHATEVER THE INPUT: true; the input reads as it did. -/
def ropeReadsSpec : ChangeSpec := { name := "ropeReads", fn := fun _ => fun
  | [d1, d2] => { results := [.lit (.bool true)], args := [d1, d2] }
  | _ => none }
def ropeReadsRow : OpenClaim := { program := "ythjbkiomnipjiaa", sum := "fc9d91585180857ef647fe77a374ea6dea92b69b714a2b48ee4bd6373f176e1a", func := "rootstock/rootstocklaw03.RopeReads", spec := "ropeReads", inPlace := ["internal/bytealg.CountString", "internal/bytealg.IndexByteString", "internal/bytealg.IndexString", "internal/abi.NoEscape"], unfollowed := true, recurses := true, named := ["internal/bytealg.MaxLen"], apart := false }
def RopeReadsSaid : Prop := ropeReadsRow.holds Try.pinned (OpenSpec.ofChange ropeReadsSpec)

/-- ITS FALSE NEIGHBOUR: 'it returns false'. Refute it at one input. -/
def ropeReadsWrong : ChangeSpec := { name := "ropeReads", fn := fun _ => fun
  | [d1, d2] => { results := [.lit (.bool false)], args := [d1, d2] }
  | _ => none }
def RopeReadsWrongFalsely : Prop := ropeReadsRow.holds Try.pinned (OpenSpec.ofChange ropeReadsWrong)

/-- 'rootstocklaw03.RopeNil': WHATEVER THE INPUT: true; the input reads as it did. -/
def ropeNilSpec : ChangeSpec := { name := "ropeNil", fn := fun _ => fun
  | [d1, d2] => { results := [.lit (.bool true)], args := [d1, d2] }
  | _ => none }
def ropeNilRow : OpenClaim := { program := "ythjbkiomnipjiaa", sum := "fc9d91585180857ef647fe77a374ea6dea92b69b714a2b48ee4bd6373f176e1a", func := "rootstock/rootstocklaw03.RopeNil", spec := "ropeNil", inPlace := ["internal/abi.NoEscape", "internal/bytealg.CountString", "internal/bytealg.IndexByteString", "internal/bytealg.IndexString"], unfollowed := true, recurses := true, named := ["internal/bytealg.MaxLen"], apart := false }
def RopeNilSaid : Prop := ropeNilRow.holds Try.pinned (OpenSpec.ofChange ropeNilSpec)

/-- ITS FALSE NEIGHBOUR: 'it returns false'. Refute it at one input. -/
def ropeNilWrong : ChangeSpec := { name := "ropeNil", fn := fun _ => fun
  | [d1, d2] => { results := [.lit (.bool false)], args := [d1, d2] }
  | _ => none }
def RopeNilWrongFalsely : Prop := ropeNilRow.holds Try.pinned (OpenSpec.ofChange ropeNilWrong)

/- THE SECOND FORM. 'bulk': how many values and letters a reading holds, each counted each time it is reached (what is shared counts as often as it is met; a slice's spare places count too). A statement '..UptoSaid' is the law's where the arguments, and the package variables that the reading takes, are together of bulk at most 1048576: NARROWER than '..Said'. Prove '..Said' where nothing that the law and all that it calls make is longer than what came in: it says more and counts as full. Else prove '..UptoSaid'. A law counts once. -/
mutual
def uptoBulk {H : Type} : DataW H → Nat
  | .lit (.string bytes) => bytes.length + 1
  | .lit _ => 1
  | .nil => 1
  | .ptr d => uptoBulk d + 1
  | .slice elems spare => uptoBulkAll elems + uptoBulkAll spare + 1
  | .agg parts => uptoBulkAll parts + 1
  | .iface _ d => uptoBulk d + 1
  | .map entries => uptoBulkEntries entries + 1
  | .held _ => 1
def uptoBulkAll {H : Type} : List (DataW H) → Nat
  | [] => 0
  | d :: r => uptoBulk d + uptoBulkAll r
def uptoBulkEntries {H : Type} : List (Lit × DataW H) → Nat
  | [] => 0
  | x :: r => uptoBulkEntry x + uptoBulkEntries r
def uptoBulkEntry {H : Type} : Lit × DataW H → Nat
  | (.string bytes, d) => bytes.length + uptoBulk d + 1
  | (_, d) => uptoBulk d + 1
 end
def uptoSmall : (H : Type) → List (DataW H) → Bool := fun _ ds => decide (uptoBulkAll ds ≤ 1048576)
def OpenSpec.upto (s : _root_.Go.ChangeSpec) : _root_.Go.OpenSpec := { _root_.Go.OpenSpec.ofChange s with cond := some uptoSmall }

/-- 'rootstocklaw03.RopeMakes', WHERE WHAT IT READS IS OF BULK AT MOST 1048576: true; the input reads as it did. -/
def ropeMakesUptoRow : OpenClaim := { program := "ythjbkiomnipjiaa", sum := "fc9d91585180857ef647fe77a374ea6dea92b69b714a2b48ee4bd6373f176e1a", func := "rootstock/rootstocklaw03.RopeMakes", spec := "ropeMakes", inPlace := ["internal/bytealg.CountString", "internal/bytealg.IndexByteString", "internal/bytealg.IndexString", "internal/abi.NoEscape"], unfollowed := true, recurses := true, named := ["internal/bytealg.MaxLen"], apart := false, narrowed := true }
def RopeMakesUptoSaid : Prop := ropeMakesUptoRow.holds Try.pinned (OpenSpec.upto ropeMakesSpec)

/-- 'rootstocklaw03.RopeGoes', WHERE WHAT IT READS IS OF BULK AT MOST 1048576: true; the input reads as it did. -/
def ropeGoesUptoRow : OpenClaim := { program := "ythjbkiomnipjiaa", sum := "fc9d91585180857ef647fe77a374ea6dea92b69b714a2b48ee4bd6373f176e1a", func := "rootstock/rootstocklaw03.RopeGoes", spec := "ropeGoes", inPlace := ["internal/bytealg.CountString", "internal/bytealg.IndexByteString", "internal/bytealg.IndexString", "internal/abi.NoEscape"], unfollowed := true, recurses := true, named := ["internal/bytealg.MaxLen"], apart := false, narrowed := true }
def RopeGoesUptoSaid : Prop := ropeGoesUptoRow.holds Try.pinned (OpenSpec.upto ropeGoesSpec)

/-- 'rootstocklaw03.RopeShares', WHERE WHAT IT READS IS OF BULK AT MOST 1048576: true; the input reads as it did. -/
def ropeSharesUptoRow : OpenClaim := { program := "ythjbkiomnipjiaa", sum := "fc9d91585180857ef647fe77a374ea6dea92b69b714a2b48ee4bd6373f176e1a", func := "rootstock/rootstocklaw03.RopeShares", spec := "ropeShares", inPlace := ["internal/bytealg.CountString", "internal/bytealg.IndexByteString", "internal/bytealg.IndexString", "internal/abi.NoEscape"], unfollowed := true, recurses := true, named := ["internal/bytealg.MaxLen"], apart := false, narrowed := true }
def RopeSharesUptoSaid : Prop := ropeSharesUptoRow.holds Try.pinned (OpenSpec.upto ropeSharesSpec)

/-- 'rootstocklaw03.RopeCuts', WHERE WHAT IT READS IS OF BULK AT MOST 1048576: true; the input reads as it did. -/
def ropeCutsUptoRow : OpenClaim := { program := "ythjbkiomnipjiaa", sum := "fc9d91585180857ef647fe77a374ea6dea92b69b714a2b48ee4bd6373f176e1a", func := "rootstock/rootstocklaw03.RopeCuts", spec := "ropeCuts", inPlace := ["internal/bytealg.CountString", "internal/bytealg.IndexByteString", "internal/bytealg.IndexString", "internal/abi.NoEscape"], unfollowed := true, recurses := true, named := ["internal/bytealg.MaxLen"], apart := false, narrowed := true }
def RopeCutsUptoSaid : Prop := ropeCutsUptoRow.holds Try.pinned (OpenSpec.upto ropeCutsSpec)

/-- 'rootstocklaw03.RopePlaces', WHERE WHAT IT READS IS OF BULK AT MOST 1048576: true; the input reads as it did. -/
def ropePlacesUptoRow : OpenClaim := { program := "ythjbkiomnipjiaa", sum := "fc9d91585180857ef647fe77a374ea6dea92b69b714a2b48ee4bd6373f176e1a", func := "rootstock/rootstocklaw03.RopePlaces", spec := "ropePlaces", inPlace := ["internal/bytealg.CountString", "internal/bytealg.IndexByteString", "internal/bytealg.IndexString", "internal/abi.NoEscape"], unfollowed := true, recurses := true, named := ["internal/bytealg.MaxLen"], apart := false, narrowed := true }
def RopePlacesUptoSaid : Prop := ropePlacesUptoRow.holds Try.pinned (OpenSpec.upto ropePlacesSpec)

/-- 'rootstocklaw03.RopeTwice', WHERE WHAT IT READS IS OF BULK AT MOST 1048576: true; the input reads as it did. -/
def ropeTwiceUptoRow : OpenClaim := { program := "ythjbkiomnipjiaa", sum := "fc9d91585180857ef647fe77a374ea6dea92b69b714a2b48ee4bd6373f176e1a", func := "rootstock/rootstocklaw03.RopeTwice", spec := "ropeTwice", inPlace := ["internal/bytealg.CountString", "internal/bytealg.IndexByteString", "internal/bytealg.IndexString", "internal/abi.NoEscape"], unfollowed := true, recurses := true, named := ["internal/bytealg.MaxLen"], apart := false, narrowed := true }
def RopeTwiceUptoSaid : Prop := ropeTwiceUptoRow.holds Try.pinned (OpenSpec.upto ropeTwiceSpec)

/-- 'rootstocklaw03.RopePlays', WHERE WHAT IT READS IS OF BULK AT MOST 1048576: true; the input reads as it did. -/
def ropePlaysUptoRow : OpenClaim := { program := "ythjbkiomnipjiaa", sum := "fc9d91585180857ef647fe77a374ea6dea92b69b714a2b48ee4bd6373f176e1a", func := "rootstock/rootstocklaw03.RopePlays", spec := "ropePlays", inPlace := ["internal/bytealg.CountString", "internal/bytealg.IndexByteString", "internal/bytealg.IndexString", "internal/abi.NoEscape"], unfollowed := true, recurses := true, named := ["internal/bytealg.MaxLen"], apart := false, narrowed := true }
def RopePlaysUptoSaid : Prop := ropePlaysUptoRow.holds Try.pinned (OpenSpec.upto ropePlaysSpec)

/-- 'rootstocklaw03.RopeReads', WHERE WHAT IT READS IS OF BULK AT MOST 1048576: true; the input reads as it did. -/
def ropeReadsUptoRow : OpenClaim := { program := "ythjbkiomnipjiaa", sum := "fc9d91585180857ef647fe77a374ea6dea92b69b714a2b48ee4bd6373f176e1a", func := "rootstock/rootstocklaw03.RopeReads", spec := "ropeReads", inPlace := ["internal/bytealg.CountString", "internal/bytealg.IndexByteString", "internal/bytealg.IndexString", "internal/abi.NoEscape"], unfollowed := true, recurses := true, named := ["internal/bytealg.MaxLen"], apart := false, narrowed := true }
def RopeReadsUptoSaid : Prop := ropeReadsUptoRow.holds Try.pinned (OpenSpec.upto ropeReadsSpec)

/-- 'rootstocklaw03.RopeNil', WHERE WHAT IT READS IS OF BULK AT MOST 1048576: true; the input reads as it did. -/
def ropeNilUptoRow : OpenClaim := { program := "ythjbkiomnipjiaa", sum := "fc9d91585180857ef647fe77a374ea6dea92b69b714a2b48ee4bd6373f176e1a", func := "rootstock/rootstocklaw03.RopeNil", spec := "ropeNil", inPlace := ["internal/abi.NoEscape", "internal/bytealg.CountString", "internal/bytealg.IndexByteString", "internal/bytealg.IndexString"], unfollowed := true, recurses := true, named := ["internal/bytealg.MaxLen"], apart := false, narrowed := true }
def RopeNilUptoSaid : Prop := ropeNilUptoRow.holds Try.pinned (OpenSpec.upto ropeNilSpec)

end Rows
end Go.Proofs.Ythjbkiomnipjiaa
