/-
  No cell of these rows narrows 'for every input' (looked for: loops, veiled, ifaces, maps, wideKeys, modest, calm, conditions, laid).
  DERIVED. THE GIVEN ROWS OF THIS SEAT. 10 by the template 'for every input the law returns true; each argument reads behind the call as it read before'; 0 by the template 'total and deterministic' (their statements: YtafinbcmelpieaaTotals.lean).
  GIVEN WITH THE SEED: the statements are not yours to turn. If you find one false, say at which input.
  Laid BY PROGRAM, IN A SANDBOX (cutbox-rows.mjs): the forced cells as the released guide's own fill.sh prints them over the translation 1afd5974146563de… (all of the seat's roots in one cut). By AI agents, Wed Nov 11 2026. No macro, syntax, notation, axiom, sorry.
-/
import Derived.Test.YtafinbcmelpieaaChecked
import GoSem.Claim
import GoSem.ClaimJoined
import GoSem.ClaimMapViews
import Derived.JoinedTies
import Derived.KernelRfl
namespace Go.Proofs.Ytafinbcmelpieaa
/- THE CELL 'sum', in the pinned program and in every row, IS THE sha256 OF THE DUMP (.gsa) THAT YtafinbcmelpieaaProg.lean LOADS. Nothing in Lean hashes anything: it is a label: what it is worth is what the hold of that sum in a sandbox is worth. -/
noncomputable def Try.pinned : Pinned := { name := "ytafinbcmelpieaa", sum := "1afd5974146563debc623aa3464139f7bab14919015ecfebd2eea498838e53b4", checked := Try.checked }
namespace Rows
def none {H : Type} : Left H := { results := [], args := [] }

/-- 'arbourlaw9.ScanFolds': WHATEVER THE INPUT: true; the input reads as it did. -/
def scanFoldsSpec : ChangeSpec := { name := "scanFolds", fn := fun _ => fun
  | [d1, d2, d3] => { results := [.lit (.bool true)], args := [d1, d2, d3] }
  | _ => none }
def scanFoldsRow : OpenClaim := { program := "ytafinbcmelpieaa", sum := "1afd5974146563debc623aa3464139f7bab14919015ecfebd2eea498838e53b4", func := "arbour/arbourlaw9.ScanFolds", spec := "scanFolds", inPlace := ["internal/bytealg.IndexByteString", "internal/bytealg.IndexString"], named := ["internal/bytealg.MaxLen"], apart := false }
def ScanFoldsSaid : Prop := scanFoldsRow.holds Try.pinned (OpenSpec.ofChange scanFoldsSpec)

/-- ITS FALSE NEIGHBOUR: 'it returns false'. Refute it at one input. -/
def scanFoldsWrong : ChangeSpec := { name := "scanFolds", fn := fun _ => fun
  | [d1, d2, d3] => { results := [.lit (.bool false)], args := [d1, d2, d3] }
  | _ => none }
def ScanFoldsWrongFalsely : Prop := scanFoldsRow.holds Try.pinned (OpenSpec.ofChange scanFoldsWrong)

/-- 'arbourlaw9.ScanNames': WHATEVER THE INPUT: true; the input reads as it did. -/
def scanNamesSpec : ChangeSpec := { name := "scanNames", fn := fun _ => fun
  | [d1, d2] => { results := [.lit (.bool true)], args := [d1, d2] }
  | _ => none }
def scanNamesRow : OpenClaim := { program := "ytafinbcmelpieaa", sum := "1afd5974146563debc623aa3464139f7bab14919015ecfebd2eea498838e53b4", func := "arbour/arbourlaw9.ScanNames", spec := "scanNames", inPlace := ["internal/bytealg.IndexByteString", "internal/bytealg.IndexString"], named := ["internal/bytealg.MaxLen"], apart := false }
def ScanNamesSaid : Prop := scanNamesRow.holds Try.pinned (OpenSpec.ofChange scanNamesSpec)

/-- ITS FALSE NEIGHBOUR: 'it returns false'. Refute it at one input. -/
def scanNamesWrong : ChangeSpec := { name := "scanNames", fn := fun _ => fun
  | [d1, d2] => { results := [.lit (.bool false)], args := [d1, d2] }
  | _ => none }
def ScanNamesWrongFalsely : Prop := scanNamesRow.holds Try.pinned (OpenSpec.ofChange scanNamesWrong)

/-- 'arbourlaw9.ScanFinds': WHATEVER THE INPUT: true; the input reads as it did. -/
def scanFindsSpec : ChangeSpec := { name := "scanFinds", fn := fun _ => fun
  | [d1, d2, d3] => { results := [.lit (.bool true)], args := [d1, d2, d3] }
  | _ => none }
def scanFindsRow : OpenClaim := { program := "ytafinbcmelpieaa", sum := "1afd5974146563debc623aa3464139f7bab14919015ecfebd2eea498838e53b4", func := "arbour/arbourlaw9.ScanFinds", spec := "scanFinds", inPlace := ["internal/bytealg.IndexByteString", "internal/bytealg.IndexString"], named := ["internal/bytealg.MaxLen"], apart := false }
def ScanFindsSaid : Prop := scanFindsRow.holds Try.pinned (OpenSpec.ofChange scanFindsSpec)

/-- ITS FALSE NEIGHBOUR: 'it returns false'. Refute it at one input. -/
def scanFindsWrong : ChangeSpec := { name := "scanFinds", fn := fun _ => fun
  | [d1, d2, d3] => { results := [.lit (.bool false)], args := [d1, d2, d3] }
  | _ => none }
def ScanFindsWrongFalsely : Prop := scanFindsRow.holds Try.pinned (OpenSpec.ofChange scanFindsWrong)

/-- 'arbourlaw9.ScanNumbers': WHATEVER THE INPUT: true; the input reads as it did. -/
def scanNumbersSpec : ChangeSpec := { name := "scanNumbers", fn := fun _ => fun
  | [] => { results := [.lit (.bool true)], args := [] }
  | _ => none }
def scanNumbersRow : OpenClaim := { program := "ytafinbcmelpieaa", sum := "1afd5974146563debc623aa3464139f7bab14919015ecfebd2eea498838e53b4", func := "arbour/arbourlaw9.ScanNumbers", spec := "scanNumbers", inPlace := ["internal/bytealg.IndexByteString", "internal/bytealg.IndexString"], named := ["internal/bytealg.MaxLen"], apart := false }
def ScanNumbersSaid : Prop := scanNumbersRow.holds Try.pinned (OpenSpec.ofChange scanNumbersSpec)

/-- ITS FALSE NEIGHBOUR: 'it returns false'. Refute it at one input. -/
def scanNumbersWrong : ChangeSpec := { name := "scanNumbers", fn := fun _ => fun
  | [] => { results := [.lit (.bool false)], args := [] }
  | _ => none }
def ScanNumbersWrongFalsely : Prop := scanNumbersRow.holds Try.pinned (OpenSpec.ofChange scanNumbersWrong)

/-- 'arbourlaw9.ScanTells': WHATEVER THE INPUT: true; the input reads as it did. -/
def scanTellsSpec : ChangeSpec := { name := "scanTells", fn := fun _ => fun
  | [d1, d2, d3, d4, d5] => { results := [.lit (.bool true)], args := [d1, d2, d3, d4, d5] }
  | _ => none }
def scanTellsRow : OpenClaim := { program := "ytafinbcmelpieaa", sum := "1afd5974146563debc623aa3464139f7bab14919015ecfebd2eea498838e53b4", func := "arbour/arbourlaw9.ScanTells", spec := "scanTells", inPlace := ["internal/bytealg.IndexByteString", "internal/bytealg.IndexString"], named := ["internal/bytealg.MaxLen"], apart := false }
def ScanTellsSaid : Prop := scanTellsRow.holds Try.pinned (OpenSpec.ofChange scanTellsSpec)

/-- ITS FALSE NEIGHBOUR: 'it returns false'. Refute it at one input. -/
def scanTellsWrong : ChangeSpec := { name := "scanTells", fn := fun _ => fun
  | [d1, d2, d3, d4, d5] => { results := [.lit (.bool false)], args := [d1, d2, d3, d4, d5] }
  | _ => none }
def ScanTellsWrongFalsely : Prop := scanTellsRow.holds Try.pinned (OpenSpec.ofChange scanTellsWrong)

/-- 'arbourlaw9.ScanPlaces': WHATEVER THE INPUT: true; the input reads as it did. -/
def scanPlacesSpec : ChangeSpec := { name := "scanPlaces", fn := fun _ => fun
  | [d1, d2, d3] => { results := [.lit (.bool true)], args := [d1, d2, d3] }
  | _ => none }
def scanPlacesRow : OpenClaim := { program := "ytafinbcmelpieaa", sum := "1afd5974146563debc623aa3464139f7bab14919015ecfebd2eea498838e53b4", func := "arbour/arbourlaw9.ScanPlaces", spec := "scanPlaces", inPlace := ["internal/bytealg.IndexByteString", "internal/bytealg.IndexString"], named := ["internal/bytealg.MaxLen"], apart := false }
def ScanPlacesSaid : Prop := scanPlacesRow.holds Try.pinned (OpenSpec.ofChange scanPlacesSpec)

/-- ITS FALSE NEIGHBOUR: 'it returns false'. Refute it at one input. -/
def scanPlacesWrong : ChangeSpec := { name := "scanPlaces", fn := fun _ => fun
  | [d1, d2, d3] => { results := [.lit (.bool false)], args := [d1, d2, d3] }
  | _ => none }
def ScanPlacesWrongFalsely : Prop := scanPlacesRow.holds Try.pinned (OpenSpec.ofChange scanPlacesWrong)

/-- 'arbourlaw1.StackCuts': WHATEVER THE INPUT: true; the input reads as it did. -/
def stackCutsSpec : ChangeSpec := { name := "stackCuts", fn := fun _ => fun
  | [d1, d2, d3] => { results := [.lit (.bool true)], args := [d1, d2, d3] }
  | _ => none }
def stackCutsRow : OpenClaim := { program := "ytafinbcmelpieaa", sum := "1afd5974146563debc623aa3464139f7bab14919015ecfebd2eea498838e53b4", func := "arbour/arbourlaw1.StackCuts", spec := "stackCuts", inPlace := ["slices.overlaps[int]", "slices.overlaps[string]"], apart := false }
def StackCutsSaid : Prop := stackCutsRow.holds Try.pinned (OpenSpec.ofChange stackCutsSpec)

/-- ITS FALSE NEIGHBOUR: 'it returns false'. Refute it at one input. -/
def stackCutsWrong : ChangeSpec := { name := "stackCuts", fn := fun _ => fun
  | [d1, d2, d3] => { results := [.lit (.bool false)], args := [d1, d2, d3] }
  | _ => none }
def StackCutsWrongFalsely : Prop := stackCutsRow.holds Try.pinned (OpenSpec.ofChange stackCutsWrong)

/-- 'arbourlaw1.StackTurns': WHATEVER THE INPUT: true; the input reads as it did. -/
def stackTurnsSpec : ChangeSpec := { name := "stackTurns", fn := fun _ => fun
  | [d] => { results := [.lit (.bool true)], args := [d] }
  | _ => none }
def stackTurnsRow : OpenClaim := { program := "ytafinbcmelpieaa", sum := "1afd5974146563debc623aa3464139f7bab14919015ecfebd2eea498838e53b4", func := "arbour/arbourlaw1.StackTurns", spec := "stackTurns", inPlace := ["slices.overlaps[string]"], apart := false }
def StackTurnsSaid : Prop := stackTurnsRow.holds Try.pinned (OpenSpec.ofChange stackTurnsSpec)

/-- ITS FALSE NEIGHBOUR: 'it returns false'. Refute it at one input. -/
def stackTurnsWrong : ChangeSpec := { name := "stackTurns", fn := fun _ => fun
  | [d] => { results := [.lit (.bool false)], args := [d] }
  | _ => none }
def StackTurnsWrongFalsely : Prop := stackTurnsRow.holds Try.pinned (OpenSpec.ofChange stackTurnsWrong)

/-- 'arbourlaw1.StackNumbers': WHATEVER THE INPUT: true; the input reads as it did. -/
def stackNumbersSpec : ChangeSpec := { name := "stackNumbers", fn := fun _ => fun
  | [] => { results := [.lit (.bool true)], args := [] }
  | _ => none }
def stackNumbersRow : OpenClaim := { program := "ytafinbcmelpieaa", sum := "1afd5974146563debc623aa3464139f7bab14919015ecfebd2eea498838e53b4", func := "arbour/arbourlaw1.StackNumbers", spec := "stackNumbers", inPlace := ["slices.overlaps[int]", "slices.overlaps[string]"], apart := false }
def StackNumbersSaid : Prop := stackNumbersRow.holds Try.pinned (OpenSpec.ofChange stackNumbersSpec)

/-- ITS FALSE NEIGHBOUR: 'it returns false'. Refute it at one input. -/
def stackNumbersWrong : ChangeSpec := { name := "stackNumbers", fn := fun _ => fun
  | [] => { results := [.lit (.bool false)], args := [] }
  | _ => none }
def StackNumbersWrongFalsely : Prop := stackNumbersRow.holds Try.pinned (OpenSpec.ofChange stackNumbersWrong)

/-- 'arbourlaw1.StackPlays': WHATEVER THE INPUT: true; the input reads as it did. -/
def stackPlaysSpec : ChangeSpec := { name := "stackPlays", fn := fun _ => fun
  | [d] => { results := [.lit (.bool true)], args := [d] }
  | _ => none }
def stackPlaysRow : OpenClaim := { program := "ytafinbcmelpieaa", sum := "1afd5974146563debc623aa3464139f7bab14919015ecfebd2eea498838e53b4", func := "arbour/arbourlaw1.StackPlays", spec := "stackPlays", inPlace := ["slices.overlaps[int]", "slices.overlaps[string]"], apart := false }
def StackPlaysSaid : Prop := stackPlaysRow.holds Try.pinned (OpenSpec.ofChange stackPlaysSpec)

/-- ITS FALSE NEIGHBOUR: 'it returns false'. Refute it at one input. -/
def stackPlaysWrong : ChangeSpec := { name := "stackPlays", fn := fun _ => fun
  | [d] => { results := [.lit (.bool false)], args := [d] }
  | _ => none }
def StackPlaysWrongFalsely : Prop := stackPlaysRow.holds Try.pinned (OpenSpec.ofChange stackPlaysWrong)

/- THE SECOND FORM. 'bulk': how many values and letters a reading holds, each counted each time it is reached (what is shared counts as often as it is met; a slice's spare places count too). A statement '..UptoSaid' is the law's where the arguments, and the package variables that the reading takes, are together of bulk at most 1048576: NARROWER than '..Said'. Prove '..Said' where nothing that the law and all that it calls make is longer than what came in: it says more and counts as full. Else prove '..UptoSaid'. A law counts once. -/
mutual
def uptoBulk {H : Type} : DataW H → Nat
  | .lit (.string bytes) => bytes.length + 1
  | .lit _ => 1
  | .nil => 1
  | .ptr d => uptoBulk d + 1
  | .slice elems spare => uptoBulkAll elems + uptoBulkAll spare + 1
  | .agg parts => uptoBulkAll parts + 1
  | .iface _ d => uptoBulk d + 1
  | .map entries => uptoBulkEntries entries + 1
  | .held _ => 1
def uptoBulkAll {H : Type} : List (DataW H) → Nat
  | [] => 0
  | d :: r => uptoBulk d + uptoBulkAll r
def uptoBulkEntries {H : Type} : List (Lit × DataW H) → Nat
  | [] => 0
  | x :: r => uptoBulkEntry x + uptoBulkEntries r
def uptoBulkEntry {H : Type} : Lit × DataW H → Nat
  | (.string bytes, d) => bytes.length + uptoBulk d + 1
  | (_, d) => uptoBulk d + 1
 end
def uptoSmall : (H : Type) → List (DataW H) → Bool := fun _ ds => decide (uptoBulkAll ds ≤ 1048576)
def OpenSpec.upto (s : _root_.Go.ChangeSpec) : _root_.Go.OpenSpec := { _root_.Go.OpenSpec.ofChange s with cond := some uptoSmall }

/-- 'arbourlaw9.ScanFolds', WHERE WHAT IT READS IS OF BULK AT MOST 1048576: true; the input reads as it did. -/
def scanFoldsUptoRow : OpenClaim := { program := "ytafinbcmelpieaa", sum := "1afd5974146563debc623aa3464139f7bab14919015ecfebd2eea498838e53b4", func := "arbour/arbourlaw9.ScanFolds", spec := "scanFolds", inPlace := ["internal/bytealg.IndexByteString", "internal/bytealg.IndexString"], named := ["internal/bytealg.MaxLen"], apart := false, narrowed := true }
def ScanFoldsUptoSaid : Prop := scanFoldsUptoRow.holds Try.pinned (OpenSpec.upto scanFoldsSpec)

/-- 'arbourlaw9.ScanNames', WHERE WHAT IT READS IS OF BULK AT MOST 1048576: true; the input reads as it did. -/
def scanNamesUptoRow : OpenClaim := { program := "ytafinbcmelpieaa", sum := "1afd5974146563debc623aa3464139f7bab14919015ecfebd2eea498838e53b4", func := "arbour/arbourlaw9.ScanNames", spec := "scanNames", inPlace := ["internal/bytealg.IndexByteString", "internal/bytealg.IndexString"], named := ["internal/bytealg.MaxLen"], apart := false, narrowed := true }
def ScanNamesUptoSaid : Prop := scanNamesUptoRow.holds Try.pinned (OpenSpec.upto scanNamesSpec)

/-- 'arbourlaw9.ScanFinds', WHERE WHAT IT READS IS OF BULK AT MOST 1048576: true; the input reads as it did. -/
def scanFindsUptoRow : OpenClaim := { program := "ytafinbcmelpieaa", sum := "1afd5974146563debc623aa3464139f7bab14919015ecfebd2eea498838e53b4", func := "arbour/arbourlaw9.ScanFinds", spec := "scanFinds", inPlace := ["internal/bytealg.IndexByteString", "internal/bytealg.IndexString"], named := ["internal/bytealg.MaxLen"], apart := false, narrowed := true }
def ScanFindsUptoSaid : Prop := scanFindsUptoRow.holds Try.pinned (OpenSpec.upto scanFindsSpec)

/-- 'arbourlaw9.ScanNumbers', WHERE WHAT IT READS IS OF BULK AT MOST 1048576: true; the input reads as it did. -/
def scanNumbersUptoRow : OpenClaim := { program := "ytafinbcmelpieaa", sum := "1afd5974146563debc623aa3464139f7bab14919015ecfebd2eea498838e53b4", func := "arbour/arbourlaw9.ScanNumbers", spec := "scanNumbers", inPlace := ["internal/bytealg.IndexByteString", "internal/bytealg.IndexString"], named := ["internal/bytealg.MaxLen"], apart := false, narrowed := true }
def ScanNumbersUptoSaid : Prop := scanNumbersUptoRow.holds Try.pinned (OpenSpec.upto scanNumbersSpec)

/-- 'arbourlaw9.ScanTells', WHERE WHAT IT READS IS OF BULK AT MOST 1048576: true; the input reads as it did. -/
def scanTellsUptoRow : OpenClaim := { program := "ytafinbcmelpieaa", sum := "1afd5974146563debc623aa3464139f7bab14919015ecfebd2eea498838e53b4", func := "arbour/arbourlaw9.ScanTells", spec := "scanTells", inPlace := ["internal/bytealg.IndexByteString", "internal/bytealg.IndexString"], named := ["internal/bytealg.MaxLen"], apart := false, narrowed := true }
def ScanTellsUptoSaid : Prop := scanTellsUptoRow.holds Try.pinned (OpenSpec.upto scanTellsSpec)

/-- 'arbourlaw9.ScanPlaces', WHERE WHAT IT READS IS OF BULK AT MOST 1048576: true; the input reads as it did. -/
def scanPlacesUptoRow : OpenClaim := { program := "ytafinbcmelpieaa", sum := "1afd5974146563debc623aa3464139f7bab14919015ecfebd2eea498838e53b4", func := "arbour/arbourlaw9.ScanPlaces", spec := "scanPlaces", inPlace := ["internal/bytealg.IndexByteString", "internal/bytealg.IndexString"], named := ["internal/bytealg.MaxLen"], apart := false, narrowed := true }
def ScanPlacesUptoSaid : Prop := scanPlacesUptoRow.holds Try.pinned (OpenSpec.upto scanPlacesSpec)

/-- 'arbourlaw1.StackCuts', WHERE WHAT IT READS IS OF BULK AT MOST 1048576: true; the input reads as it did. -/
def stackCutsUptoRow : OpenClaim := { program := "ytafinbcmelpieaa", sum := "1afd5974146563debc623aa3464139f7bab14919015ecfebd2eea498838e53b4", func := "arbour/arbourlaw1.StackCuts", spec := "stackCuts", inPlace := ["slices.overlaps[int]", "slices.overlaps[string]"], apart := false, narrowed := true }
def StackCutsUptoSaid : Prop := stackCutsUptoRow.holds Try.pinned (OpenSpec.upto stackCutsSpec)

/-- 'arbourlaw1.StackTurns', WHERE WHAT IT READS IS OF BULK AT MOST 1048576: true; the input reads as it did. -/
def stackTurnsUptoRow : OpenClaim := { program := "ytafinbcmelpieaa", sum := "1afd5974146563debc623aa3464139f7bab14919015ecfebd2eea498838e53b4", func := "arbour/arbourlaw1.StackTurns", spec := "stackTurns", inPlace := ["slices.overlaps[string]"], apart := false, narrowed := true }
def StackTurnsUptoSaid : Prop := stackTurnsUptoRow.holds Try.pinned (OpenSpec.upto stackTurnsSpec)

/-- 'arbourlaw1.StackNumbers', WHERE WHAT IT READS IS OF BULK AT MOST 1048576: true; the input reads as it did. -/
def stackNumbersUptoRow : OpenClaim := { program := "ytafinbcmelpieaa", sum := "1afd5974146563debc623aa3464139f7bab14919015ecfebd2eea498838e53b4", func := "arbour/arbourlaw1.StackNumbers", spec := "stackNumbers", inPlace := ["slices.overlaps[int]", "slices.overlaps[string]"], apart := false, narrowed := true }
def StackNumbersUptoSaid : Prop := stackNumbersUptoRow.holds Try.pinned (OpenSpec.upto stackNumbersSpec)

/-- 'arbourlaw1.StackPlays', WHERE WHAT IT READS IS OF BULK AT MOST 1048576: true; the input reads as it did. -/
def stackPlaysUptoRow : OpenClaim := { program := "ytafinbcmelpieaa", sum := "1afd5974146563debc623aa3464139f7bab14919015ecfebd2eea498838e53b4", func := "arbour/arbourlaw1.StackPlays", spec := "stackPlays", inPlace := ["slices.overlaps[int]", "slices.overlaps[string]"], apart := false, narrowed := true }
def StackPlaysUptoSaid : Prop := stackPlaysUptoRow.holds Try.pinned (OpenSpec.upto stackPlaysSpec)

end Rows
end Go.Proofs.Ytafinbcmelpieaa
