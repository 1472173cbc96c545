/-
  NARROWER THAN 'FOR EVERY INPUT', by the rows' own cells (each row's printed sentence says how): StableNumbers: laid · StableTells: laid · StableTexts: laid · SerialNumbers: laid · SerialTells: laid · SerialDeep: laid · SerialJoins: laid.
  DERIVED. THE GIVEN ROWS OF THIS SEAT. 7 by the template 'for every input the law returns true; each argument reads behind the call as it read before'; 0 by the template 'total and deterministic' (their statements: YtojpedgfllgbcaaDoorTotals.lean).
  GIVEN WITH THE SEED: the statements are not yours to turn. If you find one false, say at which input.
  Laid BY PROGRAM, IN A SANDBOX (cutbox-rows.mjs): the forced cells as the released guide's own fill.sh prints them over the translation a9f2646c0c980c68… (all of the seat's roots in one cut). By AI agents, Wed Nov 11 2026. No macro, syntax, notation, axiom, sorry.
-/
import Derived.Test.YtojpedgfllgbcaaDoorChecked
import GoSem.PinnedTables
import GoSem.Claim
import GoSem.ClaimJoined
import GoSem.ClaimMapViews
import Derived.JoinedTies
import Derived.KernelRfl
namespace Go.Proofs.YtojpedgfllgbcaaDoor
/- THE CELL 'sum', in the pinned program and in every row, IS THE sha256 OF THE DUMP (.gsa) THAT YtojpedgfllgbcaaDoorProg.lean LOADS. Nothing in Lean hashes anything: it is a label: what it is worth is what the hold of that sum in a sandbox is worth. -/
noncomputable def Tryd.pinned : Pinned := { name := "ytojpedgfllgbcaadoor", sum := "a9f2646c0c980c68828ea3a91ac7fe844b9b3c839fff6d39900f876a07eb679a", checked := Tryd.checked }
namespace Rows
def none {H : Type} : Left H := { results := [], args := [] }

/- WHAT THE LISTED PACKAGE-LEVEL VARIABLES READ AS WHEN THE CALL BEGINS. Each datum BY PROGRAM (the guide's laid-datum.mjs) off the statement by which the dump's own 'gosem.cut.vars' lays the variable. In a bare row this is a premise. The card (YtojpedgfllgbcaaDoorCards.lean) ties it to the program's text. -/
def laid_unicode_utf8_acceptRanges {H : Type} : DataW H := .agg [.agg [.lit (.int .u8 128), .lit (.int .u8 191)], .agg [.lit (.int .u8 160), .lit (.int .u8 191)], .agg [.lit (.int .u8 128), .lit (.int .u8 159)], .agg [.lit (.int .u8 144), .lit (.int .u8 191)], .agg [.lit (.int .u8 128), .lit (.int .u8 143)], .agg [.lit (.int .u8 0), .lit (.int .u8 0)], .agg [.lit (.int .u8 0), .lit (.int .u8 0)], .agg [.lit (.int .u8 0), .lit (.int .u8 0)], .agg [.lit (.int .u8 0), .lit (.int .u8 0)], .agg [.lit (.int .u8 0), .lit (.int .u8 0)], .agg [.lit (.int .u8 0), .lit (.int .u8 0)], .agg [.lit (.int .u8 0), .lit (.int .u8 0)], .agg [.lit (.int .u8 0), .lit (.int .u8 0)], .agg [.lit (.int .u8 0), .lit (.int .u8 0)], .agg [.lit (.int .u8 0), .lit (.int .u8 0)], .agg [.lit (.int .u8 0), .lit (.int .u8 0)]]
/-- One of Go's own tables, pinned by name: the form's constant. -/
def laid_unicode_utf8_first : DataW Unit := Go.Pinned.utf8First

/-- 'arbourlaw25.StableNumbers': WHATEVER THE INPUT: true; the input reads as it did. -/
def stableNumbersSpec : ChangeSpec := { name := "stableNumbers", fn := fun _ => fun
  | [] => { results := [.lit (.bool true)], args := [] }
  | _ => none }
def stableNumbersRow : OpenClaim := { program := "ytojpedgfllgbcaadoor", sum := "a9f2646c0c980c68828ea3a91ac7fe844b9b3c839fff6d39900f876a07eb679a", func := "arbour/arbourlaw25.StableNumbers", spec := "stableNumbers", inPlace := ["internal/bytealg.IndexByteString", "internal/bytealg.IndexString"], unfollowed := true, recurses := true, named := ["unicode/utf8.first", "unicode/utf8.acceptRanges", "internal/bytealg.MaxLen"], apart := false, laid := [("unicode/utf8.acceptRanges", laid_unicode_utf8_acceptRanges), ("unicode/utf8.first", laid_unicode_utf8_first)] }
def StableNumbersSaid : Prop := stableNumbersRow.holds Tryd.pinned (OpenSpec.ofChange stableNumbersSpec)

/-- ITS FALSE NEIGHBOUR: 'it returns false'. Refute it at one input. -/
def stableNumbersWrong : ChangeSpec := { name := "stableNumbers", fn := fun _ => fun
  | [] => { results := [.lit (.bool false)], args := [] }
  | _ => none }
def StableNumbersWrongFalsely : Prop := stableNumbersRow.holds Tryd.pinned (OpenSpec.ofChange stableNumbersWrong)

/-- 'arbourlaw25.StableTells': WHATEVER THE INPUT: true; the input reads as it did. -/
def stableTellsSpec : ChangeSpec := { name := "stableTells", fn := fun _ => fun
  | [d1, d2, d3, d4] => { results := [.lit (.bool true)], args := [d1, d2, d3, d4] }
  | _ => none }
def stableTellsRow : OpenClaim := { program := "ytojpedgfllgbcaadoor", sum := "a9f2646c0c980c68828ea3a91ac7fe844b9b3c839fff6d39900f876a07eb679a", func := "arbour/arbourlaw25.StableTells", spec := "stableTells", inPlace := ["internal/bytealg.IndexByteString", "internal/bytealg.IndexString"], unfollowed := true, recurses := true, named := ["unicode/utf8.first", "unicode/utf8.acceptRanges", "internal/bytealg.MaxLen"], apart := false, laid := [("unicode/utf8.acceptRanges", laid_unicode_utf8_acceptRanges), ("unicode/utf8.first", laid_unicode_utf8_first)] }
def StableTellsSaid : Prop := stableTellsRow.holds Tryd.pinned (OpenSpec.ofChange stableTellsSpec)

/-- ITS FALSE NEIGHBOUR: 'it returns false'. Refute it at one input. -/
def stableTellsWrong : ChangeSpec := { name := "stableTells", fn := fun _ => fun
  | [d1, d2, d3, d4] => { results := [.lit (.bool false)], args := [d1, d2, d3, d4] }
  | _ => none }
def StableTellsWrongFalsely : Prop := stableTellsRow.holds Tryd.pinned (OpenSpec.ofChange stableTellsWrong)

/-- 'arbourlaw25.StableTexts': WHATEVER THE INPUT: true; the input reads as it did. -/
def stableTextsSpec : ChangeSpec := { name := "stableTexts", fn := fun _ => fun
  | [d] => { results := [.lit (.bool true)], args := [d] }
  | _ => none }
def stableTextsRow : OpenClaim := { program := "ytojpedgfllgbcaadoor", sum := "a9f2646c0c980c68828ea3a91ac7fe844b9b3c839fff6d39900f876a07eb679a", func := "arbour/arbourlaw25.StableTexts", spec := "stableTexts", inPlace := ["internal/bytealg.IndexByteString", "internal/bytealg.IndexString"], unfollowed := true, recurses := true, named := ["unicode/utf8.first", "unicode/utf8.acceptRanges", "internal/bytealg.MaxLen"], apart := false, laid := [("unicode/utf8.acceptRanges", laid_unicode_utf8_acceptRanges), ("unicode/utf8.first", laid_unicode_utf8_first)] }
def StableTextsSaid : Prop := stableTextsRow.holds Tryd.pinned (OpenSpec.ofChange stableTextsSpec)

/-- ITS FALSE NEIGHBOUR: 'it returns false'. Refute it at one input. -/
def stableTextsWrong : ChangeSpec := { name := "stableTexts", fn := fun _ => fun
  | [d] => { results := [.lit (.bool false)], args := [d] }
  | _ => none }
def StableTextsWrongFalsely : Prop := stableTextsRow.holds Tryd.pinned (OpenSpec.ofChange stableTextsWrong)

/-- 'arbourlaw23.SerialNumbers': WHATEVER THE INPUT: true; the input reads as it did. -/
def serialNumbersSpec : ChangeSpec := { name := "serialNumbers", fn := fun _ => fun
  | [] => { results := [.lit (.bool true)], args := [] }
  | _ => none }
def serialNumbersRow : OpenClaim := { program := "ytojpedgfllgbcaadoor", sum := "a9f2646c0c980c68828ea3a91ac7fe844b9b3c839fff6d39900f876a07eb679a", func := "arbour/arbourlaw23.SerialNumbers", spec := "serialNumbers", inPlace := ["internal/abi.NoEscape", "internal/bytealg.CountString", "internal/bytealg.IndexByteString", "internal/bytealg.IndexString", "internal/bytealg.MakeNoZero"], recurses := true, named := ["internal/bytealg.MaxLen", "unicode/utf8.first", "unicode/utf8.acceptRanges"], apart := false, laid := [("unicode/utf8.acceptRanges", laid_unicode_utf8_acceptRanges), ("unicode/utf8.first", laid_unicode_utf8_first)] }
def SerialNumbersSaid : Prop := serialNumbersRow.holds Tryd.pinned (OpenSpec.ofChange serialNumbersSpec)

/-- ITS FALSE NEIGHBOUR: 'it returns false'. Refute it at one input. -/
def serialNumbersWrong : ChangeSpec := { name := "serialNumbers", fn := fun _ => fun
  | [] => { results := [.lit (.bool false)], args := [] }
  | _ => none }
def SerialNumbersWrongFalsely : Prop := serialNumbersRow.holds Tryd.pinned (OpenSpec.ofChange serialNumbersWrong)

/-- 'arbourlaw23.SerialTells': WHATEVER THE INPUT: true; the input reads as it did. -/
def serialTellsSpec : ChangeSpec := { name := "serialTells", fn := fun _ => fun
  | [d1, d2, d3] => { results := [.lit (.bool true)], args := [d1, d2, d3] }
  | _ => none }
def serialTellsRow : OpenClaim := { program := "ytojpedgfllgbcaadoor", sum := "a9f2646c0c980c68828ea3a91ac7fe844b9b3c839fff6d39900f876a07eb679a", func := "arbour/arbourlaw23.SerialTells", spec := "serialTells", inPlace := ["internal/abi.NoEscape", "internal/bytealg.CountString", "internal/bytealg.IndexByteString", "internal/bytealg.IndexString", "internal/bytealg.MakeNoZero"], recurses := true, named := ["internal/bytealg.MaxLen", "unicode/utf8.first", "unicode/utf8.acceptRanges"], apart := false, laid := [("unicode/utf8.acceptRanges", laid_unicode_utf8_acceptRanges), ("unicode/utf8.first", laid_unicode_utf8_first)] }
def SerialTellsSaid : Prop := serialTellsRow.holds Tryd.pinned (OpenSpec.ofChange serialTellsSpec)

/-- ITS FALSE NEIGHBOUR: 'it returns false'. Refute it at one input. -/
def serialTellsWrong : ChangeSpec := { name := "serialTells", fn := fun _ => fun
  | [d1, d2, d3] => { results := [.lit (.bool false)], args := [d1, d2, d3] }
  | _ => none }
def SerialTellsWrongFalsely : Prop := serialTellsRow.holds Tryd.pinned (OpenSpec.ofChange serialTellsWrong)

/-- 'arbourlaw23.SerialDeep': WHATEVER THE INPUT: true; the input reads as it did. -/
def serialDeepSpec : ChangeSpec := { name := "serialDeep", fn := fun _ => fun
  | [d1, d2] => { results := [.lit (.bool true)], args := [d1, d2] }
  | _ => none }
def serialDeepRow : OpenClaim := { program := "ytojpedgfllgbcaadoor", sum := "a9f2646c0c980c68828ea3a91ac7fe844b9b3c839fff6d39900f876a07eb679a", func := "arbour/arbourlaw23.SerialDeep", spec := "serialDeep", inPlace := ["internal/abi.NoEscape", "internal/bytealg.CountString", "internal/bytealg.IndexByteString", "internal/bytealg.IndexString", "internal/bytealg.MakeNoZero"], named := ["internal/bytealg.MaxLen", "unicode/utf8.first", "unicode/utf8.acceptRanges"], apart := false, laid := [("unicode/utf8.acceptRanges", laid_unicode_utf8_acceptRanges), ("unicode/utf8.first", laid_unicode_utf8_first)] }
def SerialDeepSaid : Prop := serialDeepRow.holds Tryd.pinned (OpenSpec.ofChange serialDeepSpec)

/-- ITS FALSE NEIGHBOUR: 'it returns false'. Refute it at one input. -/
def serialDeepWrong : ChangeSpec := { name := "serialDeep", fn := fun _ => fun
  | [d1, d2] => { results := [.lit (.bool false)], args := [d1, d2] }
  | _ => none }
def SerialDeepWrongFalsely : Prop := serialDeepRow.holds Tryd.pinned (OpenSpec.ofChange serialDeepWrong)

/-- 'arbourlaw23.SerialJoins': WHATEVER THE INPUT: true; the input reads as it did. -/
def serialJoinsSpec : ChangeSpec := { name := "serialJoins", fn := fun _ => fun
  | [d] => { results := [.lit (.bool true)], args := [d] }
  | _ => none }
def serialJoinsRow : OpenClaim := { program := "ytojpedgfllgbcaadoor", sum := "a9f2646c0c980c68828ea3a91ac7fe844b9b3c839fff6d39900f876a07eb679a", func := "arbour/arbourlaw23.SerialJoins", spec := "serialJoins", inPlace := ["internal/abi.NoEscape", "internal/bytealg.CountString", "internal/bytealg.IndexByteString", "internal/bytealg.IndexString", "internal/bytealg.MakeNoZero"], recurses := true, named := ["internal/bytealg.MaxLen", "unicode/utf8.first", "unicode/utf8.acceptRanges"], apart := false, laid := [("unicode/utf8.acceptRanges", laid_unicode_utf8_acceptRanges), ("unicode/utf8.first", laid_unicode_utf8_first)] }
def SerialJoinsSaid : Prop := serialJoinsRow.holds Tryd.pinned (OpenSpec.ofChange serialJoinsSpec)

/-- ITS FALSE NEIGHBOUR: 'it returns false'. Refute it at one input. -/
def serialJoinsWrong : ChangeSpec := { name := "serialJoins", fn := fun _ => fun
  | [d] => { results := [.lit (.bool false)], args := [d] }
  | _ => none }
def SerialJoinsWrongFalsely : Prop := serialJoinsRow.holds Tryd.pinned (OpenSpec.ofChange serialJoinsWrong)

/- THE SECOND FORM. 'bulk': how many values and letters a reading holds, each counted each time it is reached (what is shared counts as often as it is met; a slice's spare places count too). A statement '..UptoSaid' is the law's where the arguments, and the package variables that the reading takes, are together of bulk at most 1048576: NARROWER than '..Said'. Prove '..Said' where nothing that the law and all that it calls make is longer than what came in: it says more and counts as full. Else prove '..UptoSaid'. A law counts once. -/
mutual
def uptoBulk {H : Type} : DataW H → Nat
  | .lit (.string bytes) => bytes.length + 1
  | .lit _ => 1
  | .nil => 1
  | .ptr d => uptoBulk d + 1
  | .slice elems spare => uptoBulkAll elems + uptoBulkAll spare + 1
  | .agg parts => uptoBulkAll parts + 1
  | .iface _ d => uptoBulk d + 1
  | .map entries => uptoBulkEntries entries + 1
  | .held _ => 1
def uptoBulkAll {H : Type} : List (DataW H) → Nat
  | [] => 0
  | d :: r => uptoBulk d + uptoBulkAll r
def uptoBulkEntries {H : Type} : List (Lit × DataW H) → Nat
  | [] => 0
  | x :: r => uptoBulkEntry x + uptoBulkEntries r
def uptoBulkEntry {H : Type} : Lit × DataW H → Nat
  | (.string bytes, d) => bytes.length + uptoBulk d + 1
  | (_, d) => uptoBulk d + 1
 end
def uptoSmall : (H : Type) → List (DataW H) → Bool := fun _ ds => decide (uptoBulkAll ds ≤ 1048576)
def OpenSpec.upto (s : _root_.Go.ChangeSpec) : _root_.Go.OpenSpec := { _root_.Go.OpenSpec.ofChange s with cond := some uptoSmall }

/-- 'arbourlaw25.StableNumbers', WHERE WHAT IT READS IS OF BULK AT MOST 1048576: true; the input reads as it did. -/
def stableNumbersUptoRow : OpenClaim := { program := "ytojpedgfllgbcaadoor", sum := "a9f2646c0c980c68828ea3a91ac7fe844b9b3c839fff6d39900f876a07eb679a", func := "arbour/arbourlaw25.StableNumbers", spec := "stableNumbers", inPlace := ["internal/bytealg.IndexByteString", "internal/bytealg.IndexString"], unfollowed := true, recurses := true, named := ["unicode/utf8.first", "unicode/utf8.acceptRanges", "internal/bytealg.MaxLen"], apart := false, laid := [("unicode/utf8.acceptRanges", laid_unicode_utf8_acceptRanges), ("unicode/utf8.first", laid_unicode_utf8_first)], narrowed := true }
def StableNumbersUptoSaid : Prop := stableNumbersUptoRow.holds Tryd.pinned (OpenSpec.upto stableNumbersSpec)

/-- 'arbourlaw25.StableTells', WHERE WHAT IT READS IS OF BULK AT MOST 1048576: true; the input reads as it did. -/
def stableTellsUptoRow : OpenClaim := { program := "ytojpedgfllgbcaadoor", sum := "a9f2646c0c980c68828ea3a91ac7fe844b9b3c839fff6d39900f876a07eb679a", func := "arbour/arbourlaw25.StableTells", spec := "stableTells", inPlace := ["internal/bytealg.IndexByteString", "internal/bytealg.IndexString"], unfollowed := true, recurses := true, named := ["unicode/utf8.first", "unicode/utf8.acceptRanges", "internal/bytealg.MaxLen"], apart := false, laid := [("unicode/utf8.acceptRanges", laid_unicode_utf8_acceptRanges), ("unicode/utf8.first", laid_unicode_utf8_first)], narrowed := true }
def StableTellsUptoSaid : Prop := stableTellsUptoRow.holds Tryd.pinned (OpenSpec.upto stableTellsSpec)

/-- 'arbourlaw25.StableTexts', WHERE WHAT IT READS IS OF BULK AT MOST 1048576: true; the input reads as it did. -/
def stableTextsUptoRow : OpenClaim := { program := "ytojpedgfllgbcaadoor", sum := "a9f2646c0c980c68828ea3a91ac7fe844b9b3c839fff6d39900f876a07eb679a", func := "arbour/arbourlaw25.StableTexts", spec := "stableTexts", inPlace := ["internal/bytealg.IndexByteString", "internal/bytealg.IndexString"], unfollowed := true, recurses := true, named := ["unicode/utf8.first", "unicode/utf8.acceptRanges", "internal/bytealg.MaxLen"], apart := false, laid := [("unicode/utf8.acceptRanges", laid_unicode_utf8_acceptRanges), ("unicode/utf8.first", laid_unicode_utf8_first)], narrowed := true }
def StableTextsUptoSaid : Prop := stableTextsUptoRow.holds Tryd.pinned (OpenSpec.upto stableTextsSpec)

/-- 'arbourlaw23.SerialNumbers', WHERE WHAT IT READS IS OF BULK AT MOST 1048576: true; the input reads as it did. -/
def serialNumbersUptoRow : OpenClaim := { program := "ytojpedgfllgbcaadoor", sum := "a9f2646c0c980c68828ea3a91ac7fe844b9b3c839fff6d39900f876a07eb679a", func := "arbour/arbourlaw23.SerialNumbers", spec := "serialNumbers", inPlace := ["internal/abi.NoEscape", "internal/bytealg.CountString", "internal/bytealg.IndexByteString", "internal/bytealg.IndexString", "internal/bytealg.MakeNoZero"], recurses := true, named := ["internal/bytealg.MaxLen", "unicode/utf8.first", "unicode/utf8.acceptRanges"], apart := false, laid := [("unicode/utf8.acceptRanges", laid_unicode_utf8_acceptRanges), ("unicode/utf8.first", laid_unicode_utf8_first)], narrowed := true }
def SerialNumbersUptoSaid : Prop := serialNumbersUptoRow.holds Tryd.pinned (OpenSpec.upto serialNumbersSpec)

/-- 'arbourlaw23.SerialTells', WHERE WHAT IT READS IS OF BULK AT MOST 1048576: true; the input reads as it did. -/
def serialTellsUptoRow : OpenClaim := { program := "ytojpedgfllgbcaadoor", sum := "a9f2646c0c980c68828ea3a91ac7fe844b9b3c839fff6d39900f876a07eb679a", func := "arbour/arbourlaw23.SerialTells", spec := "serialTells", inPlace := ["internal/abi.NoEscape", "internal/bytealg.CountString", "internal/bytealg.IndexByteString", "internal/bytealg.IndexString", "internal/bytealg.MakeNoZero"], recurses := true, named := ["internal/bytealg.MaxLen", "unicode/utf8.first", "unicode/utf8.acceptRanges"], apart := false, laid := [("unicode/utf8.acceptRanges", laid_unicode_utf8_acceptRanges), ("unicode/utf8.first", laid_unicode_utf8_first)], narrowed := true }
def SerialTellsUptoSaid : Prop := serialTellsUptoRow.holds Tryd.pinned (OpenSpec.upto serialTellsSpec)

/-- 'arbourlaw23.SerialDeep', WHERE WHAT IT READS IS OF BULK AT MOST 1048576: true; the input reads as it did. -/
def serialDeepUptoRow : OpenClaim := { program := "ytojpedgfllgbcaadoor", sum := "a9f2646c0c980c68828ea3a91ac7fe844b9b3c839fff6d39900f876a07eb679a", func := "arbour/arbourlaw23.SerialDeep", spec := "serialDeep", inPlace := ["internal/abi.NoEscape", "internal/bytealg.CountString", "internal/bytealg.IndexByteString", "internal/bytealg.IndexString", "internal/bytealg.MakeNoZero"], named := ["internal/bytealg.MaxLen", "unicode/utf8.first", "unicode/utf8.acceptRanges"], apart := false, laid := [("unicode/utf8.acceptRanges", laid_unicode_utf8_acceptRanges), ("unicode/utf8.first", laid_unicode_utf8_first)], narrowed := true }
def SerialDeepUptoSaid : Prop := serialDeepUptoRow.holds Tryd.pinned (OpenSpec.upto serialDeepSpec)

/-- 'arbourlaw23.SerialJoins', WHERE WHAT IT READS IS OF BULK AT MOST 1048576: true; the input reads as it did. -/
def serialJoinsUptoRow : OpenClaim := { program := "ytojpedgfllgbcaadoor", sum := "a9f2646c0c980c68828ea3a91ac7fe844b9b3c839fff6d39900f876a07eb679a", func := "arbour/arbourlaw23.SerialJoins", spec := "serialJoins", inPlace := ["internal/abi.NoEscape", "internal/bytealg.CountString", "internal/bytealg.IndexByteString", "internal/bytealg.IndexString", "internal/bytealg.MakeNoZero"], recurses := true, named := ["internal/bytealg.MaxLen", "unicode/utf8.first", "unicode/utf8.acceptRanges"], apart := false, laid := [("unicode/utf8.acceptRanges", laid_unicode_utf8_acceptRanges), ("unicode/utf8.first", laid_unicode_utf8_first)], narrowed := true }
def SerialJoinsUptoSaid : Prop := serialJoinsUptoRow.holds Tryd.pinned (OpenSpec.upto serialJoinsSpec)

end Rows
end Go.Proofs.YtojpedgfllgbcaaDoor
