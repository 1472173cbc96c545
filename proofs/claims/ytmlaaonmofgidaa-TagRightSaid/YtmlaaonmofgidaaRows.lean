/-
  No cell of these rows narrows 'for every input' (looked for: loops, veiled, ifaces, maps, wideKeys, modest, calm, conditions, laid).
  DERIVED. THE GIVEN ROWS OF THIS SEAT. 6 by the template 'for every input the law returns true; each argument reads behind the call as it read before'; 0 by the template 'total and deterministic' (their statements: YtmlaaonmofgidaaTotals.lean).
  GIVEN WITH THE SEED: the statements are not yours to turn. If you find one false, say at which input.
  Laid BY PROGRAM, IN A SANDBOX (cutbox-rows.mjs): the forced cells as the released guide's own fill.sh prints them over the translation 94bece111e739517… (all of the seat's roots in one cut). By AI agents, Wed Nov 11 2026. No macro, syntax, notation, axiom, sorry.
-/
import Derived.Test.YtmlaaonmofgidaaChecked
import GoSem.Claim
import GoSem.ClaimJoined
import GoSem.ClaimMapViews
import Derived.JoinedTies
import Derived.KernelRfl
namespace Go.Proofs.Ytmlaaonmofgidaa
/- THE CELL 'sum', in the pinned program and in every row, IS THE sha256 OF THE DUMP (.gsa) THAT YtmlaaonmofgidaaProg.lean LOADS. Nothing in Lean hashes anything: it is a label: what it is worth is what the hold of that sum in a sandbox is worth. -/
noncomputable def Try.pinned : Pinned := { name := "ytmlaaonmofgidaa", sum := "94bece111e739517c617af429ad4a735506a83d993a8031ba8e82f8e3f5931fb", checked := Try.checked }
namespace Rows
def none {H : Type} : Left H := { results := [], args := [] }

/-- 'arbourlaw11.TagNumbers': WHATEVER THE INPUT: true; the input reads as it did. -/
def tagNumbersSpec : ChangeSpec := { name := "tagNumbers", fn := fun _ => fun
  | [] => { results := [.lit (.bool true)], args := [] }
  | _ => none }
def tagNumbersRow : OpenClaim := { program := "ytmlaaonmofgidaa", sum := "94bece111e739517c617af429ad4a735506a83d993a8031ba8e82f8e3f5931fb", func := "arbour/arbourlaw11.TagNumbers", spec := "tagNumbers", inPlace := ["internal/bytealg.IndexByteString", "internal/bytealg.IndexString", "internal/abi.NoEscape"], unfollowed := true, recurses := true, named := ["internal/bytealg.MaxLen"], apart := false }
def TagNumbersSaid : Prop := tagNumbersRow.holds Try.pinned (OpenSpec.ofChange tagNumbersSpec)

/-- ITS FALSE NEIGHBOUR: 'it returns false'. Refute it at one input. -/
def tagNumbersWrong : ChangeSpec := { name := "tagNumbers", fn := fun _ => fun
  | [] => { results := [.lit (.bool false)], args := [] }
  | _ => none }
def TagNumbersWrongFalsely : Prop := tagNumbersRow.holds Try.pinned (OpenSpec.ofChange tagNumbersWrong)

/-- 'arbourlaw11.TagTells': WHATEVER THE INPUT: true; the input reads as it did. -/
def tagTellsSpec : ChangeSpec := { name := "tagTells", fn := fun _ => fun
  | [d1, d2, d3, d4] => { results := [.lit (.bool true)], args := [d1, d2, d3, d4] }
  | _ => none }
def tagTellsRow : OpenClaim := { program := "ytmlaaonmofgidaa", sum := "94bece111e739517c617af429ad4a735506a83d993a8031ba8e82f8e3f5931fb", func := "arbour/arbourlaw11.TagTells", spec := "tagTells", inPlace := ["internal/bytealg.IndexByteString", "internal/bytealg.IndexString", "internal/abi.NoEscape"], unfollowed := true, recurses := true, named := ["internal/bytealg.MaxLen"], apart := false }
def TagTellsSaid : Prop := tagTellsRow.holds Try.pinned (OpenSpec.ofChange tagTellsSpec)

/-- ITS FALSE NEIGHBOUR: 'it returns false'. Refute it at one input. -/
def tagTellsWrong : ChangeSpec := { name := "tagTells", fn := fun _ => fun
  | [d1, d2, d3, d4] => { results := [.lit (.bool false)], args := [d1, d2, d3, d4] }
  | _ => none }
def TagTellsWrongFalsely : Prop := tagTellsRow.holds Try.pinned (OpenSpec.ofChange tagTellsWrong)

/-- 'arbourlaw11.TagAttrs': WHATEVER THE INPUT: true; the input reads as it did. -/
def tagAttrsSpec : ChangeSpec := { name := "tagAttrs", fn := fun _ => fun
  | [d1, d2, d3] => { results := [.lit (.bool true)], args := [d1, d2, d3] }
  | _ => none }
def tagAttrsRow : OpenClaim := { program := "ytmlaaonmofgidaa", sum := "94bece111e739517c617af429ad4a735506a83d993a8031ba8e82f8e3f5931fb", func := "arbour/arbourlaw11.TagAttrs", spec := "tagAttrs", inPlace := ["internal/bytealg.IndexByteString", "internal/bytealg.IndexString", "internal/abi.NoEscape"], unfollowed := true, recurses := true, named := ["internal/bytealg.MaxLen"], apart := false }
def TagAttrsSaid : Prop := tagAttrsRow.holds Try.pinned (OpenSpec.ofChange tagAttrsSpec)

/-- ITS FALSE NEIGHBOUR: 'it returns false'. Refute it at one input. -/
def tagAttrsWrong : ChangeSpec := { name := "tagAttrs", fn := fun _ => fun
  | [d1, d2, d3] => { results := [.lit (.bool false)], args := [d1, d2, d3] }
  | _ => none }
def TagAttrsWrongFalsely : Prop := tagAttrsRow.holds Try.pinned (OpenSpec.ofChange tagAttrsWrong)

/-- 'arbourlaw11.TagValues': WHATEVER THE INPUT: true; the input reads as it did. -/
def tagValuesSpec : ChangeSpec := { name := "tagValues", fn := fun _ => fun
  | [d1, d2] => { results := [.lit (.bool true)], args := [d1, d2] }
  | _ => none }
def tagValuesRow : OpenClaim := { program := "ytmlaaonmofgidaa", sum := "94bece111e739517c617af429ad4a735506a83d993a8031ba8e82f8e3f5931fb", func := "arbour/arbourlaw11.TagValues", spec := "tagValues", inPlace := ["internal/bytealg.IndexByteString", "internal/bytealg.IndexString", "internal/abi.NoEscape"], unfollowed := true, recurses := true, named := ["internal/bytealg.MaxLen"], apart := false }
def TagValuesSaid : Prop := tagValuesRow.holds Try.pinned (OpenSpec.ofChange tagValuesSpec)

/-- ITS FALSE NEIGHBOUR: 'it returns false'. Refute it at one input. -/
def tagValuesWrong : ChangeSpec := { name := "tagValues", fn := fun _ => fun
  | [d1, d2] => { results := [.lit (.bool false)], args := [d1, d2] }
  | _ => none }
def TagValuesWrongFalsely : Prop := tagValuesRow.holds Try.pinned (OpenSpec.ofChange tagValuesWrong)

/-- 'arbourlaw11.TagLost': WHATEVER THE INPUT: true; the input reads as it did. -/
def tagLostSpec : ChangeSpec := { name := "tagLost", fn := fun _ => fun
  | [d1, d2] => { results := [.lit (.bool true)], args := [d1, d2] }
  | _ => none }
def tagLostRow : OpenClaim := { program := "ytmlaaonmofgidaa", sum := "94bece111e739517c617af429ad4a735506a83d993a8031ba8e82f8e3f5931fb", func := "arbour/arbourlaw11.TagLost", spec := "tagLost", inPlace := ["internal/bytealg.IndexByteString", "internal/bytealg.IndexString", "internal/abi.NoEscape"], unfollowed := true, recurses := true, named := ["internal/bytealg.MaxLen"], apart := false }
def TagLostSaid : Prop := tagLostRow.holds Try.pinned (OpenSpec.ofChange tagLostSpec)

/-- ITS FALSE NEIGHBOUR: 'it returns false'. Refute it at one input. -/
def tagLostWrong : ChangeSpec := { name := "tagLost", fn := fun _ => fun
  | [d1, d2] => { results := [.lit (.bool false)], args := [d1, d2] }
  | _ => none }
def TagLostWrongFalsely : Prop := tagLostRow.holds Try.pinned (OpenSpec.ofChange tagLostWrong)

/-- 'arbourlaw11.TagRight': WHATEVER THE INPUT: true; the input reads as it did. -/
def tagRightSpec : ChangeSpec := { name := "tagRight", fn := fun _ => fun
  | [d1, d2, d3] => { results := [.lit (.bool true)], args := [d1, d2, d3] }
  | _ => none }
def tagRightRow : OpenClaim := { program := "ytmlaaonmofgidaa", sum := "94bece111e739517c617af429ad4a735506a83d993a8031ba8e82f8e3f5931fb", func := "arbour/arbourlaw11.TagRight", spec := "tagRight", inPlace := ["internal/bytealg.IndexByteString", "internal/bytealg.IndexString", "internal/abi.NoEscape"], unfollowed := true, recurses := true, named := ["internal/bytealg.MaxLen"], apart := false }
def TagRightSaid : Prop := tagRightRow.holds Try.pinned (OpenSpec.ofChange tagRightSpec)

/-- ITS FALSE NEIGHBOUR: 'it returns false'. Refute it at one input. -/
def tagRightWrong : ChangeSpec := { name := "tagRight", fn := fun _ => fun
  | [d1, d2, d3] => { results := [.lit (.bool false)], args := [d1, d2, d3] }
  | _ => none }
def TagRightWrongFalsely : Prop := tagRightRow.holds Try.pinned (OpenSpec.ofChange tagRightWrong)

/- THE SECOND FORM. 'bulk': how many values and letters a reading holds, each counted each time it is reached (what is shared counts as often as it is met; a slice's spare places count too). A statement '..UptoSaid' is the law's where the arguments, and the package variables that the reading takes, are together of bulk at most 1048576: NARROWER than '..Said'. Prove '..Said' where nothing that the law and all that it calls make is longer than what came in: it says more and counts as full. Else prove '..UptoSaid'. A law counts once. -/
mutual
def uptoBulk {H : Type} : DataW H → Nat
  | .lit (.string bytes) => bytes.length + 1
  | .lit _ => 1
  | .nil => 1
  | .ptr d => uptoBulk d + 1
  | .slice elems spare => uptoBulkAll elems + uptoBulkAll spare + 1
  | .agg parts => uptoBulkAll parts + 1
  | .iface _ d => uptoBulk d + 1
  | .map entries => uptoBulkEntries entries + 1
  | .held _ => 1
def uptoBulkAll {H : Type} : List (DataW H) → Nat
  | [] => 0
  | d :: r => uptoBulk d + uptoBulkAll r
def uptoBulkEntries {H : Type} : List (Lit × DataW H) → Nat
  | [] => 0
  | x :: r => uptoBulkEntry x + uptoBulkEntries r
def uptoBulkEntry {H : Type} : Lit × DataW H → Nat
  | (.string bytes, d) => bytes.length + uptoBulk d + 1
  | (_, d) => uptoBulk d + 1
 end
def uptoSmall : (H : Type) → List (DataW H) → Bool := fun _ ds => decide (uptoBulkAll ds ≤ 1048576)
def OpenSpec.upto (s : _root_.Go.ChangeSpec) : _root_.Go.OpenSpec := { _root_.Go.OpenSpec.ofChange s with cond := some uptoSmall }

/-- 'arbourlaw11.TagNumbers', WHERE WHAT IT READS IS OF BULK AT MOST 1048576: true; the input reads as it did. -/
def tagNumbersUptoRow : OpenClaim := { program := "ytmlaaonmofgidaa", sum := "94bece111e739517c617af429ad4a735506a83d993a8031ba8e82f8e3f5931fb", func := "arbour/arbourlaw11.TagNumbers", spec := "tagNumbers", inPlace := ["internal/bytealg.IndexByteString", "internal/bytealg.IndexString", "internal/abi.NoEscape"], unfollowed := true, recurses := true, named := ["internal/bytealg.MaxLen"], apart := false, narrowed := true }
def TagNumbersUptoSaid : Prop := tagNumbersUptoRow.holds Try.pinned (OpenSpec.upto tagNumbersSpec)

/-- 'arbourlaw11.TagTells', WHERE WHAT IT READS IS OF BULK AT MOST 1048576: true; the input reads as it did. -/
def tagTellsUptoRow : OpenClaim := { program := "ytmlaaonmofgidaa", sum := "94bece111e739517c617af429ad4a735506a83d993a8031ba8e82f8e3f5931fb", func := "arbour/arbourlaw11.TagTells", spec := "tagTells", inPlace := ["internal/bytealg.IndexByteString", "internal/bytealg.IndexString", "internal/abi.NoEscape"], unfollowed := true, recurses := true, named := ["internal/bytealg.MaxLen"], apart := false, narrowed := true }
def TagTellsUptoSaid : Prop := tagTellsUptoRow.holds Try.pinned (OpenSpec.upto tagTellsSpec)

/-- 'arbourlaw11.TagAttrs', WHERE WHAT IT READS IS OF BULK AT MOST 1048576: true; the input reads as it did. -/
def tagAttrsUptoRow : OpenClaim := { program := "ytmlaaonmofgidaa", sum := "94bece111e739517c617af429ad4a735506a83d993a8031ba8e82f8e3f5931fb", func := "arbour/arbourlaw11.TagAttrs", spec := "tagAttrs", inPlace := ["internal/bytealg.IndexByteString", "internal/bytealg.IndexString", "internal/abi.NoEscape"], unfollowed := true, recurses := true, named := ["internal/bytealg.MaxLen"], apart := false, narrowed := true }
def TagAttrsUptoSaid : Prop := tagAttrsUptoRow.holds Try.pinned (OpenSpec.upto tagAttrsSpec)

/-- 'arbourlaw11.TagValues', WHERE WHAT IT READS IS OF BULK AT MOST 1048576: true; the input reads as it did. -/
def tagValuesUptoRow : OpenClaim := { program := "ytmlaaonmofgidaa", sum := "94bece111e739517c617af429ad4a735506a83d993a8031ba8e82f8e3f5931fb", func := "arbour/arbourlaw11.TagValues", spec := "tagValues", inPlace := ["internal/bytealg.IndexByteString", "internal/bytealg.IndexString", "internal/abi.NoEscape"], unfollowed := true, recurses := true, named := ["internal/bytealg.MaxLen"], apart := false, narrowed := true }
def TagValuesUptoSaid : Prop := tagValuesUptoRow.holds Try.pinned (OpenSpec.upto tagValuesSpec)

/-- 'arbourlaw11.TagLost', WHERE WHAT IT READS IS OF BULK AT MOST 1048576: true; the input reads as it did. -/
def tagLostUptoRow : OpenClaim := { program := "ytmlaaonmofgidaa", sum := "94bece111e739517c617af429ad4a735506a83d993a8031ba8e82f8e3f5931fb", func := "arbour/arbourlaw11.TagLost", spec := "tagLost", inPlace := ["internal/bytealg.IndexByteString", "internal/bytealg.IndexString", "internal/abi.NoEscape"], unfollowed := true, recurses := true, named := ["internal/bytealg.MaxLen"], apart := false, narrowed := true }
def TagLostUptoSaid : Prop := tagLostUptoRow.holds Try.pinned (OpenSpec.upto tagLostSpec)

/-- 'arbourlaw11.TagRight', WHERE WHAT IT READS IS OF BULK AT MOST 1048576: true; the input reads as it did. -/
def tagRightUptoRow : OpenClaim := { program := "ytmlaaonmofgidaa", sum := "94bece111e739517c617af429ad4a735506a83d993a8031ba8e82f8e3f5931fb", func := "arbour/arbourlaw11.TagRight", spec := "tagRight", inPlace := ["internal/bytealg.IndexByteString", "internal/bytealg.IndexString", "internal/abi.NoEscape"], unfollowed := true, recurses := true, named := ["internal/bytealg.MaxLen"], apart := false, narrowed := true }
def TagRightUptoSaid : Prop := tagRightUptoRow.holds Try.pinned (OpenSpec.upto tagRightSpec)

end Rows
end Go.Proofs.Ytmlaaonmofgidaa
