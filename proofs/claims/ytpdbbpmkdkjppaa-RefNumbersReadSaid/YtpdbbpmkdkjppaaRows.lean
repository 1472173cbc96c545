/-
  No cell of these rows narrows 'for every input' (looked for: loops, veiled, ifaces, maps, wideKeys, modest, calm, conditions, laid).
  DERIVED. THE GIVEN ROWS OF THIS SEAT. 4 by the template 'for every input the law returns true; each argument reads behind the call as it read before'; 0 by the template 'total and deterministic' (their statements: YtpdbbpmkdkjppaaTotals.lean).
  GIVEN WITH THE SEED: the statements are not yours to turn. If you find one false, say at which input.
  Laid BY PROGRAM, IN A SANDBOX (cutbox-rows.mjs): the forced cells as the released guide's own fill.sh prints them over the translation e5bbbdeae189c307… (all of the seat's roots in one cut). By AI agents, Wed Nov 11 2026. No macro, syntax, notation, axiom, sorry.
-/
import Derived.Test.YtpdbbpmkdkjppaaChecked
import GoSem.Claim
import GoSem.ClaimJoined
import GoSem.ClaimMapViews
import Derived.JoinedTies
import Derived.KernelRfl
namespace Go.Proofs.Ytpdbbpmkdkjppaa
/- THE CELL 'sum', in the pinned program and in every row, IS THE sha256 OF THE DUMP (.gsa) THAT YtpdbbpmkdkjppaaProg.lean LOADS. Nothing in Lean hashes anything: it is a label: what it is worth is what the hold of that sum in a sandbox is worth. -/
noncomputable def Try.pinned : Pinned := { name := "ytpdbbpmkdkjppaa", sum := "e5bbbdeae189c307a0020d106af38392d4c858b436ac2700fef0dd7a8db4b91f", checked := Try.checked }
namespace Rows
def none {H : Type} : Left H := { results := [], args := [] }

/-- 'arbourlaw10.RefNumbers': WHATEVER THE INPUT: true; the input reads as it did. -/
def refNumbersSpec : ChangeSpec := { name := "refNumbers", fn := fun _ => fun
  | [] => { results := [.lit (.bool true)], args := [] }
  | _ => none }
def refNumbersRow : OpenClaim := { program := "ytpdbbpmkdkjppaa", sum := "e5bbbdeae189c307a0020d106af38392d4c858b436ac2700fef0dd7a8db4b91f", func := "arbour/arbourlaw10.RefNumbers", spec := "refNumbers", inPlace := ["internal/bytealg.IndexByteString", "internal/bytealg.IndexString", "internal/abi.NoEscape"], named := ["internal/bytealg.MaxLen"], apart := false }
def RefNumbersSaid : Prop := refNumbersRow.holds Try.pinned (OpenSpec.ofChange refNumbersSpec)

/-- ITS FALSE NEIGHBOUR: 'it returns false'. Refute it at one input. -/
def refNumbersWrong : ChangeSpec := { name := "refNumbers", fn := fun _ => fun
  | [] => { results := [.lit (.bool false)], args := [] }
  | _ => none }
def RefNumbersWrongFalsely : Prop := refNumbersRow.holds Try.pinned (OpenSpec.ofChange refNumbersWrong)

/-- 'arbourlaw10.RefTells': WHATEVER THE INPUT: true; the input reads as it did. -/
def refTellsSpec : ChangeSpec := { name := "refTells", fn := fun _ => fun
  | [d1, d2, d3, d4] => { results := [.lit (.bool true)], args := [d1, d2, d3, d4] }
  | _ => none }
def refTellsRow : OpenClaim := { program := "ytpdbbpmkdkjppaa", sum := "e5bbbdeae189c307a0020d106af38392d4c858b436ac2700fef0dd7a8db4b91f", func := "arbour/arbourlaw10.RefTells", spec := "refTells", inPlace := ["internal/bytealg.IndexByteString", "internal/bytealg.IndexString", "internal/abi.NoEscape"], named := ["internal/bytealg.MaxLen"], apart := false }
def RefTellsSaid : Prop := refTellsRow.holds Try.pinned (OpenSpec.ofChange refTellsSpec)

/-- ITS FALSE NEIGHBOUR: 'it returns false'. Refute it at one input. -/
def refTellsWrong : ChangeSpec := { name := "refTells", fn := fun _ => fun
  | [d1, d2, d3, d4] => { results := [.lit (.bool false)], args := [d1, d2, d3, d4] }
  | _ => none }
def RefTellsWrongFalsely : Prop := refTellsRow.holds Try.pinned (OpenSpec.ofChange refTellsWrong)

/-- 'arbourlaw10.RefPlain': WHATEVER THE INPUT: true; the input reads as it did. -/
def refPlainSpec : ChangeSpec := { name := "refPlain", fn := fun _ => fun
  | [d1, d2] => { results := [.lit (.bool true)], args := [d1, d2] }
  | _ => none }
def refPlainRow : OpenClaim := { program := "ytpdbbpmkdkjppaa", sum := "e5bbbdeae189c307a0020d106af38392d4c858b436ac2700fef0dd7a8db4b91f", func := "arbour/arbourlaw10.RefPlain", spec := "refPlain", inPlace := ["internal/bytealg.IndexByteString", "internal/bytealg.IndexString", "internal/abi.NoEscape"], named := ["internal/bytealg.MaxLen"], apart := false }
def RefPlainSaid : Prop := refPlainRow.holds Try.pinned (OpenSpec.ofChange refPlainSpec)

/-- ITS FALSE NEIGHBOUR: 'it returns false'. Refute it at one input. -/
def refPlainWrong : ChangeSpec := { name := "refPlain", fn := fun _ => fun
  | [d1, d2] => { results := [.lit (.bool false)], args := [d1, d2] }
  | _ => none }
def RefPlainWrongFalsely : Prop := refPlainRow.holds Try.pinned (OpenSpec.ofChange refPlainWrong)

/-- 'arbourlaw10.RefNumbersRead': WHATEVER THE INPUT: true; the input reads as it did. -/
def refNumbersReadSpec : ChangeSpec := { name := "refNumbersRead", fn := fun _ => fun
  | [d1, d2, d3] => { results := [.lit (.bool true)], args := [d1, d2, d3] }
  | _ => none }
def refNumbersReadRow : OpenClaim := { program := "ytpdbbpmkdkjppaa", sum := "e5bbbdeae189c307a0020d106af38392d4c858b436ac2700fef0dd7a8db4b91f", func := "arbour/arbourlaw10.RefNumbersRead", spec := "refNumbersRead", inPlace := ["internal/bytealg.IndexByteString", "internal/bytealg.IndexString", "internal/abi.NoEscape"], named := ["internal/bytealg.MaxLen"], apart := false }
def RefNumbersReadSaid : Prop := refNumbersReadRow.holds Try.pinned (OpenSpec.ofChange refNumbersReadSpec)

/-- ITS FALSE NEIGHBOUR: 'it returns false'. Refute it at one input. -/
def refNumbersReadWrong : ChangeSpec := { name := "refNumbersRead", fn := fun _ => fun
  | [d1, d2, d3] => { results := [.lit (.bool false)], args := [d1, d2, d3] }
  | _ => none }
def RefNumbersReadWrongFalsely : Prop := refNumbersReadRow.holds Try.pinned (OpenSpec.ofChange refNumbersReadWrong)

/- THE SECOND FORM. 'bulk': how many values and letters a reading holds, each counted each time it is reached (what is shared counts as often as it is met; a slice's spare places count too). A statement '..UptoSaid' is the law's where the arguments, and the package variables that the reading takes, are together of bulk at most 1048576: NARROWER than '..Said'. Prove '..Said' where nothing that the law and all that it calls make is longer than what came in: it says more and counts as full. Else prove '..UptoSaid'. A law counts once. -/
mutual
def uptoBulk {H : Type} : DataW H → Nat
  | .lit (.string bytes) => bytes.length + 1
  | .lit _ => 1
  | .nil => 1
  | .ptr d => uptoBulk d + 1
  | .slice elems spare => uptoBulkAll elems + uptoBulkAll spare + 1
  | .agg parts => uptoBulkAll parts + 1
  | .iface _ d => uptoBulk d + 1
  | .map entries => uptoBulkEntries entries + 1
  | .held _ => 1
def uptoBulkAll {H : Type} : List (DataW H) → Nat
  | [] => 0
  | d :: r => uptoBulk d + uptoBulkAll r
def uptoBulkEntries {H : Type} : List (Lit × DataW H) → Nat
  | [] => 0
  | x :: r => uptoBulkEntry x + uptoBulkEntries r
def uptoBulkEntry {H : Type} : Lit × DataW H → Nat
  | (.string bytes, d) => bytes.length + uptoBulk d + 1
  | (_, d) => uptoBulk d + 1
 end
def uptoSmall : (H : Type) → List (DataW H) → Bool := fun _ ds => decide (uptoBulkAll ds ≤ 1048576)
def OpenSpec.upto (s : _root_.Go.ChangeSpec) : _root_.Go.OpenSpec := { _root_.Go.OpenSpec.ofChange s with cond := some uptoSmall }

/-- 'arbourlaw10.RefNumbers', WHERE WHAT IT READS IS OF BULK AT MOST 1048576: true; the input reads as it did. -/
def refNumbersUptoRow : OpenClaim := { program := "ytpdbbpmkdkjppaa", sum := "e5bbbdeae189c307a0020d106af38392d4c858b436ac2700fef0dd7a8db4b91f", func := "arbour/arbourlaw10.RefNumbers", spec := "refNumbers", inPlace := ["internal/bytealg.IndexByteString", "internal/bytealg.IndexString", "internal/abi.NoEscape"], named := ["internal/bytealg.MaxLen"], apart := false, narrowed := true }
def RefNumbersUptoSaid : Prop := refNumbersUptoRow.holds Try.pinned (OpenSpec.upto refNumbersSpec)

/-- 'arbourlaw10.RefTells', WHERE WHAT IT READS IS OF BULK AT MOST 1048576: true; the input reads as it did. -/
def refTellsUptoRow : OpenClaim := { program := "ytpdbbpmkdkjppaa", sum := "e5bbbdeae189c307a0020d106af38392d4c858b436ac2700fef0dd7a8db4b91f", func := "arbour/arbourlaw10.RefTells", spec := "refTells", inPlace := ["internal/bytealg.IndexByteString", "internal/bytealg.IndexString", "internal/abi.NoEscape"], named := ["internal/bytealg.MaxLen"], apart := false, narrowed := true }
def RefTellsUptoSaid : Prop := refTellsUptoRow.holds Try.pinned (OpenSpec.upto refTellsSpec)

/-- 'arbourlaw10.RefPlain', WHERE WHAT IT READS IS OF BULK AT MOST 1048576: true; the input reads as it did. -/
def refPlainUptoRow : OpenClaim := { program := "ytpdbbpmkdkjppaa", sum := "e5bbbdeae189c307a0020d106af38392d4c858b436ac2700fef0dd7a8db4b91f", func := "arbour/arbourlaw10.RefPlain", spec := "refPlain", inPlace := ["internal/bytealg.IndexByteString", "internal/bytealg.IndexString", "internal/abi.NoEscape"], named := ["internal/bytealg.MaxLen"], apart := false, narrowed := true }
def RefPlainUptoSaid : Prop := refPlainUptoRow.holds Try.pinned (OpenSpec.upto refPlainSpec)

/-- 'arbourlaw10.RefNumbersRead', WHERE WHAT IT READS IS OF BULK AT MOST 1048576: true; the input reads as it did. -/
def refNumbersReadUptoRow : OpenClaim := { program := "ytpdbbpmkdkjppaa", sum := "e5bbbdeae189c307a0020d106af38392d4c858b436ac2700fef0dd7a8db4b91f", func := "arbour/arbourlaw10.RefNumbersRead", spec := "refNumbersRead", inPlace := ["internal/bytealg.IndexByteString", "internal/bytealg.IndexString", "internal/abi.NoEscape"], named := ["internal/bytealg.MaxLen"], apart := false, narrowed := true }
def RefNumbersReadUptoSaid : Prop := refNumbersReadUptoRow.holds Try.pinned (OpenSpec.upto refNumbersReadSpec)

end Rows
end Go.Proofs.Ytpdbbpmkdkjppaa
