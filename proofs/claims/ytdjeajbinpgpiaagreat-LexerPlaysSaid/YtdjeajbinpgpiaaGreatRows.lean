/-
  No cell of these rows narrows 'for every input' (looked for: loops, veiled, ifaces, maps, wideKeys, modest, calm, conditions, laid).
  DERIVED. THE GIVEN ROWS OF THIS SEAT. 3 by the template 'for every input the law returns true; each argument reads behind the call as it read before'; 0 by the template 'total and deterministic' (their statements: YtdjeajbinpgpiaaGreatTotals.lean).
  GIVEN WITH THE SEED: the statements are not yours to turn. If you find one false, say at which input.
  Laid BY PROGRAM, IN A SANDBOX (cutbox-rows.mjs): the forced cells as the released guide's own fill.sh prints them over the translation 3ebb3bff47c9cef9… (all of the seat's roots in one cut). By AI agents, Wed Nov 11 2026. No macro, syntax, notation, axiom, sorry.
-/
import Derived.Test.YtdjeajbinpgpiaaGreatChecked
import GoSem.Claim
import GoSem.ClaimJoined
import GoSem.ClaimMapViews
import Derived.JoinedTies
import Derived.KernelRfl
namespace Go.Proofs.YtdjeajbinpgpiaaGreat
/- THE CELL 'sum', in the pinned program and in every row, IS THE sha256 OF THE DUMP (.gsa) THAT YtdjeajbinpgpiaaGreatProg.lean LOADS. Nothing in Lean hashes anything: it is a label: what it is worth is what the hold of that sum in a sandbox is worth. -/
noncomputable def Tryz.pinned : Pinned := { name := "ytdjeajbinpgpiaagreat", sum := "3ebb3bff47c9cef9f786003bfdbd480f998ee4acc8462fc15c9357998104fc75", checked := Tryz.checked }
namespace Rows
def none {H : Type} : Left H := { results := [], args := [] }

/-- 'arbourlaw13.LexerNumbers': WHATEVER THE INPUT: true; the input reads as it did. -/
def lexerNumbersSpec : ChangeSpec := { name := "lexerNumbers", fn := fun _ => fun
  | [] => { results := [.lit (.bool true)], args := [] }
  | _ => none }
def lexerNumbersRow : OpenClaim := { program := "ytdjeajbinpgpiaagreat", sum := "3ebb3bff47c9cef9f786003bfdbd480f998ee4acc8462fc15c9357998104fc75", func := "arbour/arbourlaw13.LexerNumbers", spec := "lexerNumbers", inPlace := ["internal/bytealg.IndexByteString", "internal/bytealg.IndexString", "internal/abi.NoEscape"], unfollowed := true, recurses := true, named := ["internal/bytealg.MaxLen"], apart := false }
def LexerNumbersSaid : Prop := lexerNumbersRow.holds Tryz.pinned (OpenSpec.ofChange lexerNumbersSpec)

/-- ITS FALSE NEIGHBOUR: 'it returns false'. Refute it at one input. -/
def lexerNumbersWrong : ChangeSpec := { name := "lexerNumbers", fn := fun _ => fun
  | [] => { results := [.lit (.bool false)], args := [] }
  | _ => none }
def LexerNumbersWrongFalsely : Prop := lexerNumbersRow.holds Tryz.pinned (OpenSpec.ofChange lexerNumbersWrong)

/-- 'arbourlaw13.LexerTells': WHATEVER THE INPUT: true; the input reads as it did. -/
def lexerTellsSpec : ChangeSpec := { name := "lexerTells", fn := fun _ => fun
  | [d1, d2] => { results := [.lit (.bool true)], args := [d1, d2] }
  | _ => none }
def lexerTellsRow : OpenClaim := { program := "ytdjeajbinpgpiaagreat", sum := "3ebb3bff47c9cef9f786003bfdbd480f998ee4acc8462fc15c9357998104fc75", func := "arbour/arbourlaw13.LexerTells", spec := "lexerTells", inPlace := ["internal/bytealg.IndexByteString", "internal/bytealg.IndexString", "internal/abi.NoEscape"], unfollowed := true, recurses := true, named := ["internal/bytealg.MaxLen"], apart := false }
def LexerTellsSaid : Prop := lexerTellsRow.holds Tryz.pinned (OpenSpec.ofChange lexerTellsSpec)

/-- ITS FALSE NEIGHBOUR: 'it returns false'. Refute it at one input. -/
def lexerTellsWrong : ChangeSpec := { name := "lexerTells", fn := fun _ => fun
  | [d1, d2] => { results := [.lit (.bool false)], args := [d1, d2] }
  | _ => none }
def LexerTellsWrongFalsely : Prop := lexerTellsRow.holds Tryz.pinned (OpenSpec.ofChange lexerTellsWrong)

/-- 'arbourlaw13.LexerPlays': WHATEVER THE INPUT: true; the input reads as it did. -/
def lexerPlaysSpec : ChangeSpec := { name := "lexerPlays", fn := fun _ => fun
  | [d1, d2, d3] => { results := [.lit (.bool true)], args := [d1, d2, d3] }
  | _ => none }
def lexerPlaysRow : OpenClaim := { program := "ytdjeajbinpgpiaagreat", sum := "3ebb3bff47c9cef9f786003bfdbd480f998ee4acc8462fc15c9357998104fc75", func := "arbour/arbourlaw13.LexerPlays", spec := "lexerPlays", inPlace := ["internal/bytealg.IndexByteString", "internal/bytealg.IndexString", "internal/abi.NoEscape"], unfollowed := true, recurses := true, named := ["internal/bytealg.MaxLen"], apart := false }
def LexerPlaysSaid : Prop := lexerPlaysRow.holds Tryz.pinned (OpenSpec.ofChange lexerPlaysSpec)

/-- ITS FALSE NEIGHBOUR: 'it returns false'. Refute it at one input. -/
def lexerPlaysWrong : ChangeSpec := { name := "lexerPlays", fn := fun _ => fun
  | [d1, d2, d3] => { results := [.lit (.bool false)], args := [d1, d2, d3] }
  | _ => none }
def LexerPlaysWrongFalsely : Prop := lexerPlaysRow.holds Tryz.pinned (OpenSpec.ofChange lexerPlaysWrong)

/- THE SECOND FORM. 'bulk': how many values and letters a reading holds, each counted each time it is reached (what is shared counts as often as it is met; a slice's spare places count too). A statement '..UptoSaid' is the law's where the arguments, and the package variables that the reading takes, are together of bulk at most 1048576: NARROWER than '..Said'. Prove '..Said' where nothing that the law and all that it calls make is longer than what came in: it says more and counts as full. Else prove '..UptoSaid'. A law counts once. -/
mutual
def uptoBulk {H : Type} : DataW H → Nat
  | .lit (.string bytes) => bytes.length + 1
  | .lit _ => 1
  | .nil => 1
  | .ptr d => uptoBulk d + 1
  | .slice elems spare => uptoBulkAll elems + uptoBulkAll spare + 1
  | .agg parts => uptoBulkAll parts + 1
  | .iface _ d => uptoBulk d + 1
  | .map entries => uptoBulkEntries entries + 1
  | .held _ => 1
def uptoBulkAll {H : Type} : List (DataW H) → Nat
  | [] => 0
  | d :: r => uptoBulk d + uptoBulkAll r
def uptoBulkEntries {H : Type} : List (Lit × DataW H) → Nat
  | [] => 0
  | x :: r => uptoBulkEntry x + uptoBulkEntries r
def uptoBulkEntry {H : Type} : Lit × DataW H → Nat
  | (.string bytes, d) => bytes.length + uptoBulk d + 1
  | (_, d) => uptoBulk d + 1
 end
def uptoSmall : (H : Type) → List (DataW H) → Bool := fun _ ds => decide (uptoBulkAll ds ≤ 1048576)
def OpenSpec.upto (s : _root_.Go.ChangeSpec) : _root_.Go.OpenSpec := { _root_.Go.OpenSpec.ofChange s with cond := some uptoSmall }

/-- 'arbourlaw13.LexerNumbers', WHERE WHAT IT READS IS OF BULK AT MOST 1048576: true; the input reads as it did. -/
def lexerNumbersUptoRow : OpenClaim := { program := "ytdjeajbinpgpiaagreat", sum := "3ebb3bff47c9cef9f786003bfdbd480f998ee4acc8462fc15c9357998104fc75", func := "arbour/arbourlaw13.LexerNumbers", spec := "lexerNumbers", inPlace := ["internal/bytealg.IndexByteString", "internal/bytealg.IndexString", "internal/abi.NoEscape"], unfollowed := true, recurses := true, named := ["internal/bytealg.MaxLen"], apart := false, narrowed := true }
def LexerNumbersUptoSaid : Prop := lexerNumbersUptoRow.holds Tryz.pinned (OpenSpec.upto lexerNumbersSpec)

/-- 'arbourlaw13.LexerTells', WHERE WHAT IT READS IS OF BULK AT MOST 1048576: true; the input reads as it did. -/
def lexerTellsUptoRow : OpenClaim := { program := "ytdjeajbinpgpiaagreat", sum := "3ebb3bff47c9cef9f786003bfdbd480f998ee4acc8462fc15c9357998104fc75", func := "arbour/arbourlaw13.LexerTells", spec := "lexerTells", inPlace := ["internal/bytealg.IndexByteString", "internal/bytealg.IndexString", "internal/abi.NoEscape"], unfollowed := true, recurses := true, named := ["internal/bytealg.MaxLen"], apart := false, narrowed := true }
def LexerTellsUptoSaid : Prop := lexerTellsUptoRow.holds Tryz.pinned (OpenSpec.upto lexerTellsSpec)

/-- 'arbourlaw13.LexerPlays', WHERE WHAT IT READS IS OF BULK AT MOST 1048576: true; the input reads as it did. -/
def lexerPlaysUptoRow : OpenClaim := { program := "ytdjeajbinpgpiaagreat", sum := "3ebb3bff47c9cef9f786003bfdbd480f998ee4acc8462fc15c9357998104fc75", func := "arbour/arbourlaw13.LexerPlays", spec := "lexerPlays", inPlace := ["internal/bytealg.IndexByteString", "internal/bytealg.IndexString", "internal/abi.NoEscape"], unfollowed := true, recurses := true, named := ["internal/bytealg.MaxLen"], apart := false, narrowed := true }
def LexerPlaysUptoSaid : Prop := lexerPlaysUptoRow.holds Tryz.pinned (OpenSpec.upto lexerPlaysSpec)

end Rows
end Go.Proofs.YtdjeajbinpgpiaaGreat
