/-
  No cell of these rows narrows 'for every input' (looked for: loops, veiled, ifaces, maps, wideKeys, modest, calm, conditions, laid).
  DERIVED. THE GIVEN ROWS OF THIS SEAT. 4 by the template 'for every input the law returns true; each argument reads behind the call as it read before'; 0 by the template 'total and deterministic' (their statements: YtdjeajbinpgpiaaTotals.lean).
  GIVEN WITH THE SEED: the statements are not yours to turn. If you find one false, say at which input.
  Laid BY PROGRAM, IN A SANDBOX (cutbox-rows.mjs): the forced cells as the released guide's own fill.sh prints them over the translation a40898491a0b8503… (all of the seat's roots in one cut). By AI agents, Wed Nov 11 2026. No macro, syntax, notation, axiom, sorry.
-/
import Derived.Test.YtdjeajbinpgpiaaChecked
import GoSem.Claim
import GoSem.ClaimJoined
import GoSem.ClaimMapViews
import Derived.JoinedTies
import Derived.KernelRfl
namespace Go.Proofs.Ytdjeajbinpgpiaa
/- THE CELL 'sum', in the pinned program and in every row, IS THE sha256 OF THE DUMP (.gsa) THAT YtdjeajbinpgpiaaProg.lean LOADS. Nothing in Lean hashes anything: it is a label: what it is worth is what the hold of that sum in a sandbox is worth. -/
noncomputable def Try.pinned : Pinned := { name := "ytdjeajbinpgpiaa", sum := "a40898491a0b85032fcd7f43e55280a972f735c587e8df356b643df236bdb666", checked := Try.checked }
namespace Rows
def none {H : Type} : Left H := { results := [], args := [] }

/-- 'arbourlaw13.LexerPlain': WHATEVER THE INPUT: true; the input reads as it did. -/
def lexerPlainSpec : ChangeSpec := { name := "lexerPlain", fn := fun _ => fun
  | [d] => { results := [.lit (.bool true)], args := [d] }
  | _ => none }
def lexerPlainRow : OpenClaim := { program := "ytdjeajbinpgpiaa", sum := "a40898491a0b85032fcd7f43e55280a972f735c587e8df356b643df236bdb666", func := "arbour/arbourlaw13.LexerPlain", spec := "lexerPlain", inPlace := ["internal/bytealg.IndexByteString", "internal/bytealg.IndexString", "internal/abi.NoEscape"], unfollowed := true, recurses := true, named := ["internal/bytealg.MaxLen"], apart := false }
def LexerPlainSaid : Prop := lexerPlainRow.holds Try.pinned (OpenSpec.ofChange lexerPlainSpec)

/-- ITS FALSE NEIGHBOUR: 'it returns false'. Refute it at one input. -/
def lexerPlainWrong : ChangeSpec := { name := "lexerPlain", fn := fun _ => fun
  | [d] => { results := [.lit (.bool false)], args := [d] }
  | _ => none }
def LexerPlainWrongFalsely : Prop := lexerPlainRow.holds Try.pinned (OpenSpec.ofChange lexerPlainWrong)

/-- 'arbourlaw13.LexerRaw': WHATEVER THE INPUT: true; the input reads as it did. -/
def lexerRawSpec : ChangeSpec := { name := "lexerRaw", fn := fun _ => fun
  | [d1, d2] => { results := [.lit (.bool true)], args := [d1, d2] }
  | _ => none }
def lexerRawRow : OpenClaim := { program := "ytdjeajbinpgpiaa", sum := "a40898491a0b85032fcd7f43e55280a972f735c587e8df356b643df236bdb666", func := "arbour/arbourlaw13.LexerRaw", spec := "lexerRaw", inPlace := ["internal/bytealg.IndexByteString", "internal/bytealg.IndexString", "internal/abi.NoEscape"], unfollowed := true, recurses := true, named := ["internal/bytealg.MaxLen"], apart := false }
def LexerRawSaid : Prop := lexerRawRow.holds Try.pinned (OpenSpec.ofChange lexerRawSpec)

/-- ITS FALSE NEIGHBOUR: 'it returns false'. Refute it at one input. -/
def lexerRawWrong : ChangeSpec := { name := "lexerRaw", fn := fun _ => fun
  | [d1, d2] => { results := [.lit (.bool false)], args := [d1, d2] }
  | _ => none }
def LexerRawWrongFalsely : Prop := lexerRawRow.holds Try.pinned (OpenSpec.ofChange lexerRawWrong)

/-- 'arbourlaw13.LexerPlaintext': WHATEVER THE INPUT: true; the input reads as it did. -/
def lexerPlaintextSpec : ChangeSpec := { name := "lexerPlaintext", fn := fun _ => fun
  | [d] => { results := [.lit (.bool true)], args := [d] }
  | _ => none }
def lexerPlaintextRow : OpenClaim := { program := "ytdjeajbinpgpiaa", sum := "a40898491a0b85032fcd7f43e55280a972f735c587e8df356b643df236bdb666", func := "arbour/arbourlaw13.LexerPlaintext", spec := "lexerPlaintext", inPlace := ["internal/bytealg.IndexByteString", "internal/bytealg.IndexString", "internal/abi.NoEscape"], unfollowed := true, recurses := true, named := ["internal/bytealg.MaxLen"], apart := false }
def LexerPlaintextSaid : Prop := lexerPlaintextRow.holds Try.pinned (OpenSpec.ofChange lexerPlaintextSpec)

/-- ITS FALSE NEIGHBOUR: 'it returns false'. Refute it at one input. -/
def lexerPlaintextWrong : ChangeSpec := { name := "lexerPlaintext", fn := fun _ => fun
  | [d] => { results := [.lit (.bool false)], args := [d] }
  | _ => none }
def LexerPlaintextWrongFalsely : Prop := lexerPlaintextRow.holds Try.pinned (OpenSpec.ofChange lexerPlaintextWrong)

/-- 'arbourlaw13.LexerEnds': WHATEVER THE INPUT: true; the input reads as it did. -/
def lexerEndsSpec : ChangeSpec := { name := "lexerEnds", fn := fun _ => fun
  | [d1, d2] => { results := [.lit (.bool true)], args := [d1, d2] }
  | _ => none }
def lexerEndsRow : OpenClaim := { program := "ytdjeajbinpgpiaa", sum := "a40898491a0b85032fcd7f43e55280a972f735c587e8df356b643df236bdb666", func := "arbour/arbourlaw13.LexerEnds", spec := "lexerEnds", inPlace := ["internal/bytealg.IndexByteString", "internal/bytealg.IndexString", "internal/abi.NoEscape"], unfollowed := true, recurses := true, named := ["internal/bytealg.MaxLen"], apart := false }
def LexerEndsSaid : Prop := lexerEndsRow.holds Try.pinned (OpenSpec.ofChange lexerEndsSpec)

/-- ITS FALSE NEIGHBOUR: 'it returns false'. Refute it at one input. -/
def lexerEndsWrong : ChangeSpec := { name := "lexerEnds", fn := fun _ => fun
  | [d1, d2] => { results := [.lit (.bool false)], args := [d1, d2] }
  | _ => none }
def LexerEndsWrongFalsely : Prop := lexerEndsRow.holds Try.pinned (OpenSpec.ofChange lexerEndsWrong)

/- THE SECOND FORM. 'bulk': how many values and letters a reading holds, each counted each time it is reached (what is shared counts as often as it is met; a slice's spare places count too). A statement '..UptoSaid' is the law's where the arguments, and the package variables that the reading takes, are together of bulk at most 1048576: NARROWER than '..Said'. Prove '..Said' where nothing that the law and all that it calls make is longer than what came in: it says more and counts as full. Else prove '..UptoSaid'. A law counts once. -/
mutual
def uptoBulk {H : Type} : DataW H → Nat
  | .lit (.string bytes) => bytes.length + 1
  | .lit _ => 1
  | .nil => 1
  | .ptr d => uptoBulk d + 1
  | .slice elems spare => uptoBulkAll elems + uptoBulkAll spare + 1
  | .agg parts => uptoBulkAll parts + 1
  | .iface _ d => uptoBulk d + 1
  | .map entries => uptoBulkEntries entries + 1
  | .held _ => 1
def uptoBulkAll {H : Type} : List (DataW H) → Nat
  | [] => 0
  | d :: r => uptoBulk d + uptoBulkAll r
def uptoBulkEntries {H : Type} : List (Lit × DataW H) → Nat
  | [] => 0
  | x :: r => uptoBulkEntry x + uptoBulkEntries r
def uptoBulkEntry {H : Type} : Lit × DataW H → Nat
  | (.string bytes, d) => bytes.length + uptoBulk d + 1
  | (_, d) => uptoBulk d + 1
 end
def uptoSmall : (H : Type) → List (DataW H) → Bool := fun _ ds => decide (uptoBulkAll ds ≤ 1048576)
def OpenSpec.upto (s : _root_.Go.ChangeSpec) : _root_.Go.OpenSpec := { _root_.Go.OpenSpec.ofChange s with cond := some uptoSmall }

/-- 'arbourlaw13.LexerPlain', WHERE WHAT IT READS IS OF BULK AT MOST 1048576: true; the input reads as it did. -/
def lexerPlainUptoRow : OpenClaim := { program := "ytdjeajbinpgpiaa", sum := "a40898491a0b85032fcd7f43e55280a972f735c587e8df356b643df236bdb666", func := "arbour/arbourlaw13.LexerPlain", spec := "lexerPlain", inPlace := ["internal/bytealg.IndexByteString", "internal/bytealg.IndexString", "internal/abi.NoEscape"], unfollowed := true, recurses := true, named := ["internal/bytealg.MaxLen"], apart := false, narrowed := true }
def LexerPlainUptoSaid : Prop := lexerPlainUptoRow.holds Try.pinned (OpenSpec.upto lexerPlainSpec)

/-- 'arbourlaw13.LexerRaw', WHERE WHAT IT READS IS OF BULK AT MOST 1048576: true; the input reads as it did. -/
def lexerRawUptoRow : OpenClaim := { program := "ytdjeajbinpgpiaa", sum := "a40898491a0b85032fcd7f43e55280a972f735c587e8df356b643df236bdb666", func := "arbour/arbourlaw13.LexerRaw", spec := "lexerRaw", inPlace := ["internal/bytealg.IndexByteString", "internal/bytealg.IndexString", "internal/abi.NoEscape"], unfollowed := true, recurses := true, named := ["internal/bytealg.MaxLen"], apart := false, narrowed := true }
def LexerRawUptoSaid : Prop := lexerRawUptoRow.holds Try.pinned (OpenSpec.upto lexerRawSpec)

/-- 'arbourlaw13.LexerPlaintext', WHERE WHAT IT READS IS OF BULK AT MOST 1048576: true; the input reads as it did. -/
def lexerPlaintextUptoRow : OpenClaim := { program := "ytdjeajbinpgpiaa", sum := "a40898491a0b85032fcd7f43e55280a972f735c587e8df356b643df236bdb666", func := "arbour/arbourlaw13.LexerPlaintext", spec := "lexerPlaintext", inPlace := ["internal/bytealg.IndexByteString", "internal/bytealg.IndexString", "internal/abi.NoEscape"], unfollowed := true, recurses := true, named := ["internal/bytealg.MaxLen"], apart := false, narrowed := true }
def LexerPlaintextUptoSaid : Prop := lexerPlaintextUptoRow.holds Try.pinned (OpenSpec.upto lexerPlaintextSpec)

/-- 'arbourlaw13.LexerEnds', WHERE WHAT IT READS IS OF BULK AT MOST 1048576: true; the input reads as it did. -/
def lexerEndsUptoRow : OpenClaim := { program := "ytdjeajbinpgpiaa", sum := "a40898491a0b85032fcd7f43e55280a972f735c587e8df356b643df236bdb666", func := "arbour/arbourlaw13.LexerEnds", spec := "lexerEnds", inPlace := ["internal/bytealg.IndexByteString", "internal/bytealg.IndexString", "internal/abi.NoEscape"], unfollowed := true, recurses := true, named := ["internal/bytealg.MaxLen"], apart := false, narrowed := true }
def LexerEndsUptoSaid : Prop := lexerEndsUptoRow.holds Try.pinned (OpenSpec.upto lexerEndsSpec)

end Rows
end Go.Proofs.Ytdjeajbinpgpiaa
