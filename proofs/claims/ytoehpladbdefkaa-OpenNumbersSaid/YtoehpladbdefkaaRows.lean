/-
  No cell of these rows narrows 'for every input' (looked for: loops, veiled, ifaces, maps, wideKeys, modest, calm, conditions, laid).
  DERIVED. THE GIVEN ROWS OF THIS SEAT. 9 by the template 'for every input the law returns true; each argument reads behind the call as it read before'; 0 by the template 'total and deterministic' (their statements: YtoehpladbdefkaaTotals.lean).
  GIVEN WITH THE SEED: the statements are not yours to turn. If you find one false, say at which input.
  Laid BY PROGRAM, IN A SANDBOX (cutbox-rows.mjs): the forced cells as the released guide's own fill.sh prints them over the translation 7fffdaa5707c0914… (all of the seat's roots in one cut). By AI agents, Wed Nov 11 2026. No macro, syntax, notation, axiom, sorry.
-/
import Derived.Test.YtoehpladbdefkaaChecked
import GoSem.Claim
import GoSem.ClaimJoined
import GoSem.ClaimMapViews
import Derived.JoinedTies
import Derived.KernelRfl
namespace Go.Proofs.Ytoehpladbdefkaa
/- THE CELL 'sum', in the pinned program and in every row, IS THE sha256 OF THE DUMP (.gsa) THAT YtoehpladbdefkaaProg.lean LOADS. Nothing in Lean hashes anything: it is a label: what it is worth is what the hold of that sum in a sandbox is worth. -/
noncomputable def Try.pinned : Pinned := { name := "ytoehpladbdefkaa", sum := "7fffdaa5707c091422844efb03600eeaf34e5c392a740bd82c03b38321c6ab4f", checked := Try.checked }
namespace Rows
def none {H : Type} : Left H := { results := [], args := [] }

/-- 'arbourlaw19.ActiveThree': WHATEVER THE INPUT: true; the input reads as it did. -/
def activeThreeSpec : ChangeSpec := { name := "activeThree", fn := fun _ => fun
  | [d] => { results := [.lit (.bool true)], args := [d] }
  | _ => none }
def activeThreeRow : OpenClaim := { program := "ytoehpladbdefkaa", sum := "7fffdaa5707c091422844efb03600eeaf34e5c392a740bd82c03b38321c6ab4f", func := "arbour/arbourlaw19.ActiveThree", spec := "activeThree", unfollowed := true, recurses := true, apart := false }
def ActiveThreeSaid : Prop := activeThreeRow.holds Try.pinned (OpenSpec.ofChange activeThreeSpec)

/-- ITS FALSE NEIGHBOUR: 'it returns false'. Refute it at one input. -/
def activeThreeWrong : ChangeSpec := { name := "activeThree", fn := fun _ => fun
  | [d] => { results := [.lit (.bool false)], args := [d] }
  | _ => none }
def ActiveThreeWrongFalsely : Prop := activeThreeRow.holds Try.pinned (OpenSpec.ofChange activeThreeWrong)

/-- 'arbourlaw19.ActiveMarks': WHATEVER THE INPUT: true; the input reads as it did. -/
def activeMarksSpec : ChangeSpec := { name := "activeMarks", fn := fun _ => fun
  | [d1, d2] => { results := [.lit (.bool true)], args := [d1, d2] }
  | _ => none }
def activeMarksRow : OpenClaim := { program := "ytoehpladbdefkaa", sum := "7fffdaa5707c091422844efb03600eeaf34e5c392a740bd82c03b38321c6ab4f", func := "arbour/arbourlaw19.ActiveMarks", spec := "activeMarks", unfollowed := true, recurses := true, apart := false }
def ActiveMarksSaid : Prop := activeMarksRow.holds Try.pinned (OpenSpec.ofChange activeMarksSpec)

/-- ITS FALSE NEIGHBOUR: 'it returns false'. Refute it at one input. -/
def activeMarksWrong : ChangeSpec := { name := "activeMarks", fn := fun _ => fun
  | [d1, d2] => { results := [.lit (.bool false)], args := [d1, d2] }
  | _ => none }
def ActiveMarksWrongFalsely : Prop := activeMarksRow.holds Try.pinned (OpenSpec.ofChange activeMarksWrong)

/-- 'arbourlaw18.OpenTexts': WHATEVER THE INPUT: true; the input reads as it did. -/
def openTextsSpec : ChangeSpec := { name := "openTexts", fn := fun _ => fun
  | [d1, d2] => { results := [.lit (.bool true)], args := [d1, d2] }
  | _ => none }
def openTextsRow : OpenClaim := { program := "ytoehpladbdefkaa", sum := "7fffdaa5707c091422844efb03600eeaf34e5c392a740bd82c03b38321c6ab4f", func := "arbour/arbourlaw18.OpenTexts", spec := "openTexts", unfollowed := true, recurses := true, apart := false }
def OpenTextsSaid : Prop := openTextsRow.holds Try.pinned (OpenSpec.ofChange openTextsSpec)

/-- ITS FALSE NEIGHBOUR: 'it returns false'. Refute it at one input. -/
def openTextsWrong : ChangeSpec := { name := "openTexts", fn := fun _ => fun
  | [d1, d2] => { results := [.lit (.bool false)], args := [d1, d2] }
  | _ => none }
def OpenTextsWrongFalsely : Prop := openTextsRow.holds Try.pinned (OpenSpec.ofChange openTextsWrong)

/-- 'arbourlaw18.OpenScopes': WHATEVER THE INPUT: true; the input reads as it did. -/
def openScopesSpec : ChangeSpec := { name := "openScopes", fn := fun _ => fun
  | [d1, d2] => { results := [.lit (.bool true)], args := [d1, d2] }
  | _ => none }
def openScopesRow : OpenClaim := { program := "ytoehpladbdefkaa", sum := "7fffdaa5707c091422844efb03600eeaf34e5c392a740bd82c03b38321c6ab4f", func := "arbour/arbourlaw18.OpenScopes", spec := "openScopes", unfollowed := true, recurses := true, apart := false }
def OpenScopesSaid : Prop := openScopesRow.holds Try.pinned (OpenSpec.ofChange openScopesSpec)

/-- ITS FALSE NEIGHBOUR: 'it returns false'. Refute it at one input. -/
def openScopesWrong : ChangeSpec := { name := "openScopes", fn := fun _ => fun
  | [d1, d2] => { results := [.lit (.bool false)], args := [d1, d2] }
  | _ => none }
def OpenScopesWrongFalsely : Prop := openScopesRow.holds Try.pinned (OpenSpec.ofChange openScopesWrong)

/-- 'arbourlaw18.OpenImplies': WHATEVER THE INPUT: true; the input reads as it did. -/
def openImpliesSpec : ChangeSpec := { name := "openImplies", fn := fun _ => fun
  | [d1, d2, d3] => { results := [.lit (.bool true)], args := [d1, d2, d3] }
  | _ => none }
def openImpliesRow : OpenClaim := { program := "ytoehpladbdefkaa", sum := "7fffdaa5707c091422844efb03600eeaf34e5c392a740bd82c03b38321c6ab4f", func := "arbour/arbourlaw18.OpenImplies", spec := "openImplies", unfollowed := true, recurses := true, apart := false }
def OpenImpliesSaid : Prop := openImpliesRow.holds Try.pinned (OpenSpec.ofChange openImpliesSpec)

/-- ITS FALSE NEIGHBOUR: 'it returns false'. Refute it at one input. -/
def openImpliesWrong : ChangeSpec := { name := "openImplies", fn := fun _ => fun
  | [d1, d2, d3] => { results := [.lit (.bool false)], args := [d1, d2, d3] }
  | _ => none }
def OpenImpliesWrongFalsely : Prop := openImpliesRow.holds Try.pinned (OpenSpec.ofChange openImpliesWrong)

/-- 'arbourlaw19.ActiveNumbers': WHATEVER THE INPUT: true; the input reads as it did. -/
def activeNumbersSpec : ChangeSpec := { name := "activeNumbers", fn := fun _ => fun
  | [] => { results := [.lit (.bool true)], args := [] }
  | _ => none }
def activeNumbersRow : OpenClaim := { program := "ytoehpladbdefkaa", sum := "7fffdaa5707c091422844efb03600eeaf34e5c392a740bd82c03b38321c6ab4f", func := "arbour/arbourlaw19.ActiveNumbers", spec := "activeNumbers", inPlace := ["slices.overlaps[arbour/active.Entry[int]]"], unfollowed := true, recurses := true, apart := false }
def ActiveNumbersSaid : Prop := activeNumbersRow.holds Try.pinned (OpenSpec.ofChange activeNumbersSpec)

/-- ITS FALSE NEIGHBOUR: 'it returns false'. Refute it at one input. -/
def activeNumbersWrong : ChangeSpec := { name := "activeNumbers", fn := fun _ => fun
  | [] => { results := [.lit (.bool false)], args := [] }
  | _ => none }
def ActiveNumbersWrongFalsely : Prop := activeNumbersRow.holds Try.pinned (OpenSpec.ofChange activeNumbersWrong)

/-- 'arbourlaw19.ActivePlays': WHATEVER THE INPUT: true; the input reads as it did. -/
def activePlaysSpec : ChangeSpec := { name := "activePlays", fn := fun _ => fun
  | [d] => { results := [.lit (.bool true)], args := [d] }
  | _ => none }
def activePlaysRow : OpenClaim := { program := "ytoehpladbdefkaa", sum := "7fffdaa5707c091422844efb03600eeaf34e5c392a740bd82c03b38321c6ab4f", func := "arbour/arbourlaw19.ActivePlays", spec := "activePlays", inPlace := ["slices.overlaps[arbour/active.Entry[int]]"], unfollowed := true, recurses := true, apart := false }
def ActivePlaysSaid : Prop := activePlaysRow.holds Try.pinned (OpenSpec.ofChange activePlaysSpec)

/-- ITS FALSE NEIGHBOUR: 'it returns false'. Refute it at one input. -/
def activePlaysWrong : ChangeSpec := { name := "activePlays", fn := fun _ => fun
  | [d] => { results := [.lit (.bool false)], args := [d] }
  | _ => none }
def ActivePlaysWrongFalsely : Prop := activePlaysRow.holds Try.pinned (OpenSpec.ofChange activePlaysWrong)

/-- 'arbourlaw18.OpenNumbers': WHATEVER THE INPUT: true; the input reads as it did. -/
def openNumbersSpec : ChangeSpec := { name := "openNumbers", fn := fun _ => fun
  | [] => { results := [.lit (.bool true)], args := [] }
  | _ => none }
def openNumbersRow : OpenClaim := { program := "ytoehpladbdefkaa", sum := "7fffdaa5707c091422844efb03600eeaf34e5c392a740bd82c03b38321c6ab4f", func := "arbour/arbourlaw18.OpenNumbers", spec := "openNumbers", inPlace := ["slices.overlaps[arbour/open.Item[int]]"], unfollowed := true, recurses := true, apart := false }
def OpenNumbersSaid : Prop := openNumbersRow.holds Try.pinned (OpenSpec.ofChange openNumbersSpec)

/-- ITS FALSE NEIGHBOUR: 'it returns false'. Refute it at one input. -/
def openNumbersWrong : ChangeSpec := { name := "openNumbers", fn := fun _ => fun
  | [] => { results := [.lit (.bool false)], args := [] }
  | _ => none }
def OpenNumbersWrongFalsely : Prop := openNumbersRow.holds Try.pinned (OpenSpec.ofChange openNumbersWrong)

/-- 'arbourlaw18.OpenPlays': WHATEVER THE INPUT: true; the input reads as it did. -/
def openPlaysSpec : ChangeSpec := { name := "openPlays", fn := fun _ => fun
  | [d] => { results := [.lit (.bool true)], args := [d] }
  | _ => none }
def openPlaysRow : OpenClaim := { program := "ytoehpladbdefkaa", sum := "7fffdaa5707c091422844efb03600eeaf34e5c392a740bd82c03b38321c6ab4f", func := "arbour/arbourlaw18.OpenPlays", spec := "openPlays", inPlace := ["slices.overlaps[arbour/open.Item[int]]"], unfollowed := true, recurses := true, apart := false }
def OpenPlaysSaid : Prop := openPlaysRow.holds Try.pinned (OpenSpec.ofChange openPlaysSpec)

/-- ITS FALSE NEIGHBOUR: 'it returns false'. Refute it at one input. -/
def openPlaysWrong : ChangeSpec := { name := "openPlays", fn := fun _ => fun
  | [d] => { results := [.lit (.bool false)], args := [d] }
  | _ => none }
def OpenPlaysWrongFalsely : Prop := openPlaysRow.holds Try.pinned (OpenSpec.ofChange openPlaysWrong)

/- THE SECOND FORM. 'bulk': how many values and letters a reading holds, each counted each time it is reached (what is shared counts as often as it is met; a slice's spare places count too). A statement '..UptoSaid' is the law's where the arguments, and the package variables that the reading takes, are together of bulk at most 1048576: NARROWER than '..Said'. Prove '..Said' where nothing that the law and all that it calls make is longer than what came in: it says more and counts as full. Else prove '..UptoSaid'. A law counts once. -/
mutual
def uptoBulk {H : Type} : DataW H → Nat
  | .lit (.string bytes) => bytes.length + 1
  | .lit _ => 1
  | .nil => 1
  | .ptr d => uptoBulk d + 1
  | .slice elems spare => uptoBulkAll elems + uptoBulkAll spare + 1
  | .agg parts => uptoBulkAll parts + 1
  | .iface _ d => uptoBulk d + 1
  | .map entries => uptoBulkEntries entries + 1
  | .held _ => 1
def uptoBulkAll {H : Type} : List (DataW H) → Nat
  | [] => 0
  | d :: r => uptoBulk d + uptoBulkAll r
def uptoBulkEntries {H : Type} : List (Lit × DataW H) → Nat
  | [] => 0
  | x :: r => uptoBulkEntry x + uptoBulkEntries r
def uptoBulkEntry {H : Type} : Lit × DataW H → Nat
  | (.string bytes, d) => bytes.length + uptoBulk d + 1
  | (_, d) => uptoBulk d + 1
 end
def uptoSmall : (H : Type) → List (DataW H) → Bool := fun _ ds => decide (uptoBulkAll ds ≤ 1048576)
def OpenSpec.upto (s : _root_.Go.ChangeSpec) : _root_.Go.OpenSpec := { _root_.Go.OpenSpec.ofChange s with cond := some uptoSmall }

/-- 'arbourlaw19.ActiveThree', WHERE WHAT IT READS IS OF BULK AT MOST 1048576: true; the input reads as it did. -/
def activeThreeUptoRow : OpenClaim := { program := "ytoehpladbdefkaa", sum := "7fffdaa5707c091422844efb03600eeaf34e5c392a740bd82c03b38321c6ab4f", func := "arbour/arbourlaw19.ActiveThree", spec := "activeThree", unfollowed := true, recurses := true, apart := false, narrowed := true }
def ActiveThreeUptoSaid : Prop := activeThreeUptoRow.holds Try.pinned (OpenSpec.upto activeThreeSpec)

/-- 'arbourlaw19.ActiveMarks', WHERE WHAT IT READS IS OF BULK AT MOST 1048576: true; the input reads as it did. -/
def activeMarksUptoRow : OpenClaim := { program := "ytoehpladbdefkaa", sum := "7fffdaa5707c091422844efb03600eeaf34e5c392a740bd82c03b38321c6ab4f", func := "arbour/arbourlaw19.ActiveMarks", spec := "activeMarks", unfollowed := true, recurses := true, apart := false, narrowed := true }
def ActiveMarksUptoSaid : Prop := activeMarksUptoRow.holds Try.pinned (OpenSpec.upto activeMarksSpec)

/-- 'arbourlaw18.OpenTexts', WHERE WHAT IT READS IS OF BULK AT MOST 1048576: true; the input reads as it did. -/
def openTextsUptoRow : OpenClaim := { program := "ytoehpladbdefkaa", sum := "7fffdaa5707c091422844efb03600eeaf34e5c392a740bd82c03b38321c6ab4f", func := "arbour/arbourlaw18.OpenTexts", spec := "openTexts", unfollowed := true, recurses := true, apart := false, narrowed := true }
def OpenTextsUptoSaid : Prop := openTextsUptoRow.holds Try.pinned (OpenSpec.upto openTextsSpec)

/-- 'arbourlaw18.OpenScopes', WHERE WHAT IT READS IS OF BULK AT MOST 1048576: true; the input reads as it did. -/
def openScopesUptoRow : OpenClaim := { program := "ytoehpladbdefkaa", sum := "7fffdaa5707c091422844efb03600eeaf34e5c392a740bd82c03b38321c6ab4f", func := "arbour/arbourlaw18.OpenScopes", spec := "openScopes", unfollowed := true, recurses := true, apart := false, narrowed := true }
def OpenScopesUptoSaid : Prop := openScopesUptoRow.holds Try.pinned (OpenSpec.upto openScopesSpec)

/-- 'arbourlaw18.OpenImplies', WHERE WHAT IT READS IS OF BULK AT MOST 1048576: true; the input reads as it did. -/
def openImpliesUptoRow : OpenClaim := { program := "ytoehpladbdefkaa", sum := "7fffdaa5707c091422844efb03600eeaf34e5c392a740bd82c03b38321c6ab4f", func := "arbour/arbourlaw18.OpenImplies", spec := "openImplies", unfollowed := true, recurses := true, apart := false, narrowed := true }
def OpenImpliesUptoSaid : Prop := openImpliesUptoRow.holds Try.pinned (OpenSpec.upto openImpliesSpec)

/-- 'arbourlaw19.ActiveNumbers', WHERE WHAT IT READS IS OF BULK AT MOST 1048576: true; the input reads as it did. -/
def activeNumbersUptoRow : OpenClaim := { program := "ytoehpladbdefkaa", sum := "7fffdaa5707c091422844efb03600eeaf34e5c392a740bd82c03b38321c6ab4f", func := "arbour/arbourlaw19.ActiveNumbers", spec := "activeNumbers", inPlace := ["slices.overlaps[arbour/active.Entry[int]]"], unfollowed := true, recurses := true, apart := false, narrowed := true }
def ActiveNumbersUptoSaid : Prop := activeNumbersUptoRow.holds Try.pinned (OpenSpec.upto activeNumbersSpec)

/-- 'arbourlaw19.ActivePlays', WHERE WHAT IT READS IS OF BULK AT MOST 1048576: true; the input reads as it did. -/
def activePlaysUptoRow : OpenClaim := { program := "ytoehpladbdefkaa", sum := "7fffdaa5707c091422844efb03600eeaf34e5c392a740bd82c03b38321c6ab4f", func := "arbour/arbourlaw19.ActivePlays", spec := "activePlays", inPlace := ["slices.overlaps[arbour/active.Entry[int]]"], unfollowed := true, recurses := true, apart := false, narrowed := true }
def ActivePlaysUptoSaid : Prop := activePlaysUptoRow.holds Try.pinned (OpenSpec.upto activePlaysSpec)

/-- 'arbourlaw18.OpenNumbers', WHERE WHAT IT READS IS OF BULK AT MOST 1048576: true; the input reads as it did. -/
def openNumbersUptoRow : OpenClaim := { program := "ytoehpladbdefkaa", sum := "7fffdaa5707c091422844efb03600eeaf34e5c392a740bd82c03b38321c6ab4f", func := "arbour/arbourlaw18.OpenNumbers", spec := "openNumbers", inPlace := ["slices.overlaps[arbour/open.Item[int]]"], unfollowed := true, recurses := true, apart := false, narrowed := true }
def OpenNumbersUptoSaid : Prop := openNumbersUptoRow.holds Try.pinned (OpenSpec.upto openNumbersSpec)

/-- 'arbourlaw18.OpenPlays', WHERE WHAT IT READS IS OF BULK AT MOST 1048576: true; the input reads as it did. -/
def openPlaysUptoRow : OpenClaim := { program := "ytoehpladbdefkaa", sum := "7fffdaa5707c091422844efb03600eeaf34e5c392a740bd82c03b38321c6ab4f", func := "arbour/arbourlaw18.OpenPlays", spec := "openPlays", inPlace := ["slices.overlaps[arbour/open.Item[int]]"], unfollowed := true, recurses := true, apart := false, narrowed := true }
def OpenPlaysUptoSaid : Prop := openPlaysUptoRow.holds Try.pinned (OpenSpec.upto openPlaysSpec)

end Rows
end Go.Proofs.Ytoehpladbdefkaa
