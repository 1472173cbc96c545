/-
  DERIVED. GIVEN WITH THE SEED: THE CARDS: each row of YtojpedgfllgbcaaDoorRows.lean that lists a variable, with what it lists TIED to the program's text (the seventh form; the later family's looks); each row that meets fmt, with fmt's text TOLD by the authors' own Lean function (tested against real Go, not proved from fmt's source: count such statements apart). THE CARD IS WHAT COUNTS. Prove the row's statement (the work); the ties are given (YtojpedgfllgbcaaDoorTie.lean); close each card by the builder's one call (the guide's Derived/Test/ToyasCard.lean, 'card_holds'). Laid BY PROGRAM, IN A SANDBOX (cutbox-door.mjs). By AI agents, Wed Nov 11 2026. No macro, syntax, notation, axiom, sorry.
-/
import Derived.Test.YtojpedgfllgbcaaDoorRows
import GoSem.ClaimSeven
namespace Go.Proofs.YtojpedgfllgbcaaDoor
namespace Rows

/-- THE TIED CARD OF 'arbourlaw25.StableNumbers'. -/
def stableNumbersCard : Claim7 := { stood := { row := stableNumbersRow, standIns := [], harness := (true, "ff21b34aadc2c0386bc15464aa7fd04bf13c32373e96095949d4271997481def"), looks := false }, kinds := [], alts := [], laidByText := true, laidKinds := [.data, .pinned], laidTests := true, laidLooks := .later }
def StableNumbersCardSaid : Prop := Claim7.holds Tryd.pinned (.plain (OpenSpec.ofChange stableNumbersSpec)) stableNumbersCard

/-- THE TIED CARD OF 'arbourlaw25.StableTells'. -/
def stableTellsCard : Claim7 := { stood := { row := stableTellsRow, standIns := [], harness := (true, "ff21b34aadc2c0386bc15464aa7fd04bf13c32373e96095949d4271997481def"), looks := false }, kinds := [], alts := [], laidByText := true, laidKinds := [.data, .pinned], laidTests := true, laidLooks := .later }
def StableTellsCardSaid : Prop := Claim7.holds Tryd.pinned (.plain (OpenSpec.ofChange stableTellsSpec)) stableTellsCard

/-- THE TIED CARD OF 'arbourlaw25.StableTexts'. -/
def stableTextsCard : Claim7 := { stood := { row := stableTextsRow, standIns := [], harness := (true, "ff21b34aadc2c0386bc15464aa7fd04bf13c32373e96095949d4271997481def"), looks := false }, kinds := [], alts := [], laidByText := true, laidKinds := [.data, .pinned], laidTests := true, laidLooks := .later }
def StableTextsCardSaid : Prop := Claim7.holds Tryd.pinned (.plain (OpenSpec.ofChange stableTextsSpec)) stableTextsCard

/-- THE TIED CARD OF 'arbourlaw23.SerialNumbers'. -/
def serialNumbersCard : Claim7 := { stood := { row := serialNumbersRow, standIns := [], harness := (true, "ff21b34aadc2c0386bc15464aa7fd04bf13c32373e96095949d4271997481def"), looks := false }, kinds := [], alts := [], laidByText := true, laidKinds := [.data, .pinned], laidTests := true, laidLooks := .later }
def SerialNumbersCardSaid : Prop := Claim7.holds Tryd.pinned (.plain (OpenSpec.ofChange serialNumbersSpec)) serialNumbersCard

/-- THE TIED CARD OF 'arbourlaw23.SerialTells'. -/
def serialTellsCard : Claim7 := { stood := { row := serialTellsRow, standIns := [], harness := (true, "ff21b34aadc2c0386bc15464aa7fd04bf13c32373e96095949d4271997481def"), looks := false }, kinds := [], alts := [], laidByText := true, laidKinds := [.data, .pinned], laidTests := true, laidLooks := .later }
def SerialTellsCardSaid : Prop := Claim7.holds Tryd.pinned (.plain (OpenSpec.ofChange serialTellsSpec)) serialTellsCard

/-- THE TIED CARD OF 'arbourlaw23.SerialDeep'. -/
def serialDeepCard : Claim7 := { stood := { row := serialDeepRow, standIns := [], harness := (true, "ff21b34aadc2c0386bc15464aa7fd04bf13c32373e96095949d4271997481def"), looks := false }, kinds := [], alts := [], laidByText := true, laidKinds := [.data, .pinned], laidTests := true, laidLooks := .later }
def SerialDeepCardSaid : Prop := Claim7.holds Tryd.pinned (.plain (OpenSpec.ofChange serialDeepSpec)) serialDeepCard

/-- THE TIED CARD OF 'arbourlaw23.SerialJoins'. -/
def serialJoinsCard : Claim7 := { stood := { row := serialJoinsRow, standIns := [], harness := (true, "ff21b34aadc2c0386bc15464aa7fd04bf13c32373e96095949d4271997481def"), looks := false }, kinds := [], alts := [], laidByText := true, laidKinds := [.data, .pinned], laidTests := true, laidLooks := .later }
def SerialJoinsCardSaid : Prop := Claim7.holds Tryd.pinned (.plain (OpenSpec.ofChange serialJoinsSpec)) serialJoinsCard

/-- THE SECOND FORM's CARD OF 'arbourlaw25.StableNumbers'. -/
def stableNumbersUptoCard : Claim7 := { stood := { row := stableNumbersUptoRow, standIns := [], harness := (true, "ff21b34aadc2c0386bc15464aa7fd04bf13c32373e96095949d4271997481def"), looks := false }, kinds := [], alts := [], laidByText := true, laidKinds := [.data, .pinned], laidTests := true, laidLooks := .later }
def StableNumbersUptoCardSaid : Prop := Claim7.holds Tryd.pinned (.plain (OpenSpec.upto stableNumbersSpec)) stableNumbersUptoCard

/-- THE SECOND FORM's CARD OF 'arbourlaw25.StableTells'. -/
def stableTellsUptoCard : Claim7 := { stood := { row := stableTellsUptoRow, standIns := [], harness := (true, "ff21b34aadc2c0386bc15464aa7fd04bf13c32373e96095949d4271997481def"), looks := false }, kinds := [], alts := [], laidByText := true, laidKinds := [.data, .pinned], laidTests := true, laidLooks := .later }
def StableTellsUptoCardSaid : Prop := Claim7.holds Tryd.pinned (.plain (OpenSpec.upto stableTellsSpec)) stableTellsUptoCard

/-- THE SECOND FORM's CARD OF 'arbourlaw25.StableTexts'. -/
def stableTextsUptoCard : Claim7 := { stood := { row := stableTextsUptoRow, standIns := [], harness := (true, "ff21b34aadc2c0386bc15464aa7fd04bf13c32373e96095949d4271997481def"), looks := false }, kinds := [], alts := [], laidByText := true, laidKinds := [.data, .pinned], laidTests := true, laidLooks := .later }
def StableTextsUptoCardSaid : Prop := Claim7.holds Tryd.pinned (.plain (OpenSpec.upto stableTextsSpec)) stableTextsUptoCard

/-- THE SECOND FORM's CARD OF 'arbourlaw23.SerialNumbers'. -/
def serialNumbersUptoCard : Claim7 := { stood := { row := serialNumbersUptoRow, standIns := [], harness := (true, "ff21b34aadc2c0386bc15464aa7fd04bf13c32373e96095949d4271997481def"), looks := false }, kinds := [], alts := [], laidByText := true, laidKinds := [.data, .pinned], laidTests := true, laidLooks := .later }
def SerialNumbersUptoCardSaid : Prop := Claim7.holds Tryd.pinned (.plain (OpenSpec.upto serialNumbersSpec)) serialNumbersUptoCard

/-- THE SECOND FORM's CARD OF 'arbourlaw23.SerialTells'. -/
def serialTellsUptoCard : Claim7 := { stood := { row := serialTellsUptoRow, standIns := [], harness := (true, "ff21b34aadc2c0386bc15464aa7fd04bf13c32373e96095949d4271997481def"), looks := false }, kinds := [], alts := [], laidByText := true, laidKinds := [.data, .pinned], laidTests := true, laidLooks := .later }
def SerialTellsUptoCardSaid : Prop := Claim7.holds Tryd.pinned (.plain (OpenSpec.upto serialTellsSpec)) serialTellsUptoCard

/-- THE SECOND FORM's CARD OF 'arbourlaw23.SerialDeep'. -/
def serialDeepUptoCard : Claim7 := { stood := { row := serialDeepUptoRow, standIns := [], harness := (true, "ff21b34aadc2c0386bc15464aa7fd04bf13c32373e96095949d4271997481def"), looks := false }, kinds := [], alts := [], laidByText := true, laidKinds := [.data, .pinned], laidTests := true, laidLooks := .later }
def SerialDeepUptoCardSaid : Prop := Claim7.holds Tryd.pinned (.plain (OpenSpec.upto serialDeepSpec)) serialDeepUptoCard

/-- THE SECOND FORM's CARD OF 'arbourlaw23.SerialJoins'. -/
def serialJoinsUptoCard : Claim7 := { stood := { row := serialJoinsUptoRow, standIns := [], harness := (true, "ff21b34aadc2c0386bc15464aa7fd04bf13c32373e96095949d4271997481def"), looks := false }, kinds := [], alts := [], laidByText := true, laidKinds := [.data, .pinned], laidTests := true, laidLooks := .later }
def SerialJoinsUptoCardSaid : Prop := Claim7.holds Tryd.pinned (.plain (OpenSpec.upto serialJoinsSpec)) serialJoinsUptoCard
end Rows
end Go.Proofs.YtojpedgfllgbcaaDoor
