/-
  DERIVED. GIVEN WITH THE SEED: THE CARDS: each row of YtpifcllccoloeaaDoorRows.lean that lists a variable, with what it lists TIED to the program's text (the seventh form; the later family's looks); each row that meets fmt, with fmt's text TOLD by the authors' own Lean function (tested against real Go, not proved from fmt's source: count such statements apart). THE CARD IS WHAT COUNTS. Prove the row's statement (the work); the ties are given (YtpifcllccoloeaaDoorTie.lean); close each card by the builder's one call (the guide's Derived/Test/ToyasCard.lean, 'card_holds'). Laid BY PROGRAM, IN A SANDBOX (cutbox-door.mjs). By AI agents, Wed Nov 11 2026. No macro, syntax, notation, axiom, sorry.
-/
import Derived.Test.YtpifcllccoloeaaDoorRows
import GoSem.ClaimSeven
namespace Go.Proofs.YtpifcllccoloeaaDoor
namespace Rows

/-- THE TIED CARD OF 'laws.FnExactMicroCount'. -/
def fnExactMicroCountCard : Claim7 := { stood := { row := fnExactMicroCountRow, standIns := [], harness := (true, "421f60f55b9635ae4c29fb2caa55aab8030e4a1addd88a1e13af11e3349b34a5"), looks := false }, kinds := [], alts := [], laidByText := true, laidKinds := [.data, .data], laidTests := true, laidLooks := .later }
def FnExactMicroCountCardSaid : Prop := Claim7.holds Tryd.pinned (.plain (OpenSpec.ofChange fnExactMicroCountSpec)) fnExactMicroCountCard

/-- THE TIED CARD OF 'laws.FnExactMicroOrbit'. -/
def fnExactMicroOrbitCard : Claim7 := { stood := { row := fnExactMicroOrbitRow, standIns := [], harness := (true, "421f60f55b9635ae4c29fb2caa55aab8030e4a1addd88a1e13af11e3349b34a5"), looks := false }, kinds := [], alts := [], laidByText := true, laidKinds := [.data, .data], laidTests := true, laidLooks := .later }
def FnExactMicroOrbitCardSaid : Prop := Claim7.holds Tryd.pinned (.plain (OpenSpec.ofChange fnExactMicroOrbitSpec)) fnExactMicroOrbitCard

/-- THE TIED CARD OF 'laws.FnExactMicroSpin'. -/
def fnExactMicroSpinCard : Claim7 := { stood := { row := fnExactMicroSpinRow, standIns := [], harness := (true, "421f60f55b9635ae4c29fb2caa55aab8030e4a1addd88a1e13af11e3349b34a5"), looks := false }, kinds := [], alts := [], laidByText := true, laidKinds := [.data, .data], laidTests := true, laidLooks := .later }
def FnExactMicroSpinCardSaid : Prop := Claim7.holds Tryd.pinned (.plain (OpenSpec.ofChange fnExactMicroSpinSpec)) fnExactMicroSpinCard

/-- THE TIED CARD OF 'laws.FnExactTermCount'. -/
def fnExactTermCountCard : Claim7 := { stood := { row := fnExactTermCountRow, standIns := [], harness := (true, "421f60f55b9635ae4c29fb2caa55aab8030e4a1addd88a1e13af11e3349b34a5"), looks := false }, kinds := [], alts := [], laidByText := true, laidKinds := [.data, .data], laidTests := true, laidLooks := .later }
def FnExactTermCountCardSaid : Prop := Claim7.holds Tryd.pinned (.plain (OpenSpec.ofChange fnExactTermCountSpec)) fnExactTermCountCard

/-- THE TIED CARD OF 'laws.FnMicroBoth'. -/
def fnMicroBothCard : Claim7 := { stood := { row := fnMicroBothRow, standIns := [], harness := (true, "421f60f55b9635ae4c29fb2caa55aab8030e4a1addd88a1e13af11e3349b34a5"), looks := false }, kinds := [], alts := [], laidByText := true, laidKinds := [.data, .data], laidTests := true, laidLooks := .later }
def FnMicroBothCardSaid : Prop := Claim7.holds Tryd.pinned (.plain (OpenSpec.ofChange fnMicroBothSpec)) fnMicroBothCard

/-- THE TIED CARD OF 'laws.FnMicroEnds'. -/
def fnMicroEndsCard : Claim7 := { stood := { row := fnMicroEndsRow, standIns := [], harness := (true, "421f60f55b9635ae4c29fb2caa55aab8030e4a1addd88a1e13af11e3349b34a5"), looks := false }, kinds := [], alts := [], laidByText := true, laidKinds := [.data, .data], laidTests := true, laidLooks := .later }
def FnMicroEndsCardSaid : Prop := Claim7.holds Tryd.pinned (.plain (OpenSpec.ofChange fnMicroEndsSpec)) fnMicroEndsCard

/-- THE TIED CARD OF 'laws.FnMicroFalls'. -/
def fnMicroFallsCard : Claim7 := { stood := { row := fnMicroFallsRow, standIns := [], harness := (true, "421f60f55b9635ae4c29fb2caa55aab8030e4a1addd88a1e13af11e3349b34a5"), looks := false }, kinds := [], alts := [], laidByText := true, laidKinds := [.data, .data], laidTests := true, laidLooks := .later }
def FnMicroFallsCardSaid : Prop := Claim7.holds Tryd.pinned (.plain (OpenSpec.ofChange fnMicroFallsSpec)) fnMicroFallsCard

/-- THE TIED CARD OF 'laws.FnMicroHoles'. -/
def fnMicroHolesCard : Claim7 := { stood := { row := fnMicroHolesRow, standIns := [], harness := (true, "421f60f55b9635ae4c29fb2caa55aab8030e4a1addd88a1e13af11e3349b34a5"), looks := false }, kinds := [], alts := [], laidByText := true, laidKinds := [.data, .data], laidTests := true, laidLooks := .later }
def FnMicroHolesCardSaid : Prop := Claim7.holds Tryd.pinned (.plain (OpenSpec.ofChange fnMicroHolesSpec)) fnMicroHolesCard

/-- THE TIED CARD OF 'laws.FnMicroMirror'. -/
def fnMicroMirrorCard : Claim7 := { stood := { row := fnMicroMirrorRow, standIns := [], harness := (true, "421f60f55b9635ae4c29fb2caa55aab8030e4a1addd88a1e13af11e3349b34a5"), looks := false }, kinds := [], alts := [], laidByText := true, laidKinds := [.data, .data], laidTests := true, laidLooks := .later }
def FnMicroMirrorCardSaid : Prop := Claim7.holds Tryd.pinned (.plain (OpenSpec.ofChange fnMicroMirrorSpec)) fnMicroMirrorCard

/-- THE TIED CARD OF 'laws.FnMicroParity'. -/
def fnMicroParityCard : Claim7 := { stood := { row := fnMicroParityRow, standIns := [], harness := (true, "421f60f55b9635ae4c29fb2caa55aab8030e4a1addd88a1e13af11e3349b34a5"), looks := false }, kinds := [], alts := [], laidByText := true, laidKinds := [.data, .data], laidTests := true, laidLooks := .later }
def FnMicroParityCardSaid : Prop := Claim7.holds Tryd.pinned (.plain (OpenSpec.ofChange fnMicroParitySpec)) fnMicroParityCard

/-- THE TIED CARD OF 'laws.FnMicroSplit'. -/
def fnMicroSplitCard : Claim7 := { stood := { row := fnMicroSplitRow, standIns := [], harness := (true, "421f60f55b9635ae4c29fb2caa55aab8030e4a1addd88a1e13af11e3349b34a5"), looks := false }, kinds := [], alts := [], laidByText := true, laidKinds := [.data, .data], laidTests := true, laidLooks := .later }
def FnMicroSplitCardSaid : Prop := Claim7.holds Tryd.pinned (.plain (OpenSpec.ofChange fnMicroSplitSpec)) fnMicroSplitCard

/-- THE SECOND FORM's CARD OF 'laws.FnExactMicroCount'. -/
def fnExactMicroCountUptoCard : Claim7 := { stood := { row := fnExactMicroCountUptoRow, standIns := [], harness := (true, "421f60f55b9635ae4c29fb2caa55aab8030e4a1addd88a1e13af11e3349b34a5"), looks := false }, kinds := [], alts := [], laidByText := true, laidKinds := [.data, .data], laidTests := true, laidLooks := .later }
def FnExactMicroCountUptoCardSaid : Prop := Claim7.holds Tryd.pinned (.plain (OpenSpec.upto fnExactMicroCountSpec)) fnExactMicroCountUptoCard

/-- THE SECOND FORM's CARD OF 'laws.FnExactMicroOrbit'. -/
def fnExactMicroOrbitUptoCard : Claim7 := { stood := { row := fnExactMicroOrbitUptoRow, standIns := [], harness := (true, "421f60f55b9635ae4c29fb2caa55aab8030e4a1addd88a1e13af11e3349b34a5"), looks := false }, kinds := [], alts := [], laidByText := true, laidKinds := [.data, .data], laidTests := true, laidLooks := .later }
def FnExactMicroOrbitUptoCardSaid : Prop := Claim7.holds Tryd.pinned (.plain (OpenSpec.upto fnExactMicroOrbitSpec)) fnExactMicroOrbitUptoCard

/-- THE SECOND FORM's CARD OF 'laws.FnExactMicroSpin'. -/
def fnExactMicroSpinUptoCard : Claim7 := { stood := { row := fnExactMicroSpinUptoRow, standIns := [], harness := (true, "421f60f55b9635ae4c29fb2caa55aab8030e4a1addd88a1e13af11e3349b34a5"), looks := false }, kinds := [], alts := [], laidByText := true, laidKinds := [.data, .data], laidTests := true, laidLooks := .later }
def FnExactMicroSpinUptoCardSaid : Prop := Claim7.holds Tryd.pinned (.plain (OpenSpec.upto fnExactMicroSpinSpec)) fnExactMicroSpinUptoCard

/-- THE SECOND FORM's CARD OF 'laws.FnExactTermCount'. -/
def fnExactTermCountUptoCard : Claim7 := { stood := { row := fnExactTermCountUptoRow, standIns := [], harness := (true, "421f60f55b9635ae4c29fb2caa55aab8030e4a1addd88a1e13af11e3349b34a5"), looks := false }, kinds := [], alts := [], laidByText := true, laidKinds := [.data, .data], laidTests := true, laidLooks := .later }
def FnExactTermCountUptoCardSaid : Prop := Claim7.holds Tryd.pinned (.plain (OpenSpec.upto fnExactTermCountSpec)) fnExactTermCountUptoCard

/-- THE SECOND FORM's CARD OF 'laws.FnMicroBoth'. -/
def fnMicroBothUptoCard : Claim7 := { stood := { row := fnMicroBothUptoRow, standIns := [], harness := (true, "421f60f55b9635ae4c29fb2caa55aab8030e4a1addd88a1e13af11e3349b34a5"), looks := false }, kinds := [], alts := [], laidByText := true, laidKinds := [.data, .data], laidTests := true, laidLooks := .later }
def FnMicroBothUptoCardSaid : Prop := Claim7.holds Tryd.pinned (.plain (OpenSpec.upto fnMicroBothSpec)) fnMicroBothUptoCard

/-- THE SECOND FORM's CARD OF 'laws.FnMicroEnds'. -/
def fnMicroEndsUptoCard : Claim7 := { stood := { row := fnMicroEndsUptoRow, standIns := [], harness := (true, "421f60f55b9635ae4c29fb2caa55aab8030e4a1addd88a1e13af11e3349b34a5"), looks := false }, kinds := [], alts := [], laidByText := true, laidKinds := [.data, .data], laidTests := true, laidLooks := .later }
def FnMicroEndsUptoCardSaid : Prop := Claim7.holds Tryd.pinned (.plain (OpenSpec.upto fnMicroEndsSpec)) fnMicroEndsUptoCard

/-- THE SECOND FORM's CARD OF 'laws.FnMicroFalls'. -/
def fnMicroFallsUptoCard : Claim7 := { stood := { row := fnMicroFallsUptoRow, standIns := [], harness := (true, "421f60f55b9635ae4c29fb2caa55aab8030e4a1addd88a1e13af11e3349b34a5"), looks := false }, kinds := [], alts := [], laidByText := true, laidKinds := [.data, .data], laidTests := true, laidLooks := .later }
def FnMicroFallsUptoCardSaid : Prop := Claim7.holds Tryd.pinned (.plain (OpenSpec.upto fnMicroFallsSpec)) fnMicroFallsUptoCard

/-- THE SECOND FORM's CARD OF 'laws.FnMicroHoles'. -/
def fnMicroHolesUptoCard : Claim7 := { stood := { row := fnMicroHolesUptoRow, standIns := [], harness := (true, "421f60f55b9635ae4c29fb2caa55aab8030e4a1addd88a1e13af11e3349b34a5"), looks := false }, kinds := [], alts := [], laidByText := true, laidKinds := [.data, .data], laidTests := true, laidLooks := .later }
def FnMicroHolesUptoCardSaid : Prop := Claim7.holds Tryd.pinned (.plain (OpenSpec.upto fnMicroHolesSpec)) fnMicroHolesUptoCard

/-- THE SECOND FORM's CARD OF 'laws.FnMicroMirror'. -/
def fnMicroMirrorUptoCard : Claim7 := { stood := { row := fnMicroMirrorUptoRow, standIns := [], harness := (true, "421f60f55b9635ae4c29fb2caa55aab8030e4a1addd88a1e13af11e3349b34a5"), looks := false }, kinds := [], alts := [], laidByText := true, laidKinds := [.data, .data], laidTests := true, laidLooks := .later }
def FnMicroMirrorUptoCardSaid : Prop := Claim7.holds Tryd.pinned (.plain (OpenSpec.upto fnMicroMirrorSpec)) fnMicroMirrorUptoCard

/-- THE SECOND FORM's CARD OF 'laws.FnMicroParity'. -/
def fnMicroParityUptoCard : Claim7 := { stood := { row := fnMicroParityUptoRow, standIns := [], harness := (true, "421f60f55b9635ae4c29fb2caa55aab8030e4a1addd88a1e13af11e3349b34a5"), looks := false }, kinds := [], alts := [], laidByText := true, laidKinds := [.data, .data], laidTests := true, laidLooks := .later }
def FnMicroParityUptoCardSaid : Prop := Claim7.holds Tryd.pinned (.plain (OpenSpec.upto fnMicroParitySpec)) fnMicroParityUptoCard

/-- THE SECOND FORM's CARD OF 'laws.FnMicroSplit'. -/
def fnMicroSplitUptoCard : Claim7 := { stood := { row := fnMicroSplitUptoRow, standIns := [], harness := (true, "421f60f55b9635ae4c29fb2caa55aab8030e4a1addd88a1e13af11e3349b34a5"), looks := false }, kinds := [], alts := [], laidByText := true, laidKinds := [.data, .data], laidTests := true, laidLooks := .later }
def FnMicroSplitUptoCardSaid : Prop := Claim7.holds Tryd.pinned (.plain (OpenSpec.upto fnMicroSplitSpec)) fnMicroSplitUptoCard
end Rows
end Go.Proofs.YtpifcllccoloeaaDoor
