/-
  DERIVED. GIVEN WITH THE SEED: THE CARDS: each row of YtgmdljlbiokcaaaDoorRows.lean that lists a variable, with what it lists TIED to the program's text (the seventh form; the later family's looks); each row that meets fmt, with fmt's text TOLD by the authors' own Lean function (tested against real Go, not proved from fmt's source: count such statements apart). THE CARD IS WHAT COUNTS. Prove the row's statement (the work); the ties are given (YtgmdljlbiokcaaaDoorTie.lean); close each card by the builder's one call (the guide's Derived/Test/ToyasCard.lean, 'card_holds'). Laid BY PROGRAM, IN A SANDBOX (cutbox-door.mjs). By AI agents, Wed Nov 11 2026. No macro, syntax, notation, axiom, sorry.
-/
import Derived.Test.YtgmdljlbiokcaaaDoorRows
import GoSem.ClaimSeven
namespace Go.Proofs.YtgmdljlbiokcaaaDoor
namespace Rows

/-- THE TIED CARD OF 'laws.FnShellText'. -/
def fnShellTextCard : Claim7 := { stood := { row := fnShellTextRow, standIns := [], harness := (true, "9d55f8f38b2e9220cbac9ad63bf2f7ba5c50bdd7a8d52423ef98bb2db296f581"), looks := true }, kinds := [], alts := [], laidByText := true, laidKinds := [.data, .data, .data, .sentinel, .sentinel], laidTests := true, laidLooks := .later }
def FnShellTextCardSaid : Prop := Claim7.holds Tryd.pinned (.plain (OpenSpec.ofChange fnShellTextSpec)) fnShellTextCard

/-- THE TIED CARD OF 'laws.FnExactShellFrom'. -/
def fnExactShellFromCard : Claim7 := { stood := { row := fnExactShellFromRow, standIns := [], harness := (true, "9d55f8f38b2e9220cbac9ad63bf2f7ba5c50bdd7a8d52423ef98bb2db296f581"), looks := true }, kinds := [], alts := [], laidByText := true, laidKinds := [.data, .data, .data, .sentinel, .sentinel], laidTests := true, laidLooks := .later }
def FnExactShellFromCardSaid : Prop := Claim7.holds Tryd.pinned (.plain (OpenSpec.ofChange fnExactShellFromSpec)) fnExactShellFromCard

/-- THE TIED CARD OF 'laws.FnShellFrom'. -/
def fnShellFromCard : Claim7 := { stood := { row := fnShellFromRow, standIns := [], harness := (true, "9d55f8f38b2e9220cbac9ad63bf2f7ba5c50bdd7a8d52423ef98bb2db296f581"), looks := true }, kinds := [], alts := [], laidByText := true, laidKinds := [.data, .data, .data, .sentinel, .sentinel], laidTests := true, laidLooks := .later }
def FnShellFromCardSaid : Prop := Claim7.holds Tryd.pinned (.plain (OpenSpec.ofChange fnShellFromSpec)) fnShellFromCard

/-- THE TIED CARD OF 'laws.FnExactConfigFrom'. -/
def fnExactConfigFromCard : Claim7 := { stood := { row := fnExactConfigFromRow, standIns := [], harness := (true, "9d55f8f38b2e9220cbac9ad63bf2f7ba5c50bdd7a8d52423ef98bb2db296f581"), looks := true }, kinds := [], alts := [], laidByText := true, laidKinds := [.data, .data, .data, .data, .sentinel, .sentinel, .pinned], laidTests := true, laidLooks := .later }
def FnExactConfigFromCardSaid : Prop := Claim7.holds Tryd.pinned (.plain (OpenSpec.ofChange fnExactConfigFromSpec)) fnExactConfigFromCard

/-- THE TIED CARD OF 'laws.FnConfigText'. -/
def fnConfigTextCard : Claim7 := { stood := { row := fnConfigTextRow, standIns := [], harness := (true, "9d55f8f38b2e9220cbac9ad63bf2f7ba5c50bdd7a8d52423ef98bb2db296f581"), looks := true }, kinds := [], alts := [], laidByText := true, laidKinds := [.data, .data, .data, .data, .sentinel, .sentinel, .pinned], laidTests := true, laidLooks := .later }
def FnConfigTextCardSaid : Prop := Claim7.holds Tryd.pinned (.plain (OpenSpec.ofChange fnConfigTextSpec)) fnConfigTextCard

/-- THE TIED CARD OF 'laws.FnConfigFrom'. -/
def fnConfigFromCard : Claim7 := { stood := { row := fnConfigFromRow, standIns := [], harness := (true, "9d55f8f38b2e9220cbac9ad63bf2f7ba5c50bdd7a8d52423ef98bb2db296f581"), looks := true }, kinds := [], alts := [], laidByText := true, laidKinds := [.data, .data, .data, .data, .sentinel, .sentinel, .pinned], laidTests := true, laidLooks := .later }
def FnConfigFromCardSaid : Prop := Claim7.holds Tryd.pinned (.plain (OpenSpec.ofChange fnConfigFromSpec)) fnConfigFromCard

/-- THE SECOND FORM's CARD OF 'laws.FnShellText'. -/
def fnShellTextUptoCard : Claim7 := { stood := { row := fnShellTextUptoRow, standIns := [], harness := (true, "9d55f8f38b2e9220cbac9ad63bf2f7ba5c50bdd7a8d52423ef98bb2db296f581"), looks := true }, kinds := [], alts := [], laidByText := true, laidKinds := [.data, .data, .data, .sentinel, .sentinel], laidTests := true, laidLooks := .later }
def FnShellTextUptoCardSaid : Prop := Claim7.holds Tryd.pinned (.plain (OpenSpec.upto fnShellTextSpec)) fnShellTextUptoCard

/-- THE SECOND FORM's CARD OF 'laws.FnExactShellFrom'. -/
def fnExactShellFromUptoCard : Claim7 := { stood := { row := fnExactShellFromUptoRow, standIns := [], harness := (true, "9d55f8f38b2e9220cbac9ad63bf2f7ba5c50bdd7a8d52423ef98bb2db296f581"), looks := true }, kinds := [], alts := [], laidByText := true, laidKinds := [.data, .data, .data, .sentinel, .sentinel], laidTests := true, laidLooks := .later }
def FnExactShellFromUptoCardSaid : Prop := Claim7.holds Tryd.pinned (.plain (OpenSpec.upto fnExactShellFromSpec)) fnExactShellFromUptoCard

/-- THE SECOND FORM's CARD OF 'laws.FnShellFrom'. -/
def fnShellFromUptoCard : Claim7 := { stood := { row := fnShellFromUptoRow, standIns := [], harness := (true, "9d55f8f38b2e9220cbac9ad63bf2f7ba5c50bdd7a8d52423ef98bb2db296f581"), looks := true }, kinds := [], alts := [], laidByText := true, laidKinds := [.data, .data, .data, .sentinel, .sentinel], laidTests := true, laidLooks := .later }
def FnShellFromUptoCardSaid : Prop := Claim7.holds Tryd.pinned (.plain (OpenSpec.upto fnShellFromSpec)) fnShellFromUptoCard

/-- THE SECOND FORM's CARD OF 'laws.FnExactConfigFrom'. -/
def fnExactConfigFromUptoCard : Claim7 := { stood := { row := fnExactConfigFromUptoRow, standIns := [], harness := (true, "9d55f8f38b2e9220cbac9ad63bf2f7ba5c50bdd7a8d52423ef98bb2db296f581"), looks := true }, kinds := [], alts := [], laidByText := true, laidKinds := [.data, .data, .data, .data, .sentinel, .sentinel, .pinned], laidTests := true, laidLooks := .later }
def FnExactConfigFromUptoCardSaid : Prop := Claim7.holds Tryd.pinned (.plain (OpenSpec.upto fnExactConfigFromSpec)) fnExactConfigFromUptoCard

/-- THE SECOND FORM's CARD OF 'laws.FnConfigText'. -/
def fnConfigTextUptoCard : Claim7 := { stood := { row := fnConfigTextUptoRow, standIns := [], harness := (true, "9d55f8f38b2e9220cbac9ad63bf2f7ba5c50bdd7a8d52423ef98bb2db296f581"), looks := true }, kinds := [], alts := [], laidByText := true, laidKinds := [.data, .data, .data, .data, .sentinel, .sentinel, .pinned], laidTests := true, laidLooks := .later }
def FnConfigTextUptoCardSaid : Prop := Claim7.holds Tryd.pinned (.plain (OpenSpec.upto fnConfigTextSpec)) fnConfigTextUptoCard

/-- THE SECOND FORM's CARD OF 'laws.FnConfigFrom'. -/
def fnConfigFromUptoCard : Claim7 := { stood := { row := fnConfigFromUptoRow, standIns := [], harness := (true, "9d55f8f38b2e9220cbac9ad63bf2f7ba5c50bdd7a8d52423ef98bb2db296f581"), looks := true }, kinds := [], alts := [], laidByText := true, laidKinds := [.data, .data, .data, .data, .sentinel, .sentinel, .pinned], laidTests := true, laidLooks := .later }
def FnConfigFromUptoCardSaid : Prop := Claim7.holds Tryd.pinned (.plain (OpenSpec.upto fnConfigFromSpec)) fnConfigFromUptoCard
end Rows
end Go.Proofs.YtgmdljlbiokcaaaDoor
