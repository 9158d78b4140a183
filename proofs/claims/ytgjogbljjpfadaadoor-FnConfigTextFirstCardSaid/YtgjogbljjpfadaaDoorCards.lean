/-
  DERIVED. GIVEN WITH THE SEED: THE CARDS: each row of YtgjogbljjpfadaaDoorRows.lean that lists a variable, with what it lists TIED to the program's text (the seventh form; the later family's looks); each row that meets fmt, with fmt's text TOLD by the authors' own Lean function (tested against real Go, not proved from fmt's source: count such statements apart). THE CARD IS WHAT COUNTS. Prove the row's statement (the work); the ties are given (YtgjogbljjpfadaaDoorTie.lean); close each card by the builder's one call (the guide's Derived/Test/ToyasCard.lean, 'card_holds'). Laid BY PROGRAM, IN A SANDBOX (cutbox-door.mjs). By AI agents, Wed Nov 11 2026. No macro, syntax, notation, axiom, sorry.
-/
import Derived.Test.YtgjogbljjpfadaaDoorRows
import GoSem.ClaimSeven
namespace Go.Proofs.YtgjogbljjpfadaaDoor
namespace Rows

/-- THE TIED CARD OF 'laws.FnExactShellText'. -/
def fnExactShellTextCard : Claim7 := { stood := { row := fnExactShellTextRow, standIns := [], harness := (true, "a963d52d5bddd32cb438fb29f90e6f478e7997d82a5fe9e3b317a2e838bc4ffd"), looks := false }, kinds := [], alts := [], laidByText := true, laidKinds := [.data, .data, .data], laidTests := true, laidLooks := .later }
def FnExactShellTextCardSaid : Prop := Claim7.holds Tryd.pinned (.plain (OpenSpec.ofChange fnExactShellTextSpec)) fnExactShellTextCard

/-- THE TIED CARD OF 'laws.FnExactConfigText'. -/
def fnExactConfigTextCard : Claim7 := { stood := { row := fnExactConfigTextRow, standIns := [], harness := (true, "a963d52d5bddd32cb438fb29f90e6f478e7997d82a5fe9e3b317a2e838bc4ffd"), looks := false }, kinds := [], alts := [], laidByText := true, laidKinds := [.data, .data, .data], laidTests := true, laidLooks := .later }
def FnExactConfigTextCardSaid : Prop := Claim7.holds Tryd.pinned (.plain (OpenSpec.ofChange fnExactConfigTextSpec)) fnExactConfigTextCard

/-- THE TIED CARD OF 'laws.FnConfigTextFirst'. -/
def fnConfigTextFirstCard : Claim7 := { stood := { row := fnConfigTextFirstRow, standIns := [], harness := (true, "a963d52d5bddd32cb438fb29f90e6f478e7997d82a5fe9e3b317a2e838bc4ffd"), looks := false }, kinds := [], alts := [], laidByText := true, laidKinds := [.data, .data, .data], laidTests := true, laidLooks := .later }
def FnConfigTextFirstCardSaid : Prop := Claim7.holds Tryd.pinned (.plain (OpenSpec.ofChange fnConfigTextFirstSpec)) fnConfigTextFirstCard

/-- THE SECOND FORM's CARD OF 'laws.FnExactShellText'. -/
def fnExactShellTextUptoCard : Claim7 := { stood := { row := fnExactShellTextUptoRow, standIns := [], harness := (true, "a963d52d5bddd32cb438fb29f90e6f478e7997d82a5fe9e3b317a2e838bc4ffd"), looks := false }, kinds := [], alts := [], laidByText := true, laidKinds := [.data, .data, .data], laidTests := true, laidLooks := .later }
def FnExactShellTextUptoCardSaid : Prop := Claim7.holds Tryd.pinned (.plain (OpenSpec.upto fnExactShellTextSpec)) fnExactShellTextUptoCard

/-- THE SECOND FORM's CARD OF 'laws.FnExactConfigText'. -/
def fnExactConfigTextUptoCard : Claim7 := { stood := { row := fnExactConfigTextUptoRow, standIns := [], harness := (true, "a963d52d5bddd32cb438fb29f90e6f478e7997d82a5fe9e3b317a2e838bc4ffd"), looks := false }, kinds := [], alts := [], laidByText := true, laidKinds := [.data, .data, .data], laidTests := true, laidLooks := .later }
def FnExactConfigTextUptoCardSaid : Prop := Claim7.holds Tryd.pinned (.plain (OpenSpec.upto fnExactConfigTextSpec)) fnExactConfigTextUptoCard

/-- THE SECOND FORM's CARD OF 'laws.FnConfigTextFirst'. -/
def fnConfigTextFirstUptoCard : Claim7 := { stood := { row := fnConfigTextFirstUptoRow, standIns := [], harness := (true, "a963d52d5bddd32cb438fb29f90e6f478e7997d82a5fe9e3b317a2e838bc4ffd"), looks := false }, kinds := [], alts := [], laidByText := true, laidKinds := [.data, .data, .data], laidTests := true, laidLooks := .later }
def FnConfigTextFirstUptoCardSaid : Prop := Claim7.holds Tryd.pinned (.plain (OpenSpec.upto fnConfigTextFirstSpec)) fnConfigTextFirstUptoCard
end Rows
end Go.Proofs.YtgjogbljjpfadaaDoor
