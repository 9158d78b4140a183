/-
  DERIVED. GIVEN WITH THE SEED: THE CARDS: each row of YtdfpcbbhapihiaaDoorRows.lean that lists a variable, with what it lists TIED to the program's text (the seventh form; the later family's looks); each row that meets fmt, with fmt's text TOLD by the authors' own Lean function (tested against real Go, not proved from fmt's source: count such statements apart). THE CARD IS WHAT COUNTS. Prove the row's statement (the work); the ties are given (YtdfpcbbhapihiaaDoorTie.lean); close each card by the builder's one call (the guide's Derived/Test/ToyasCard.lean, 'card_holds'). Laid BY PROGRAM, IN A SANDBOX (cutbox-door.mjs). By AI agents, Wed Nov 11 2026. No macro, syntax, notation, axiom, sorry.
-/
import Derived.Test.YtdfpcbbhapihiaaDoorRows
import GoSem.ClaimSeven
namespace Go.Proofs.YtdfpcbbhapihiaaDoor
namespace Rows

/-- THE TIED CARD OF 'laws.FnMicroSpin'. -/
def fnMicroSpinCard : Claim7 := { stood := { row := fnMicroSpinRow, standIns := [], harness := (true, "090fae7ccdb994b045bc10e943a26869563d5a0d58386d1d88e68d6085c94748"), looks := false }, kinds := [], alts := [], laidByText := true, laidKinds := [.data, .data], laidTests := true, laidLooks := .later }
def FnMicroSpinCardSaid : Prop := Claim7.holds Tryd.pinned (.plain (OpenSpec.ofChange fnMicroSpinSpec)) fnMicroSpinCard

/-- THE TIED CARD OF 'laws.FnMicroAll'. -/
def fnMicroAllCard : Claim7 := { stood := { row := fnMicroAllRow, standIns := [], harness := (true, "090fae7ccdb994b045bc10e943a26869563d5a0d58386d1d88e68d6085c94748"), looks := false }, kinds := [], alts := [], laidByText := true, laidKinds := [.data, .data], laidTests := true, laidLooks := .later }
def FnMicroAllCardSaid : Prop := Claim7.holds Tryd.pinned (.plain (OpenSpec.ofChange fnMicroAllSpec)) fnMicroAllCard

/-- THE TIED CARD OF 'laws.FnMicroOrbit'. -/
def fnMicroOrbitCard : Claim7 := { stood := { row := fnMicroOrbitRow, standIns := [], harness := (true, "090fae7ccdb994b045bc10e943a26869563d5a0d58386d1d88e68d6085c94748"), looks := false }, kinds := [], alts := [], laidByText := true, laidKinds := [.data, .data], laidTests := true, laidLooks := .later }
def FnMicroOrbitCardSaid : Prop := Claim7.holds Tryd.pinned (.plain (OpenSpec.ofChange fnMicroOrbitSpec)) fnMicroOrbitCard

/-- THE TIED CARD OF 'laws.FnTermCountHoles'. -/
def fnTermCountHolesCard : Claim7 := { stood := { row := fnTermCountHolesRow, standIns := [], harness := (true, "090fae7ccdb994b045bc10e943a26869563d5a0d58386d1d88e68d6085c94748"), looks := false }, kinds := [], alts := [], laidByText := true, laidKinds := [.data, .data], laidTests := true, laidLooks := .later }
def FnTermCountHolesCardSaid : Prop := Claim7.holds Tryd.pinned (.plain (OpenSpec.ofChange fnTermCountHolesSpec)) fnTermCountHolesCard

/-- THE SECOND FORM's CARD OF 'laws.FnMicroSpin'. -/
def fnMicroSpinUptoCard : Claim7 := { stood := { row := fnMicroSpinUptoRow, standIns := [], harness := (true, "090fae7ccdb994b045bc10e943a26869563d5a0d58386d1d88e68d6085c94748"), looks := false }, kinds := [], alts := [], laidByText := true, laidKinds := [.data, .data], laidTests := true, laidLooks := .later }
def FnMicroSpinUptoCardSaid : Prop := Claim7.holds Tryd.pinned (.plain (OpenSpec.upto fnMicroSpinSpec)) fnMicroSpinUptoCard

/-- THE SECOND FORM's CARD OF 'laws.FnMicroAll'. -/
def fnMicroAllUptoCard : Claim7 := { stood := { row := fnMicroAllUptoRow, standIns := [], harness := (true, "090fae7ccdb994b045bc10e943a26869563d5a0d58386d1d88e68d6085c94748"), looks := false }, kinds := [], alts := [], laidByText := true, laidKinds := [.data, .data], laidTests := true, laidLooks := .later }
def FnMicroAllUptoCardSaid : Prop := Claim7.holds Tryd.pinned (.plain (OpenSpec.upto fnMicroAllSpec)) fnMicroAllUptoCard

/-- THE SECOND FORM's CARD OF 'laws.FnMicroOrbit'. -/
def fnMicroOrbitUptoCard : Claim7 := { stood := { row := fnMicroOrbitUptoRow, standIns := [], harness := (true, "090fae7ccdb994b045bc10e943a26869563d5a0d58386d1d88e68d6085c94748"), looks := false }, kinds := [], alts := [], laidByText := true, laidKinds := [.data, .data], laidTests := true, laidLooks := .later }
def FnMicroOrbitUptoCardSaid : Prop := Claim7.holds Tryd.pinned (.plain (OpenSpec.upto fnMicroOrbitSpec)) fnMicroOrbitUptoCard

/-- THE SECOND FORM's CARD OF 'laws.FnTermCountHoles'. -/
def fnTermCountHolesUptoCard : Claim7 := { stood := { row := fnTermCountHolesUptoRow, standIns := [], harness := (true, "090fae7ccdb994b045bc10e943a26869563d5a0d58386d1d88e68d6085c94748"), looks := false }, kinds := [], alts := [], laidByText := true, laidKinds := [.data, .data], laidTests := true, laidLooks := .later }
def FnTermCountHolesUptoCardSaid : Prop := Claim7.holds Tryd.pinned (.plain (OpenSpec.upto fnTermCountHolesSpec)) fnTermCountHolesUptoCard
end Rows
end Go.Proofs.YtdfpcbbhapihiaaDoor
