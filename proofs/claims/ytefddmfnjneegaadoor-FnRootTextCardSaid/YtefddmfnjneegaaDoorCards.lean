/-
  DERIVED. GIVEN WITH THE SEED: THE CARDS: each row of YtefddmfnjneegaaDoorRows.lean that lists a variable, with what it lists TIED to the program's text (the seventh form; the later family's looks); each row that meets fmt, with fmt's text TOLD by the authors' own Lean function (tested against real Go, not proved from fmt's source: count such statements apart). THE CARD IS WHAT COUNTS. Prove the row's statement (the work); the ties are given (YtefddmfnjneegaaDoorTie.lean); close each card by the builder's one call (the guide's Derived/Test/ToyasCard.lean, 'card_holds'). Laid BY PROGRAM, IN A SANDBOX (cutbox-door.mjs). By AI agents, Wed Nov 11 2026. No macro, syntax, notation, axiom, sorry.
-/
import Derived.Test.YtefddmfnjneegaaDoorRows
import GoSem.ClaimSeven
namespace Go.Proofs.YtefddmfnjneegaaDoor
namespace Rows

/-- THE TIED CARD OF 'laws.FnExactRootText'. -/
def fnExactRootTextCard : Claim7 := { stood := { row := fnExactRootTextRow, standIns := [], harness := (true, "62c303df8f6247dc743a00239116ec8e906292d6f9a1d3d77de2c78033d29d9a"), looks := false }, kinds := [], alts := [], laidByText := true, laidKinds := [.data, .data, .data], laidTests := true, laidLooks := .later }
def FnExactRootTextCardSaid : Prop := Claim7.holds Tryd.pinned (.plain (OpenSpec.ofChange fnExactRootTextSpec)) fnExactRootTextCard

/-- THE TIED CARD OF 'laws.FnRootText'. -/
def fnRootTextCard : Claim7 := { stood := { row := fnRootTextRow, standIns := [], harness := (true, "62c303df8f6247dc743a00239116ec8e906292d6f9a1d3d77de2c78033d29d9a"), looks := false }, kinds := [], alts := [], laidByText := true, laidKinds := [.data, .data, .data], laidTests := true, laidLooks := .later }
def FnRootTextCardSaid : Prop := Claim7.holds Tryd.pinned (.plain (OpenSpec.ofChange fnRootTextSpec)) fnRootTextCard

/-- THE SECOND FORM's CARD OF 'laws.FnExactRootText'. -/
def fnExactRootTextUptoCard : Claim7 := { stood := { row := fnExactRootTextUptoRow, standIns := [], harness := (true, "62c303df8f6247dc743a00239116ec8e906292d6f9a1d3d77de2c78033d29d9a"), looks := false }, kinds := [], alts := [], laidByText := true, laidKinds := [.data, .data, .data], laidTests := true, laidLooks := .later }
def FnExactRootTextUptoCardSaid : Prop := Claim7.holds Tryd.pinned (.plain (OpenSpec.upto fnExactRootTextSpec)) fnExactRootTextUptoCard

/-- THE SECOND FORM's CARD OF 'laws.FnRootText'. -/
def fnRootTextUptoCard : Claim7 := { stood := { row := fnRootTextUptoRow, standIns := [], harness := (true, "62c303df8f6247dc743a00239116ec8e906292d6f9a1d3d77de2c78033d29d9a"), looks := false }, kinds := [], alts := [], laidByText := true, laidKinds := [.data, .data, .data], laidTests := true, laidLooks := .later }
def FnRootTextUptoCardSaid : Prop := Claim7.holds Tryd.pinned (.plain (OpenSpec.upto fnRootTextSpec)) fnRootTextUptoCard
end Rows
end Go.Proofs.YtefddmfnjneegaaDoor
