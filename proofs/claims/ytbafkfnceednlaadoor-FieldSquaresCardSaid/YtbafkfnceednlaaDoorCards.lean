/-
  DERIVED. GIVEN WITH THE SEED: THE CARDS: each row of YtbafkfnceednlaaDoorRows.lean that lists a variable, with what it lists TIED to the program's text (the seventh form; the later family's looks); each row that meets fmt, with fmt's text TOLD by the authors' own Lean function (tested against real Go, not proved from fmt's source: count such statements apart). THE CARD IS WHAT COUNTS. Prove the row's statement (the work); the ties are given (YtbafkfnceednlaaDoorTie.lean); close each card by the builder's one call (the guide's Derived/Test/ToyasCard.lean, 'card_holds'). Laid BY PROGRAM, IN A SANDBOX (cutbox-door.mjs). By AI agents, Wed Nov 11 2026. No macro, syntax, notation, axiom, sorry.
-/
import Derived.Test.YtbafkfnceednlaaDoorRows
import GoSem.ClaimSeven
namespace Go.Proofs.YtbafkfnceednlaaDoor
namespace Rows

/-- THE TIED CARD OF 'attestlaw1.FieldMakes'. -/
def fieldMakesCard : Claim7 := { stood := { row := fieldMakesRow, standIns := [], harness := (true, "aed217d2c8083e2adc55f6af7ffee10875a3e7be5794dc3b0f3c302f1ee4c04d"), looks := true }, kinds := [], alts := [], laidByText := true, laidKinds := [.handle], laidTests := true, laidLooks := .later }
def FieldMakesCardSaid : Prop := Claim7.holds Tryd.pinned (.plain (OpenSpec.ofChange fieldMakesSpec)) fieldMakesCard

/-- THE TIED CARD OF 'attestlaw1.FieldReckons'. -/
def fieldReckonsCard : Claim7 := { stood := { row := fieldReckonsRow, standIns := [], harness := (true, "aed217d2c8083e2adc55f6af7ffee10875a3e7be5794dc3b0f3c302f1ee4c04d"), looks := true }, kinds := [], alts := [], laidByText := true, laidKinds := [.handle], laidTests := true, laidLooks := .later }
def FieldReckonsCardSaid : Prop := Claim7.holds Tryd.pinned (.plain (OpenSpec.ofChange fieldReckonsSpec)) fieldReckonsCard

/-- THE TIED CARD OF 'attestlaw1.FieldRoots'. -/
def fieldRootsCard : Claim7 := { stood := { row := fieldRootsRow, standIns := [], harness := (true, "aed217d2c8083e2adc55f6af7ffee10875a3e7be5794dc3b0f3c302f1ee4c04d"), looks := true }, kinds := [], alts := [], laidByText := true, laidKinds := [.handle], laidTests := true, laidLooks := .later }
def FieldRootsCardSaid : Prop := Claim7.holds Tryd.pinned (.plain (OpenSpec.ofChange fieldRootsSpec)) fieldRootsCard

/-- THE TIED CARD OF 'attestlaw1.FieldPowers'. -/
def fieldPowersCard : Claim7 := { stood := { row := fieldPowersRow, standIns := [], harness := (true, "aed217d2c8083e2adc55f6af7ffee10875a3e7be5794dc3b0f3c302f1ee4c04d"), looks := true }, kinds := [], alts := [], laidByText := true, laidKinds := [.handle], laidTests := true, laidLooks := .later }
def FieldPowersCardSaid : Prop := Claim7.holds Tryd.pinned (.plain (OpenSpec.ofChange fieldPowersSpec)) fieldPowersCard

/-- THE TIED CARD OF 'attestlaw1.FieldInvs'. -/
def fieldInvsCard : Claim7 := { stood := { row := fieldInvsRow, standIns := [], harness := (true, "aed217d2c8083e2adc55f6af7ffee10875a3e7be5794dc3b0f3c302f1ee4c04d"), looks := true }, kinds := [], alts := [], laidByText := true, laidKinds := [.handle], laidTests := true, laidLooks := .later }
def FieldInvsCardSaid : Prop := Claim7.holds Tryd.pinned (.plain (OpenSpec.ofChange fieldInvsSpec)) fieldInvsCard

/-- THE TIED CARD OF 'attestlaw1.FieldSquares'. -/
def fieldSquaresCard : Claim7 := { stood := { row := fieldSquaresRow, standIns := [], harness := (true, "aed217d2c8083e2adc55f6af7ffee10875a3e7be5794dc3b0f3c302f1ee4c04d"), looks := true }, kinds := [], alts := [], laidByText := true, laidKinds := [.handle], laidTests := true, laidLooks := .later }
def FieldSquaresCardSaid : Prop := Claim7.holds Tryd.pinned (.plain (OpenSpec.ofChange fieldSquaresSpec)) fieldSquaresCard

/-- THE TIED CARD OF 'attestlaw1.PolyDivides'. -/
def polyDividesCard : Claim7 := { stood := { row := polyDividesRow, standIns := [], harness := (true, "aed217d2c8083e2adc55f6af7ffee10875a3e7be5794dc3b0f3c302f1ee4c04d"), looks := true }, kinds := [], alts := [], laidByText := true, laidKinds := [.handle], laidTests := true, laidLooks := .later }
def PolyDividesCardSaid : Prop := Claim7.holds Tryd.pinned (.plain (OpenSpec.ofChange polyDividesSpec)) polyDividesCard

/-- THE TIED CARD OF 'attestlaw1.PolyEvals'. -/
def polyEvalsCard : Claim7 := { stood := { row := polyEvalsRow, standIns := [], harness := (true, "aed217d2c8083e2adc55f6af7ffee10875a3e7be5794dc3b0f3c302f1ee4c04d"), looks := true }, kinds := [], alts := [], laidByText := true, laidKinds := [.handle], laidTests := true, laidLooks := .later }
def PolyEvalsCardSaid : Prop := Claim7.holds Tryd.pinned (.plain (OpenSpec.ofChange polyEvalsSpec)) polyEvalsCard

/-- THE TIED CARD OF 'attestlaw1.PolyAdds'. -/
def polyAddsCard : Claim7 := { stood := { row := polyAddsRow, standIns := [], harness := (true, "aed217d2c8083e2adc55f6af7ffee10875a3e7be5794dc3b0f3c302f1ee4c04d"), looks := true }, kinds := [], alts := [], laidByText := true, laidKinds := [.handle], laidTests := true, laidLooks := .later }
def PolyAddsCardSaid : Prop := Claim7.holds Tryd.pinned (.plain (OpenSpec.ofChange polyAddsSpec)) polyAddsCard

/-- THE TIED CARD OF 'attestlaw1.PolyFits'. -/
def polyFitsCard : Claim7 := { stood := { row := polyFitsRow, standIns := [], harness := (true, "aed217d2c8083e2adc55f6af7ffee10875a3e7be5794dc3b0f3c302f1ee4c04d"), looks := true }, kinds := [], alts := [], laidByText := true, laidKinds := [.handle], laidTests := true, laidLooks := .later }
def PolyFitsCardSaid : Prop := Claim7.holds Tryd.pinned (.plain (OpenSpec.ofChange polyFitsSpec)) polyFitsCard

/-- THE TIED CARD OF 'attestlaw1.PolyGcds'. -/
def polyGcdsCard : Claim7 := { stood := { row := polyGcdsRow, standIns := [], harness := (true, "aed217d2c8083e2adc55f6af7ffee10875a3e7be5794dc3b0f3c302f1ee4c04d"), looks := true }, kinds := [], alts := [], laidByText := true, laidKinds := [.handle], laidTests := true, laidLooks := .later }
def PolyGcdsCardSaid : Prop := Claim7.holds Tryd.pinned (.plain (OpenSpec.ofChange polyGcdsSpec)) polyGcdsCard

/-- THE SECOND FORM's CARD OF 'attestlaw1.FieldMakes'. -/
def fieldMakesUptoCard : Claim7 := { stood := { row := fieldMakesUptoRow, standIns := [], harness := (true, "aed217d2c8083e2adc55f6af7ffee10875a3e7be5794dc3b0f3c302f1ee4c04d"), looks := true }, kinds := [], alts := [], laidByText := true, laidKinds := [.handle], laidTests := true, laidLooks := .later }
def FieldMakesUptoCardSaid : Prop := Claim7.holds Tryd.pinned (.plain (OpenSpec.upto fieldMakesSpec)) fieldMakesUptoCard

/-- THE SECOND FORM's CARD OF 'attestlaw1.FieldReckons'. -/
def fieldReckonsUptoCard : Claim7 := { stood := { row := fieldReckonsUptoRow, standIns := [], harness := (true, "aed217d2c8083e2adc55f6af7ffee10875a3e7be5794dc3b0f3c302f1ee4c04d"), looks := true }, kinds := [], alts := [], laidByText := true, laidKinds := [.handle], laidTests := true, laidLooks := .later }
def FieldReckonsUptoCardSaid : Prop := Claim7.holds Tryd.pinned (.plain (OpenSpec.upto fieldReckonsSpec)) fieldReckonsUptoCard

/-- THE SECOND FORM's CARD OF 'attestlaw1.FieldRoots'. -/
def fieldRootsUptoCard : Claim7 := { stood := { row := fieldRootsUptoRow, standIns := [], harness := (true, "aed217d2c8083e2adc55f6af7ffee10875a3e7be5794dc3b0f3c302f1ee4c04d"), looks := true }, kinds := [], alts := [], laidByText := true, laidKinds := [.handle], laidTests := true, laidLooks := .later }
def FieldRootsUptoCardSaid : Prop := Claim7.holds Tryd.pinned (.plain (OpenSpec.upto fieldRootsSpec)) fieldRootsUptoCard

/-- THE SECOND FORM's CARD OF 'attestlaw1.FieldPowers'. -/
def fieldPowersUptoCard : Claim7 := { stood := { row := fieldPowersUptoRow, standIns := [], harness := (true, "aed217d2c8083e2adc55f6af7ffee10875a3e7be5794dc3b0f3c302f1ee4c04d"), looks := true }, kinds := [], alts := [], laidByText := true, laidKinds := [.handle], laidTests := true, laidLooks := .later }
def FieldPowersUptoCardSaid : Prop := Claim7.holds Tryd.pinned (.plain (OpenSpec.upto fieldPowersSpec)) fieldPowersUptoCard

/-- THE SECOND FORM's CARD OF 'attestlaw1.FieldInvs'. -/
def fieldInvsUptoCard : Claim7 := { stood := { row := fieldInvsUptoRow, standIns := [], harness := (true, "aed217d2c8083e2adc55f6af7ffee10875a3e7be5794dc3b0f3c302f1ee4c04d"), looks := true }, kinds := [], alts := [], laidByText := true, laidKinds := [.handle], laidTests := true, laidLooks := .later }
def FieldInvsUptoCardSaid : Prop := Claim7.holds Tryd.pinned (.plain (OpenSpec.upto fieldInvsSpec)) fieldInvsUptoCard

/-- THE SECOND FORM's CARD OF 'attestlaw1.FieldSquares'. -/
def fieldSquaresUptoCard : Claim7 := { stood := { row := fieldSquaresUptoRow, standIns := [], harness := (true, "aed217d2c8083e2adc55f6af7ffee10875a3e7be5794dc3b0f3c302f1ee4c04d"), looks := true }, kinds := [], alts := [], laidByText := true, laidKinds := [.handle], laidTests := true, laidLooks := .later }
def FieldSquaresUptoCardSaid : Prop := Claim7.holds Tryd.pinned (.plain (OpenSpec.upto fieldSquaresSpec)) fieldSquaresUptoCard

/-- THE SECOND FORM's CARD OF 'attestlaw1.PolyDivides'. -/
def polyDividesUptoCard : Claim7 := { stood := { row := polyDividesUptoRow, standIns := [], harness := (true, "aed217d2c8083e2adc55f6af7ffee10875a3e7be5794dc3b0f3c302f1ee4c04d"), looks := true }, kinds := [], alts := [], laidByText := true, laidKinds := [.handle], laidTests := true, laidLooks := .later }
def PolyDividesUptoCardSaid : Prop := Claim7.holds Tryd.pinned (.plain (OpenSpec.upto polyDividesSpec)) polyDividesUptoCard

/-- THE SECOND FORM's CARD OF 'attestlaw1.PolyEvals'. -/
def polyEvalsUptoCard : Claim7 := { stood := { row := polyEvalsUptoRow, standIns := [], harness := (true, "aed217d2c8083e2adc55f6af7ffee10875a3e7be5794dc3b0f3c302f1ee4c04d"), looks := true }, kinds := [], alts := [], laidByText := true, laidKinds := [.handle], laidTests := true, laidLooks := .later }
def PolyEvalsUptoCardSaid : Prop := Claim7.holds Tryd.pinned (.plain (OpenSpec.upto polyEvalsSpec)) polyEvalsUptoCard

/-- THE SECOND FORM's CARD OF 'attestlaw1.PolyAdds'. -/
def polyAddsUptoCard : Claim7 := { stood := { row := polyAddsUptoRow, standIns := [], harness := (true, "aed217d2c8083e2adc55f6af7ffee10875a3e7be5794dc3b0f3c302f1ee4c04d"), looks := true }, kinds := [], alts := [], laidByText := true, laidKinds := [.handle], laidTests := true, laidLooks := .later }
def PolyAddsUptoCardSaid : Prop := Claim7.holds Tryd.pinned (.plain (OpenSpec.upto polyAddsSpec)) polyAddsUptoCard

/-- THE SECOND FORM's CARD OF 'attestlaw1.PolyFits'. -/
def polyFitsUptoCard : Claim7 := { stood := { row := polyFitsUptoRow, standIns := [], harness := (true, "aed217d2c8083e2adc55f6af7ffee10875a3e7be5794dc3b0f3c302f1ee4c04d"), looks := true }, kinds := [], alts := [], laidByText := true, laidKinds := [.handle], laidTests := true, laidLooks := .later }
def PolyFitsUptoCardSaid : Prop := Claim7.holds Tryd.pinned (.plain (OpenSpec.upto polyFitsSpec)) polyFitsUptoCard

/-- THE SECOND FORM's CARD OF 'attestlaw1.PolyGcds'. -/
def polyGcdsUptoCard : Claim7 := { stood := { row := polyGcdsUptoRow, standIns := [], harness := (true, "aed217d2c8083e2adc55f6af7ffee10875a3e7be5794dc3b0f3c302f1ee4c04d"), looks := true }, kinds := [], alts := [], laidByText := true, laidKinds := [.handle], laidTests := true, laidLooks := .later }
def PolyGcdsUptoCardSaid : Prop := Claim7.holds Tryd.pinned (.plain (OpenSpec.upto polyGcdsSpec)) polyGcdsUptoCard
end Rows
end Go.Proofs.YtbafkfnceednlaaDoor
