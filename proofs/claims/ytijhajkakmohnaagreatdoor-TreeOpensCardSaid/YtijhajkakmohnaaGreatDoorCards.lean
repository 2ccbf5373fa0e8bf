/-
  DERIVED. GIVEN WITH THE SEED: THE CARDS: each row of YtijhajkakmohnaaGreatDoorRows.lean that lists a variable, with what it lists TIED to the program's text (the seventh form; the later family's looks); each row that meets fmt, with fmt's text TOLD by the authors' own Lean function (tested against real Go, not proved from fmt's source: count such statements apart). THE CARD IS WHAT COUNTS. Prove the row's statement (the work); the ties are given (YtijhajkakmohnaaGreatDoorTie.lean); close each card by the builder's one call (the guide's Derived/Test/ToyasCard.lean, 'card_holds'). Laid BY PROGRAM, IN A SANDBOX (cutbox-door.mjs). By AI agents, Wed Nov 11 2026. No macro, syntax, notation, axiom, sorry.
-/
import Derived.Test.YtijhajkakmohnaaGreatDoorRows
import GoSem.ClaimSeven
namespace Go.Proofs.YtijhajkakmohnaaGreatDoor
namespace Rows

/-- THE TIED CARD OF 'attestlaw3.TreeChecks'. -/
def treeChecksCard : Claim7 := { stood := { row := treeChecksRow, standIns := [], harness := (true, "09b782932a73c85bb07656de0229e980ca67453cd68bdf48b86a0e9ff6f7968f"), looks := true }, kinds := [], alts := [], laidByText := true, laidKinds := [.handle], laidTests := true, laidLooks := .later }
def TreeChecksCardSaid : Prop := Claim7.holds Tryz.pinned (.plain (OpenSpec.ofChange treeChecksSpec)) treeChecksCard

/-- THE TIED CARD OF 'attestlaw3.TreeOpens'. -/
def treeOpensCard : Claim7 := { stood := { row := treeOpensRow, standIns := [], harness := (true, "09b782932a73c85bb07656de0229e980ca67453cd68bdf48b86a0e9ff6f7968f"), looks := true }, kinds := [], alts := [], laidByText := true, laidKinds := [.handle], laidTests := true, laidLooks := .later }
def TreeOpensCardSaid : Prop := Claim7.holds Tryz.pinned (.plain (OpenSpec.ofChange treeOpensSpec)) treeOpensCard

/-- THE TIED CARD OF 'attestlaw5.FoldChecks'. -/
def foldChecksCard : Claim7 := { stood := { row := foldChecksRow, standIns := [], harness := (true, "09b782932a73c85bb07656de0229e980ca67453cd68bdf48b86a0e9ff6f7968f"), looks := true }, kinds := [], alts := [], laidByText := true, laidKinds := [.handle], laidTests := true, laidLooks := .later }
def FoldChecksCardSaid : Prop := Claim7.holds Tryz.pinned (.plain (OpenSpec.ofChange foldChecksSpec)) foldChecksCard

/-- THE TIED CARD OF 'attestlaw5.FoldMakes'. -/
def foldMakesCard : Claim7 := { stood := { row := foldMakesRow, standIns := [], harness := (true, "09b782932a73c85bb07656de0229e980ca67453cd68bdf48b86a0e9ff6f7968f"), looks := true }, kinds := [], alts := [], laidByText := true, laidKinds := [.handle], laidTests := true, laidLooks := .later }
def FoldMakesCardSaid : Prop := Claim7.holds Tryz.pinned (.plain (OpenSpec.ofChange foldMakesSpec)) foldMakesCard

/-- THE SECOND FORM's CARD OF 'attestlaw3.TreeChecks'. -/
def treeChecksUptoCard : Claim7 := { stood := { row := treeChecksUptoRow, standIns := [], harness := (true, "09b782932a73c85bb07656de0229e980ca67453cd68bdf48b86a0e9ff6f7968f"), looks := true }, kinds := [], alts := [], laidByText := true, laidKinds := [.handle], laidTests := true, laidLooks := .later }
def TreeChecksUptoCardSaid : Prop := Claim7.holds Tryz.pinned (.plain (OpenSpec.upto treeChecksSpec)) treeChecksUptoCard

/-- THE SECOND FORM's CARD OF 'attestlaw3.TreeOpens'. -/
def treeOpensUptoCard : Claim7 := { stood := { row := treeOpensUptoRow, standIns := [], harness := (true, "09b782932a73c85bb07656de0229e980ca67453cd68bdf48b86a0e9ff6f7968f"), looks := true }, kinds := [], alts := [], laidByText := true, laidKinds := [.handle], laidTests := true, laidLooks := .later }
def TreeOpensUptoCardSaid : Prop := Claim7.holds Tryz.pinned (.plain (OpenSpec.upto treeOpensSpec)) treeOpensUptoCard

/-- THE SECOND FORM's CARD OF 'attestlaw5.FoldChecks'. -/
def foldChecksUptoCard : Claim7 := { stood := { row := foldChecksUptoRow, standIns := [], harness := (true, "09b782932a73c85bb07656de0229e980ca67453cd68bdf48b86a0e9ff6f7968f"), looks := true }, kinds := [], alts := [], laidByText := true, laidKinds := [.handle], laidTests := true, laidLooks := .later }
def FoldChecksUptoCardSaid : Prop := Claim7.holds Tryz.pinned (.plain (OpenSpec.upto foldChecksSpec)) foldChecksUptoCard

/-- THE SECOND FORM's CARD OF 'attestlaw5.FoldMakes'. -/
def foldMakesUptoCard : Claim7 := { stood := { row := foldMakesUptoRow, standIns := [], harness := (true, "09b782932a73c85bb07656de0229e980ca67453cd68bdf48b86a0e9ff6f7968f"), looks := true }, kinds := [], alts := [], laidByText := true, laidKinds := [.handle], laidTests := true, laidLooks := .later }
def FoldMakesUptoCardSaid : Prop := Claim7.holds Tryz.pinned (.plain (OpenSpec.upto foldMakesSpec)) foldMakesUptoCard
end Rows
end Go.Proofs.YtijhajkakmohnaaGreatDoor
