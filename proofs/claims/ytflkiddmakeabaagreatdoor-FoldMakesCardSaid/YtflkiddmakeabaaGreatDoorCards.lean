/-
  DERIVED. GIVEN WITH THE SEED: THE CARDS: each row of YtflkiddmakeabaaGreatDoorRows.lean that lists a variable, with what it lists TIED to the program's text (the seventh form; the later family's looks); each row that meets fmt, with fmt's text TOLD by the authors' own Lean function (tested against real Go, not proved from fmt's source: count such statements apart). THE CARD IS WHAT COUNTS. Prove the row's statement (the work); the ties are given (YtflkiddmakeabaaGreatDoorTie.lean); close each card by the builder's one call (the guide's Derived/Test/ToyasCard.lean, 'card_holds'). Laid BY PROGRAM, IN A SANDBOX (cutbox-door.mjs). By AI agents, Wed Nov 11 2026. No macro, syntax, notation, axiom, sorry.
-/
import Derived.Test.YtflkiddmakeabaaGreatDoorRows
import GoSem.ClaimSeven
namespace Go.Proofs.YtflkiddmakeabaaGreatDoor
namespace Rows

/-- THE TIED CARD OF 'attestlaw5.FoldChecks'. -/
def foldChecksCard : Claim7 := { stood := { row := foldChecksRow, standIns := [], harness := (true, "537e45939b3aff5e2d5a02aaa761e197e46c5cefaef9badcd91ad98b625e8796"), looks := true }, kinds := [], alts := [], laidByText := true, laidKinds := [.handle], laidTests := true, laidLooks := .later }
def FoldChecksCardSaid : Prop := Claim7.holds Tryz.pinned (.plain (OpenSpec.ofChange foldChecksSpec)) foldChecksCard

/-- THE TIED CARD OF 'attestlaw5.FoldMakes'. -/
def foldMakesCard : Claim7 := { stood := { row := foldMakesRow, standIns := [], harness := (true, "537e45939b3aff5e2d5a02aaa761e197e46c5cefaef9badcd91ad98b625e8796"), looks := true }, kinds := [], alts := [], laidByText := true, laidKinds := [.handle], laidTests := true, laidLooks := .later }
def FoldMakesCardSaid : Prop := Claim7.holds Tryz.pinned (.plain (OpenSpec.ofChange foldMakesSpec)) foldMakesCard

/-- THE SECOND FORM's CARD OF 'attestlaw5.FoldChecks'. -/
def foldChecksUptoCard : Claim7 := { stood := { row := foldChecksUptoRow, standIns := [], harness := (true, "537e45939b3aff5e2d5a02aaa761e197e46c5cefaef9badcd91ad98b625e8796"), looks := true }, kinds := [], alts := [], laidByText := true, laidKinds := [.handle], laidTests := true, laidLooks := .later }
def FoldChecksUptoCardSaid : Prop := Claim7.holds Tryz.pinned (.plain (OpenSpec.upto foldChecksSpec)) foldChecksUptoCard

/-- THE SECOND FORM's CARD OF 'attestlaw5.FoldMakes'. -/
def foldMakesUptoCard : Claim7 := { stood := { row := foldMakesUptoRow, standIns := [], harness := (true, "537e45939b3aff5e2d5a02aaa761e197e46c5cefaef9badcd91ad98b625e8796"), looks := true }, kinds := [], alts := [], laidByText := true, laidKinds := [.handle], laidTests := true, laidLooks := .later }
def FoldMakesUptoCardSaid : Prop := Claim7.holds Tryz.pinned (.plain (OpenSpec.upto foldMakesSpec)) foldMakesUptoCard
end Rows
end Go.Proofs.YtflkiddmakeabaaGreatDoor
