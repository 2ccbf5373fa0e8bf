/-
  DERIVED. GIVEN WITH THE SEED: THE CARDS: each row of YtgmkcmahbefcoaaDoorRows.lean that lists a variable, with what it lists TIED to the program's text (the seventh form; the later family's looks); each row that meets fmt, with fmt's text TOLD by the authors' own Lean function (tested against real Go, not proved from fmt's source: count such statements apart). THE CARD IS WHAT COUNTS. Prove the row's statement (the work); the ties are given (YtgmkcmahbefcoaaDoorTie.lean); close each card by the builder's one call (the guide's Derived/Test/ToyasCard.lean, 'card_holds'). Laid BY PROGRAM, IN A SANDBOX (cutbox-door.mjs). By AI agents, Wed Nov 11 2026. No macro, syntax, notation, axiom, sorry.
-/
import Derived.Test.YtgmkcmahbefcoaaDoorRows
import GoSem.ClaimSeven
namespace Go.Proofs.YtgmkcmahbefcoaaDoor
namespace Rows

/-- THE TIED CARD OF 'attestlaw4.SumsMakes'. -/
def sumsMakesCard : Claim7 := { stood := { row := sumsMakesRow, standIns := [], harness := (true, "9c5c9b91407272777b4b373fab2d8338b51eb94f4a1dff3ca1207a92bbfd0df6"), looks := true }, kinds := [], alts := [], laidByText := true, laidKinds := [.handle], laidTests := true, laidLooks := .later }
def SumsMakesCardSaid : Prop := Claim7.holds Tryd.pinned (.plain (OpenSpec.ofChange sumsMakesSpec)) sumsMakesCard

/-- THE TIED CARD OF 'attestlaw4.SumsChecks'. -/
def sumsChecksCard : Claim7 := { stood := { row := sumsChecksRow, standIns := [], harness := (true, "9c5c9b91407272777b4b373fab2d8338b51eb94f4a1dff3ca1207a92bbfd0df6"), looks := true }, kinds := [], alts := [], laidByText := true, laidKinds := [.handle], laidTests := true, laidLooks := .later }
def SumsChecksCardSaid : Prop := Claim7.holds Tryd.pinned (.plain (OpenSpec.ofChange sumsChecksSpec)) sumsChecksCard

/-- THE TIED CARD OF 'attestlaw5.FoldFolds'. -/
def foldFoldsCard : Claim7 := { stood := { row := foldFoldsRow, standIns := [], harness := (true, "9c5c9b91407272777b4b373fab2d8338b51eb94f4a1dff3ca1207a92bbfd0df6"), looks := true }, kinds := [], alts := [], laidByText := true, laidKinds := [.handle], laidTests := true, laidLooks := .later }
def FoldFoldsCardSaid : Prop := Claim7.holds Tryd.pinned (.plain (OpenSpec.ofChange foldFoldsSpec)) foldFoldsCard

/-- THE TIED CARD OF 'attestlaw2.CodeMends'. -/
def codeMendsCard : Claim7 := { stood := { row := codeMendsRow, standIns := [], harness := (true, "9c5c9b91407272777b4b373fab2d8338b51eb94f4a1dff3ca1207a92bbfd0df6"), looks := true }, kinds := [], alts := [], laidByText := true, laidKinds := [.handle], laidTests := true, laidLooks := .later }
def CodeMendsCardSaid : Prop := Claim7.holds Tryd.pinned (.plain (OpenSpec.ofChange codeMendsSpec)) codeMendsCard

/-- THE TIED CARD OF 'attestlaw2.CodeDecodes'. -/
def codeDecodesCard : Claim7 := { stood := { row := codeDecodesRow, standIns := [], harness := (true, "9c5c9b91407272777b4b373fab2d8338b51eb94f4a1dff3ca1207a92bbfd0df6"), looks := true }, kinds := [], alts := [], laidByText := true, laidKinds := [.handle], laidTests := true, laidLooks := .later }
def CodeDecodesCardSaid : Prop := Claim7.holds Tryd.pinned (.plain (OpenSpec.ofChange codeDecodesSpec)) codeDecodesCard

/-- THE SECOND FORM's CARD OF 'attestlaw4.SumsMakes'. -/
def sumsMakesUptoCard : Claim7 := { stood := { row := sumsMakesUptoRow, standIns := [], harness := (true, "9c5c9b91407272777b4b373fab2d8338b51eb94f4a1dff3ca1207a92bbfd0df6"), looks := true }, kinds := [], alts := [], laidByText := true, laidKinds := [.handle], laidTests := true, laidLooks := .later }
def SumsMakesUptoCardSaid : Prop := Claim7.holds Tryd.pinned (.plain (OpenSpec.upto sumsMakesSpec)) sumsMakesUptoCard

/-- THE SECOND FORM's CARD OF 'attestlaw4.SumsChecks'. -/
def sumsChecksUptoCard : Claim7 := { stood := { row := sumsChecksUptoRow, standIns := [], harness := (true, "9c5c9b91407272777b4b373fab2d8338b51eb94f4a1dff3ca1207a92bbfd0df6"), looks := true }, kinds := [], alts := [], laidByText := true, laidKinds := [.handle], laidTests := true, laidLooks := .later }
def SumsChecksUptoCardSaid : Prop := Claim7.holds Tryd.pinned (.plain (OpenSpec.upto sumsChecksSpec)) sumsChecksUptoCard

/-- THE SECOND FORM's CARD OF 'attestlaw5.FoldFolds'. -/
def foldFoldsUptoCard : Claim7 := { stood := { row := foldFoldsUptoRow, standIns := [], harness := (true, "9c5c9b91407272777b4b373fab2d8338b51eb94f4a1dff3ca1207a92bbfd0df6"), looks := true }, kinds := [], alts := [], laidByText := true, laidKinds := [.handle], laidTests := true, laidLooks := .later }
def FoldFoldsUptoCardSaid : Prop := Claim7.holds Tryd.pinned (.plain (OpenSpec.upto foldFoldsSpec)) foldFoldsUptoCard

/-- THE SECOND FORM's CARD OF 'attestlaw2.CodeMends'. -/
def codeMendsUptoCard : Claim7 := { stood := { row := codeMendsUptoRow, standIns := [], harness := (true, "9c5c9b91407272777b4b373fab2d8338b51eb94f4a1dff3ca1207a92bbfd0df6"), looks := true }, kinds := [], alts := [], laidByText := true, laidKinds := [.handle], laidTests := true, laidLooks := .later }
def CodeMendsUptoCardSaid : Prop := Claim7.holds Tryd.pinned (.plain (OpenSpec.upto codeMendsSpec)) codeMendsUptoCard

/-- THE SECOND FORM's CARD OF 'attestlaw2.CodeDecodes'. -/
def codeDecodesUptoCard : Claim7 := { stood := { row := codeDecodesUptoRow, standIns := [], harness := (true, "9c5c9b91407272777b4b373fab2d8338b51eb94f4a1dff3ca1207a92bbfd0df6"), looks := true }, kinds := [], alts := [], laidByText := true, laidKinds := [.handle], laidTests := true, laidLooks := .later }
def CodeDecodesUptoCardSaid : Prop := Claim7.holds Tryd.pinned (.plain (OpenSpec.upto codeDecodesSpec)) codeDecodesUptoCard
end Rows
end Go.Proofs.YtgmkcmahbefcoaaDoor
