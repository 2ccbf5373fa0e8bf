/-
  DERIVED. GIVEN WITH THE SEED: THE CARDS: each row of YtkhkoeibigpdnaaDoorRows.lean that lists a variable, with what it lists TIED to the program's text (the seventh form; the later family's looks); each row that meets fmt, with fmt's text TOLD by the authors' own Lean function (tested against real Go, not proved from fmt's source: count such statements apart). THE CARD IS WHAT COUNTS. Prove the row's statement (the work); the ties are given (YtkhkoeibigpdnaaDoorTie.lean); close each card by the builder's one call (the guide's Derived/Test/ToyasCard.lean, 'card_holds'). Laid BY PROGRAM, IN A SANDBOX (cutbox-door.mjs). By AI agents, Wed Nov 11 2026. No macro, syntax, notation, axiom, sorry.
-/
import Derived.Test.YtkhkoeibigpdnaaDoorRows
import GoSem.ClaimSeven
namespace Go.Proofs.YtkhkoeibigpdnaaDoor
namespace Rows

/-- THE TIED CARD OF 'attestlaw2.CodeCounts'. -/
def codeCountsCard : Claim7 := { stood := { row := codeCountsRow, standIns := [], harness := (true, "e86b9ce51231a2dfc6554c8ef5a78124f2e96540d727fb600816d9180db42a95"), looks := true }, kinds := [], alts := [], laidByText := true, laidKinds := [.handle], laidTests := true, laidLooks := .later }
def CodeCountsCardSaid : Prop := Claim7.holds Tryd.pinned (.plain (OpenSpec.ofChange codeCountsSpec)) codeCountsCard

/-- THE TIED CARD OF 'attestlaw2.DomainMakes'. -/
def domainMakesCard : Claim7 := { stood := { row := domainMakesRow, standIns := [], harness := (true, "e86b9ce51231a2dfc6554c8ef5a78124f2e96540d727fb600816d9180db42a95"), looks := true }, kinds := [], alts := [], laidByText := true, laidKinds := [.handle], laidTests := true, laidLooks := .later }
def DomainMakesCardSaid : Prop := Claim7.holds Tryd.pinned (.plain (OpenSpec.ofChange domainMakesSpec)) domainMakesCard

/-- THE TIED CARD OF 'attestlaw2.DomainValues'. -/
def domainValuesCard : Claim7 := { stood := { row := domainValuesRow, standIns := [], harness := (true, "e86b9ce51231a2dfc6554c8ef5a78124f2e96540d727fb600816d9180db42a95"), looks := true }, kinds := [], alts := [], laidByText := true, laidKinds := [.handle], laidTests := true, laidLooks := .later }
def DomainValuesCardSaid : Prop := Claim7.holds Tryd.pinned (.plain (OpenSpec.ofChange domainValuesSpec)) domainValuesCard

/-- THE TIED CARD OF 'attestlaw2.DomainBack'. -/
def domainBackCard : Claim7 := { stood := { row := domainBackRow, standIns := [], harness := (true, "e86b9ce51231a2dfc6554c8ef5a78124f2e96540d727fb600816d9180db42a95"), looks := true }, kinds := [], alts := [], laidByText := true, laidKinds := [.handle], laidTests := true, laidLooks := .later }
def DomainBackCardSaid : Prop := Claim7.holds Tryd.pinned (.plain (OpenSpec.ofChange domainBackSpec)) domainBackCard

/-- THE TIED CARD OF 'attestlaw2.CodeEncodes'. -/
def codeEncodesCard : Claim7 := { stood := { row := codeEncodesRow, standIns := [], harness := (true, "e86b9ce51231a2dfc6554c8ef5a78124f2e96540d727fb600816d9180db42a95"), looks := true }, kinds := [], alts := [], laidByText := true, laidKinds := [.handle], laidTests := true, laidLooks := .later }
def CodeEncodesCardSaid : Prop := Claim7.holds Tryd.pinned (.plain (OpenSpec.ofChange codeEncodesSpec)) codeEncodesCard

/-- THE TIED CARD OF 'attestlaw2.CodeMends'. -/
def codeMendsCard : Claim7 := { stood := { row := codeMendsRow, standIns := [], harness := (true, "e86b9ce51231a2dfc6554c8ef5a78124f2e96540d727fb600816d9180db42a95"), looks := true }, kinds := [], alts := [], laidByText := true, laidKinds := [.handle], laidTests := true, laidLooks := .later }
def CodeMendsCardSaid : Prop := Claim7.holds Tryd.pinned (.plain (OpenSpec.ofChange codeMendsSpec)) codeMendsCard

/-- THE TIED CARD OF 'attestlaw2.CodeDecodes'. -/
def codeDecodesCard : Claim7 := { stood := { row := codeDecodesRow, standIns := [], harness := (true, "e86b9ce51231a2dfc6554c8ef5a78124f2e96540d727fb600816d9180db42a95"), looks := true }, kinds := [], alts := [], laidByText := true, laidKinds := [.handle], laidTests := true, laidLooks := .later }
def CodeDecodesCardSaid : Prop := Claim7.holds Tryd.pinned (.plain (OpenSpec.ofChange codeDecodesSpec)) codeDecodesCard

/-- THE TIED CARD OF 'attestlaw4.SumsExtends'. -/
def sumsExtendsCard : Claim7 := { stood := { row := sumsExtendsRow, standIns := [], harness := (true, "e86b9ce51231a2dfc6554c8ef5a78124f2e96540d727fb600816d9180db42a95"), looks := true }, kinds := [], alts := [], laidByText := true, laidKinds := [.handle], laidTests := true, laidLooks := .later }
def SumsExtendsCardSaid : Prop := Claim7.holds Tryd.pinned (.plain (OpenSpec.ofChange sumsExtendsSpec)) sumsExtendsCard

/-- THE TIED CARD OF 'attestlaw4.SumsTotals'. -/
def sumsTotalsCard : Claim7 := { stood := { row := sumsTotalsRow, standIns := [], harness := (true, "e86b9ce51231a2dfc6554c8ef5a78124f2e96540d727fb600816d9180db42a95"), looks := true }, kinds := [], alts := [], laidByText := true, laidKinds := [.handle], laidTests := true, laidLooks := .later }
def SumsTotalsCardSaid : Prop := Claim7.holds Tryd.pinned (.plain (OpenSpec.ofChange sumsTotalsSpec)) sumsTotalsCard

/-- THE TIED CARD OF 'attestlaw4.SumsChecks'. -/
def sumsChecksCard : Claim7 := { stood := { row := sumsChecksRow, standIns := [], harness := (true, "e86b9ce51231a2dfc6554c8ef5a78124f2e96540d727fb600816d9180db42a95"), looks := true }, kinds := [], alts := [], laidByText := true, laidKinds := [.handle], laidTests := true, laidLooks := .later }
def SumsChecksCardSaid : Prop := Claim7.holds Tryd.pinned (.plain (OpenSpec.ofChange sumsChecksSpec)) sumsChecksCard

/-- THE TIED CARD OF 'attestlaw4.SumsMakes'. -/
def sumsMakesCard : Claim7 := { stood := { row := sumsMakesRow, standIns := [], harness := (true, "e86b9ce51231a2dfc6554c8ef5a78124f2e96540d727fb600816d9180db42a95"), looks := true }, kinds := [], alts := [], laidByText := true, laidKinds := [.handle], laidTests := true, laidLooks := .later }
def SumsMakesCardSaid : Prop := Claim7.holds Tryd.pinned (.plain (OpenSpec.ofChange sumsMakesSpec)) sumsMakesCard

/-- THE TIED CARD OF 'attestlaw5.FoldFolds'. -/
def foldFoldsCard : Claim7 := { stood := { row := foldFoldsRow, standIns := [], harness := (true, "e86b9ce51231a2dfc6554c8ef5a78124f2e96540d727fb600816d9180db42a95"), looks := true }, kinds := [], alts := [], laidByText := true, laidKinds := [.handle], laidTests := true, laidLooks := .later }
def FoldFoldsCardSaid : Prop := Claim7.holds Tryd.pinned (.plain (OpenSpec.ofChange foldFoldsSpec)) foldFoldsCard

/-- THE SECOND FORM's CARD OF 'attestlaw2.CodeCounts'. -/
def codeCountsUptoCard : Claim7 := { stood := { row := codeCountsUptoRow, standIns := [], harness := (true, "e86b9ce51231a2dfc6554c8ef5a78124f2e96540d727fb600816d9180db42a95"), looks := true }, kinds := [], alts := [], laidByText := true, laidKinds := [.handle], laidTests := true, laidLooks := .later }
def CodeCountsUptoCardSaid : Prop := Claim7.holds Tryd.pinned (.plain (OpenSpec.upto codeCountsSpec)) codeCountsUptoCard

/-- THE SECOND FORM's CARD OF 'attestlaw2.DomainMakes'. -/
def domainMakesUptoCard : Claim7 := { stood := { row := domainMakesUptoRow, standIns := [], harness := (true, "e86b9ce51231a2dfc6554c8ef5a78124f2e96540d727fb600816d9180db42a95"), looks := true }, kinds := [], alts := [], laidByText := true, laidKinds := [.handle], laidTests := true, laidLooks := .later }
def DomainMakesUptoCardSaid : Prop := Claim7.holds Tryd.pinned (.plain (OpenSpec.upto domainMakesSpec)) domainMakesUptoCard

/-- THE SECOND FORM's CARD OF 'attestlaw2.DomainValues'. -/
def domainValuesUptoCard : Claim7 := { stood := { row := domainValuesUptoRow, standIns := [], harness := (true, "e86b9ce51231a2dfc6554c8ef5a78124f2e96540d727fb600816d9180db42a95"), looks := true }, kinds := [], alts := [], laidByText := true, laidKinds := [.handle], laidTests := true, laidLooks := .later }
def DomainValuesUptoCardSaid : Prop := Claim7.holds Tryd.pinned (.plain (OpenSpec.upto domainValuesSpec)) domainValuesUptoCard

/-- THE SECOND FORM's CARD OF 'attestlaw2.DomainBack'. -/
def domainBackUptoCard : Claim7 := { stood := { row := domainBackUptoRow, standIns := [], harness := (true, "e86b9ce51231a2dfc6554c8ef5a78124f2e96540d727fb600816d9180db42a95"), looks := true }, kinds := [], alts := [], laidByText := true, laidKinds := [.handle], laidTests := true, laidLooks := .later }
def DomainBackUptoCardSaid : Prop := Claim7.holds Tryd.pinned (.plain (OpenSpec.upto domainBackSpec)) domainBackUptoCard

/-- THE SECOND FORM's CARD OF 'attestlaw2.CodeEncodes'. -/
def codeEncodesUptoCard : Claim7 := { stood := { row := codeEncodesUptoRow, standIns := [], harness := (true, "e86b9ce51231a2dfc6554c8ef5a78124f2e96540d727fb600816d9180db42a95"), looks := true }, kinds := [], alts := [], laidByText := true, laidKinds := [.handle], laidTests := true, laidLooks := .later }
def CodeEncodesUptoCardSaid : Prop := Claim7.holds Tryd.pinned (.plain (OpenSpec.upto codeEncodesSpec)) codeEncodesUptoCard

/-- THE SECOND FORM's CARD OF 'attestlaw2.CodeMends'. -/
def codeMendsUptoCard : Claim7 := { stood := { row := codeMendsUptoRow, standIns := [], harness := (true, "e86b9ce51231a2dfc6554c8ef5a78124f2e96540d727fb600816d9180db42a95"), looks := true }, kinds := [], alts := [], laidByText := true, laidKinds := [.handle], laidTests := true, laidLooks := .later }
def CodeMendsUptoCardSaid : Prop := Claim7.holds Tryd.pinned (.plain (OpenSpec.upto codeMendsSpec)) codeMendsUptoCard

/-- THE SECOND FORM's CARD OF 'attestlaw2.CodeDecodes'. -/
def codeDecodesUptoCard : Claim7 := { stood := { row := codeDecodesUptoRow, standIns := [], harness := (true, "e86b9ce51231a2dfc6554c8ef5a78124f2e96540d727fb600816d9180db42a95"), looks := true }, kinds := [], alts := [], laidByText := true, laidKinds := [.handle], laidTests := true, laidLooks := .later }
def CodeDecodesUptoCardSaid : Prop := Claim7.holds Tryd.pinned (.plain (OpenSpec.upto codeDecodesSpec)) codeDecodesUptoCard

/-- THE SECOND FORM's CARD OF 'attestlaw4.SumsExtends'. -/
def sumsExtendsUptoCard : Claim7 := { stood := { row := sumsExtendsUptoRow, standIns := [], harness := (true, "e86b9ce51231a2dfc6554c8ef5a78124f2e96540d727fb600816d9180db42a95"), looks := true }, kinds := [], alts := [], laidByText := true, laidKinds := [.handle], laidTests := true, laidLooks := .later }
def SumsExtendsUptoCardSaid : Prop := Claim7.holds Tryd.pinned (.plain (OpenSpec.upto sumsExtendsSpec)) sumsExtendsUptoCard

/-- THE SECOND FORM's CARD OF 'attestlaw4.SumsTotals'. -/
def sumsTotalsUptoCard : Claim7 := { stood := { row := sumsTotalsUptoRow, standIns := [], harness := (true, "e86b9ce51231a2dfc6554c8ef5a78124f2e96540d727fb600816d9180db42a95"), looks := true }, kinds := [], alts := [], laidByText := true, laidKinds := [.handle], laidTests := true, laidLooks := .later }
def SumsTotalsUptoCardSaid : Prop := Claim7.holds Tryd.pinned (.plain (OpenSpec.upto sumsTotalsSpec)) sumsTotalsUptoCard

/-- THE SECOND FORM's CARD OF 'attestlaw4.SumsChecks'. -/
def sumsChecksUptoCard : Claim7 := { stood := { row := sumsChecksUptoRow, standIns := [], harness := (true, "e86b9ce51231a2dfc6554c8ef5a78124f2e96540d727fb600816d9180db42a95"), looks := true }, kinds := [], alts := [], laidByText := true, laidKinds := [.handle], laidTests := true, laidLooks := .later }
def SumsChecksUptoCardSaid : Prop := Claim7.holds Tryd.pinned (.plain (OpenSpec.upto sumsChecksSpec)) sumsChecksUptoCard

/-- THE SECOND FORM's CARD OF 'attestlaw4.SumsMakes'. -/
def sumsMakesUptoCard : Claim7 := { stood := { row := sumsMakesUptoRow, standIns := [], harness := (true, "e86b9ce51231a2dfc6554c8ef5a78124f2e96540d727fb600816d9180db42a95"), looks := true }, kinds := [], alts := [], laidByText := true, laidKinds := [.handle], laidTests := true, laidLooks := .later }
def SumsMakesUptoCardSaid : Prop := Claim7.holds Tryd.pinned (.plain (OpenSpec.upto sumsMakesSpec)) sumsMakesUptoCard

/-- THE SECOND FORM's CARD OF 'attestlaw5.FoldFolds'. -/
def foldFoldsUptoCard : Claim7 := { stood := { row := foldFoldsUptoRow, standIns := [], harness := (true, "e86b9ce51231a2dfc6554c8ef5a78124f2e96540d727fb600816d9180db42a95"), looks := true }, kinds := [], alts := [], laidByText := true, laidKinds := [.handle], laidTests := true, laidLooks := .later }
def FoldFoldsUptoCardSaid : Prop := Claim7.holds Tryd.pinned (.plain (OpenSpec.upto foldFoldsSpec)) foldFoldsUptoCard
end Rows
end Go.Proofs.YtkhkoeibigpdnaaDoor
