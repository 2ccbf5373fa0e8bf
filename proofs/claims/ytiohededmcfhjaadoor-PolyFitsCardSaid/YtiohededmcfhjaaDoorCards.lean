/-
  DERIVED. GIVEN WITH THE SEED: THE CARDS: each row of YtiohededmcfhjaaDoorRows.lean that lists a variable, with what it lists TIED to the program's text (the seventh form; the later family's looks); each row that meets fmt, with fmt's text TOLD by the authors' own Lean function (tested against real Go, not proved from fmt's source: count such statements apart). THE CARD IS WHAT COUNTS. Prove the row's statement (the work); the ties are given (YtiohededmcfhjaaDoorTie.lean); close each card by the builder's one call (the guide's Derived/Test/ToyasCard.lean, 'card_holds'). Laid BY PROGRAM, IN A SANDBOX (cutbox-door.mjs). By AI agents, Wed Nov 11 2026. No macro, syntax, notation, axiom, sorry.
-/
import Derived.Test.YtiohededmcfhjaaDoorRows
import GoSem.ClaimSeven
namespace Go.Proofs.YtiohededmcfhjaaDoor
namespace Rows

/-- THE TIED CARD OF 'attestlaw1.PolyDivides'. -/
def polyDividesCard : Claim7 := { stood := { row := polyDividesRow, standIns := [], harness := (true, "af1f435293955f520989dfe154e285081ed9320e3711f090241e14a5b5e5338d"), looks := true }, kinds := [], alts := [], laidByText := true, laidKinds := [.handle], laidTests := true, laidLooks := .later }
def PolyDividesCardSaid : Prop := Claim7.holds Tryd.pinned (.plain (OpenSpec.ofChange polyDividesSpec)) polyDividesCard

/-- THE TIED CARD OF 'attestlaw1.PolyFits'. -/
def polyFitsCard : Claim7 := { stood := { row := polyFitsRow, standIns := [], harness := (true, "af1f435293955f520989dfe154e285081ed9320e3711f090241e14a5b5e5338d"), looks := true }, kinds := [], alts := [], laidByText := true, laidKinds := [.handle], laidTests := true, laidLooks := .later }
def PolyFitsCardSaid : Prop := Claim7.holds Tryd.pinned (.plain (OpenSpec.ofChange polyFitsSpec)) polyFitsCard

/-- THE TIED CARD OF 'attestlaw1.PolyGcds'. -/
def polyGcdsCard : Claim7 := { stood := { row := polyGcdsRow, standIns := [], harness := (true, "af1f435293955f520989dfe154e285081ed9320e3711f090241e14a5b5e5338d"), looks := true }, kinds := [], alts := [], laidByText := true, laidKinds := [.handle], laidTests := true, laidLooks := .later }
def PolyGcdsCardSaid : Prop := Claim7.holds Tryd.pinned (.plain (OpenSpec.ofChange polyGcdsSpec)) polyGcdsCard

/-- THE SECOND FORM's CARD OF 'attestlaw1.PolyDivides'. -/
def polyDividesUptoCard : Claim7 := { stood := { row := polyDividesUptoRow, standIns := [], harness := (true, "af1f435293955f520989dfe154e285081ed9320e3711f090241e14a5b5e5338d"), looks := true }, kinds := [], alts := [], laidByText := true, laidKinds := [.handle], laidTests := true, laidLooks := .later }
def PolyDividesUptoCardSaid : Prop := Claim7.holds Tryd.pinned (.plain (OpenSpec.upto polyDividesSpec)) polyDividesUptoCard

/-- THE SECOND FORM's CARD OF 'attestlaw1.PolyFits'. -/
def polyFitsUptoCard : Claim7 := { stood := { row := polyFitsUptoRow, standIns := [], harness := (true, "af1f435293955f520989dfe154e285081ed9320e3711f090241e14a5b5e5338d"), looks := true }, kinds := [], alts := [], laidByText := true, laidKinds := [.handle], laidTests := true, laidLooks := .later }
def PolyFitsUptoCardSaid : Prop := Claim7.holds Tryd.pinned (.plain (OpenSpec.upto polyFitsSpec)) polyFitsUptoCard

/-- THE SECOND FORM's CARD OF 'attestlaw1.PolyGcds'. -/
def polyGcdsUptoCard : Claim7 := { stood := { row := polyGcdsUptoRow, standIns := [], harness := (true, "af1f435293955f520989dfe154e285081ed9320e3711f090241e14a5b5e5338d"), looks := true }, kinds := [], alts := [], laidByText := true, laidKinds := [.handle], laidTests := true, laidLooks := .later }
def PolyGcdsUptoCardSaid : Prop := Claim7.holds Tryd.pinned (.plain (OpenSpec.upto polyGcdsSpec)) polyGcdsUptoCard
end Rows
end Go.Proofs.YtiohededmcfhjaaDoor
