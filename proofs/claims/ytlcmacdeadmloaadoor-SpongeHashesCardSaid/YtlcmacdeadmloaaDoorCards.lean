/-
  DERIVED. GIVEN WITH THE SEED: THE CARDS: each row of YtlcmacdeadmloaaDoorRows.lean that lists a variable, with what it lists TIED to the program's text (the seventh form; the later family's looks); each row that meets fmt, with fmt's text TOLD by the authors' own Lean function (tested against real Go, not proved from fmt's source: count such statements apart). THE CARD IS WHAT COUNTS. Prove the row's statement (the work); the ties are given (YtlcmacdeadmloaaDoorTie.lean); close each card by the builder's one call (the guide's Derived/Test/ToyasCard.lean, 'card_holds'). Laid BY PROGRAM, IN A SANDBOX (cutbox-door.mjs). By AI agents, Wed Nov 11 2026. No macro, syntax, notation, axiom, sorry.
-/
import Derived.Test.YtlcmacdeadmloaaDoorRows
import GoSem.ClaimSeven
namespace Go.Proofs.YtlcmacdeadmloaaDoor
namespace Rows

/-- THE TIED CARD OF 'attestlaw3.SpongePads'. -/
def spongePadsCard : Claim7 := { stood := { row := spongePadsRow, standIns := [], harness := (true, "4db2c355cd50270750c9177a7895286230d2a02ac8ac40d0a49967617a7b6a89"), looks := true }, kinds := [], alts := [], laidByText := true, laidKinds := [.handle], laidTests := true, laidLooks := .later }
def SpongePadsCardSaid : Prop := Claim7.holds Tryd.pinned (.plain (OpenSpec.ofChange spongePadsSpec)) spongePadsCard

/-- THE TIED CARD OF 'attestlaw3.SpongeMakes'. -/
def spongeMakesCard : Claim7 := { stood := { row := spongeMakesRow, standIns := [], harness := (true, "4db2c355cd50270750c9177a7895286230d2a02ac8ac40d0a49967617a7b6a89"), looks := true }, kinds := [], alts := [], laidByText := true, laidKinds := [.handle], laidTests := true, laidLooks := .later }
def SpongeMakesCardSaid : Prop := Claim7.holds Tryd.pinned (.plain (OpenSpec.ofChange spongeMakesSpec)) spongeMakesCard

/-- THE TIED CARD OF 'attestlaw3.SpongeStirs'. -/
def spongeStirsCard : Claim7 := { stood := { row := spongeStirsRow, standIns := [], harness := (true, "4db2c355cd50270750c9177a7895286230d2a02ac8ac40d0a49967617a7b6a89"), looks := true }, kinds := [], alts := [], laidByText := true, laidKinds := [.handle], laidTests := true, laidLooks := .later }
def SpongeStirsCardSaid : Prop := Claim7.holds Tryd.pinned (.plain (OpenSpec.ofChange spongeStirsSpec)) spongeStirsCard

/-- THE TIED CARD OF 'attestlaw3.SpongeHashes'. -/
def spongeHashesCard : Claim7 := { stood := { row := spongeHashesRow, standIns := [], harness := (true, "4db2c355cd50270750c9177a7895286230d2a02ac8ac40d0a49967617a7b6a89"), looks := true }, kinds := [], alts := [], laidByText := true, laidKinds := [.handle], laidTests := true, laidLooks := .later }
def SpongeHashesCardSaid : Prop := Claim7.holds Tryd.pinned (.plain (OpenSpec.ofChange spongeHashesSpec)) spongeHashesCard

/-- THE TIED CARD OF 'attestlaw3.ChainDraws'. -/
def chainDrawsCard : Claim7 := { stood := { row := chainDrawsRow, standIns := [], harness := (true, "4db2c355cd50270750c9177a7895286230d2a02ac8ac40d0a49967617a7b6a89"), looks := true }, kinds := [], alts := [], laidByText := true, laidKinds := [.handle], laidTests := true, laidLooks := .later }
def ChainDrawsCardSaid : Prop := Claim7.holds Tryd.pinned (.plain (OpenSpec.ofChange chainDrawsSpec)) chainDrawsCard

/-- THE SECOND FORM's CARD OF 'attestlaw3.SpongePads'. -/
def spongePadsUptoCard : Claim7 := { stood := { row := spongePadsUptoRow, standIns := [], harness := (true, "4db2c355cd50270750c9177a7895286230d2a02ac8ac40d0a49967617a7b6a89"), looks := true }, kinds := [], alts := [], laidByText := true, laidKinds := [.handle], laidTests := true, laidLooks := .later }
def SpongePadsUptoCardSaid : Prop := Claim7.holds Tryd.pinned (.plain (OpenSpec.upto spongePadsSpec)) spongePadsUptoCard

/-- THE SECOND FORM's CARD OF 'attestlaw3.SpongeMakes'. -/
def spongeMakesUptoCard : Claim7 := { stood := { row := spongeMakesUptoRow, standIns := [], harness := (true, "4db2c355cd50270750c9177a7895286230d2a02ac8ac40d0a49967617a7b6a89"), looks := true }, kinds := [], alts := [], laidByText := true, laidKinds := [.handle], laidTests := true, laidLooks := .later }
def SpongeMakesUptoCardSaid : Prop := Claim7.holds Tryd.pinned (.plain (OpenSpec.upto spongeMakesSpec)) spongeMakesUptoCard

/-- THE SECOND FORM's CARD OF 'attestlaw3.SpongeStirs'. -/
def spongeStirsUptoCard : Claim7 := { stood := { row := spongeStirsUptoRow, standIns := [], harness := (true, "4db2c355cd50270750c9177a7895286230d2a02ac8ac40d0a49967617a7b6a89"), looks := true }, kinds := [], alts := [], laidByText := true, laidKinds := [.handle], laidTests := true, laidLooks := .later }
def SpongeStirsUptoCardSaid : Prop := Claim7.holds Tryd.pinned (.plain (OpenSpec.upto spongeStirsSpec)) spongeStirsUptoCard

/-- THE SECOND FORM's CARD OF 'attestlaw3.SpongeHashes'. -/
def spongeHashesUptoCard : Claim7 := { stood := { row := spongeHashesUptoRow, standIns := [], harness := (true, "4db2c355cd50270750c9177a7895286230d2a02ac8ac40d0a49967617a7b6a89"), looks := true }, kinds := [], alts := [], laidByText := true, laidKinds := [.handle], laidTests := true, laidLooks := .later }
def SpongeHashesUptoCardSaid : Prop := Claim7.holds Tryd.pinned (.plain (OpenSpec.upto spongeHashesSpec)) spongeHashesUptoCard

/-- THE SECOND FORM's CARD OF 'attestlaw3.ChainDraws'. -/
def chainDrawsUptoCard : Claim7 := { stood := { row := chainDrawsUptoRow, standIns := [], harness := (true, "4db2c355cd50270750c9177a7895286230d2a02ac8ac40d0a49967617a7b6a89"), looks := true }, kinds := [], alts := [], laidByText := true, laidKinds := [.handle], laidTests := true, laidLooks := .later }
def ChainDrawsUptoCardSaid : Prop := Claim7.holds Tryd.pinned (.plain (OpenSpec.upto chainDrawsSpec)) chainDrawsUptoCard
end Rows
end Go.Proofs.YtlcmacdeadmloaaDoor
