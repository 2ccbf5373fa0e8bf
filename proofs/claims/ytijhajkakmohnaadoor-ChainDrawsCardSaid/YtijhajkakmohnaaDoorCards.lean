/-
  DERIVED. GIVEN WITH THE SEED: THE CARDS: each row of YtijhajkakmohnaaDoorRows.lean that lists a variable, with what it lists TIED to the program's text (the seventh form; the later family's looks); each row that meets fmt, with fmt's text TOLD by the authors' own Lean function (tested against real Go, not proved from fmt's source: count such statements apart). THE CARD IS WHAT COUNTS. Prove the row's statement (the work); the ties are given (YtijhajkakmohnaaDoorTie.lean); close each card by the builder's one call (the guide's Derived/Test/ToyasCard.lean, 'card_holds'). Laid BY PROGRAM, IN A SANDBOX (cutbox-door.mjs). By AI agents, Wed Nov 11 2026. No macro, syntax, notation, axiom, sorry.
-/
import Derived.Test.YtijhajkakmohnaaDoorRows
import GoSem.ClaimSeven
namespace Go.Proofs.YtijhajkakmohnaaDoor
namespace Rows

/-- THE TIED CARD OF 'attestlaw3.ChainDraws'. -/
def chainDrawsCard : Claim7 := { stood := { row := chainDrawsRow, standIns := [], harness := (true, "4201ac564ac84d7db300fa266038746a098102495ee1aedbb89d8a7d1c64aefd"), looks := true }, kinds := [], alts := [], laidByText := true, laidKinds := [.handle], laidTests := true, laidLooks := .later }
def ChainDrawsCardSaid : Prop := Claim7.holds Tryd.pinned (.plain (OpenSpec.ofChange chainDrawsSpec)) chainDrawsCard

/-- THE SECOND FORM's CARD OF 'attestlaw3.ChainDraws'. -/
def chainDrawsUptoCard : Claim7 := { stood := { row := chainDrawsUptoRow, standIns := [], harness := (true, "4201ac564ac84d7db300fa266038746a098102495ee1aedbb89d8a7d1c64aefd"), looks := true }, kinds := [], alts := [], laidByText := true, laidKinds := [.handle], laidTests := true, laidLooks := .later }
def ChainDrawsUptoCardSaid : Prop := Claim7.holds Tryd.pinned (.plain (OpenSpec.upto chainDrawsSpec)) chainDrawsUptoCard
end Rows
end Go.Proofs.YtijhajkakmohnaaDoor
