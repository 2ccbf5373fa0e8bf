/-
  No cell of these rows narrows 'for every input' (looked for: loops, veiled, ifaces, maps, wideKeys, modest, calm, conditions, laid).
  DERIVED. THE GIVEN ROWS OF THIS SEAT. 4 by the template 'for every input the law returns true; each argument reads behind the call as it read before'; 0 by the template 'total and deterministic' (their statements: YtabhndfdioimcaaTotals.lean).
  GIVEN WITH THE SEED: the statements are not yours to turn. If you find one false, say at which input.
  Laid BY PROGRAM, IN A SANDBOX (cutbox-rows.mjs): the forced cells as the released guide's own fill.sh prints them over the translation 6998f18e90f35d09… (all of the seat's roots in one cut). By AI agents, Wed Nov 11 2026. No macro, syntax, notation, axiom, sorry.
-/
import Derived.Test.YtabhndfdioimcaaChecked
import GoSem.Claim
import GoSem.ClaimJoined
import GoSem.ClaimMapViews
import Derived.JoinedTies
import Derived.KernelRfl
namespace Go.Proofs.Ytabhndfdioimcaa
/- THE CELL 'sum', in the pinned program and in every row, IS THE sha256 OF THE DUMP (.gsa) THAT YtabhndfdioimcaaProg.lean LOADS. Nothing in Lean hashes anything: it is a label: what it is worth is what the hold of that sum in a sandbox is worth. -/
noncomputable def Try.pinned : Pinned := { name := "ytabhndfdioimcaa", sum := "6998f18e90f35d09b4da218ee4dbc055fd896af25798ba78cd08c1dd3cf60ad7", checked := Try.checked }
namespace Rows
def none {H : Type} : Left H := { results := [], args := [] }

/-- 'attestlaw3.SpongeSpreads': WHATEVER THE INPUT: true; the input reads as it did. -/
def spongeSpreadsSpec : ChangeSpec := { name := "spongeSpreads", fn := fun _ => fun
  | [d1, d2, d3] => { results := [.lit (.bool true)], args := [d1, d2, d3] }
  | _ => none }
def spongeSpreadsRow : OpenClaim := { program := "ytabhndfdioimcaa", sum := "6998f18e90f35d09b4da218ee4dbc055fd896af25798ba78cd08c1dd3cf60ad7", func := "attest/attestlaw3.SpongeSpreads", spec := "spongeSpreads", unfollowed := true, recurses := true, apart := false }
def SpongeSpreadsSaid : Prop := spongeSpreadsRow.holds Try.pinned (OpenSpec.ofChange spongeSpreadsSpec)

/-- ITS FALSE NEIGHBOUR: 'it returns false'. Refute it at one input. -/
def spongeSpreadsWrong : ChangeSpec := { name := "spongeSpreads", fn := fun _ => fun
  | [d1, d2, d3] => { results := [.lit (.bool false)], args := [d1, d2, d3] }
  | _ => none }
def SpongeSpreadsWrongFalsely : Prop := spongeSpreadsRow.holds Try.pinned (OpenSpec.ofChange spongeSpreadsWrong)

/-- 'attestlaw3.SpongeBack': WHATEVER THE INPUT: true; the input reads as it did. -/
def spongeBackSpec : ChangeSpec := { name := "spongeBack", fn := fun _ => fun
  | [d1, d2] => { results := [.lit (.bool true)], args := [d1, d2] }
  | _ => none }
def spongeBackRow : OpenClaim := { program := "ytabhndfdioimcaa", sum := "6998f18e90f35d09b4da218ee4dbc055fd896af25798ba78cd08c1dd3cf60ad7", func := "attest/attestlaw3.SpongeBack", spec := "spongeBack", unfollowed := true, recurses := true, apart := false }
def SpongeBackSaid : Prop := spongeBackRow.holds Try.pinned (OpenSpec.ofChange spongeBackSpec)

/-- ITS FALSE NEIGHBOUR: 'it returns false'. Refute it at one input. -/
def spongeBackWrong : ChangeSpec := { name := "spongeBack", fn := fun _ => fun
  | [d1, d2] => { results := [.lit (.bool false)], args := [d1, d2] }
  | _ => none }
def SpongeBackWrongFalsely : Prop := spongeBackRow.holds Try.pinned (OpenSpec.ofChange spongeBackWrong)

/-- 'attestlaw3.ChainForks': WHATEVER THE INPUT: true; the input reads as it did. -/
def chainForksSpec : ChangeSpec := { name := "chainForks", fn := fun _ => fun
  | [d1, d2, d3, d4, d5] => { results := [.lit (.bool true)], args := [d1, d2, d3, d4, d5] }
  | _ => none }
def chainForksRow : OpenClaim := { program := "ytabhndfdioimcaa", sum := "6998f18e90f35d09b4da218ee4dbc055fd896af25798ba78cd08c1dd3cf60ad7", func := "attest/attestlaw3.ChainForks", spec := "chainForks", unfollowed := true, recurses := true, apart := false }
def ChainForksSaid : Prop := chainForksRow.holds Try.pinned (OpenSpec.ofChange chainForksSpec)

/-- ITS FALSE NEIGHBOUR: 'it returns false'. Refute it at one input. -/
def chainForksWrong : ChangeSpec := { name := "chainForks", fn := fun _ => fun
  | [d1, d2, d3, d4, d5] => { results := [.lit (.bool false)], args := [d1, d2, d3, d4, d5] }
  | _ => none }
def ChainForksWrongFalsely : Prop := chainForksRow.holds Try.pinned (OpenSpec.ofChange chainForksWrong)

/-- 'attestlaw4.SumsTrue': WHATEVER THE INPUT: true; the input reads as it did. -/
def sumsTrueSpec : ChangeSpec := { name := "sumsTrue", fn := fun _ => fun
  | [d1, d2, d3] => { results := [.lit (.bool true)], args := [d1, d2, d3] }
  | _ => none }
def sumsTrueRow : OpenClaim := { program := "ytabhndfdioimcaa", sum := "6998f18e90f35d09b4da218ee4dbc055fd896af25798ba78cd08c1dd3cf60ad7", func := "attest/attestlaw4.SumsTrue", spec := "sumsTrue", unfollowed := true, recurses := true, apart := false }
def SumsTrueSaid : Prop := sumsTrueRow.holds Try.pinned (OpenSpec.ofChange sumsTrueSpec)

/-- ITS FALSE NEIGHBOUR: 'it returns false'. Refute it at one input. -/
def sumsTrueWrong : ChangeSpec := { name := "sumsTrue", fn := fun _ => fun
  | [d1, d2, d3] => { results := [.lit (.bool false)], args := [d1, d2, d3] }
  | _ => none }
def SumsTrueWrongFalsely : Prop := sumsTrueRow.holds Try.pinned (OpenSpec.ofChange sumsTrueWrong)

/- THE SECOND FORM. 'bulk': how many values and letters a reading holds, each counted each time it is reached (what is shared counts as often as it is met; a slice's spare places count too). A statement '..UptoSaid' is the law's where the arguments, and the package variables that the reading takes, are together of bulk at most 1048576: NARROWER than '..Said'. Prove '..Said' where nothing that the law and all that it calls make is longer than what came in: it says more and counts as full. Else prove '..UptoSaid'. A law counts once. -/
mutual
def uptoBulk {H : Type} : DataW H → Nat
  | .lit (.string bytes) => bytes.length + 1
  | .lit _ => 1
  | .nil => 1
  | .ptr d => uptoBulk d + 1
  | .slice elems spare => uptoBulkAll elems + uptoBulkAll spare + 1
  | .agg parts => uptoBulkAll parts + 1
  | .iface _ d => uptoBulk d + 1
  | .map entries => uptoBulkEntries entries + 1
  | .held _ => 1
def uptoBulkAll {H : Type} : List (DataW H) → Nat
  | [] => 0
  | d :: r => uptoBulk d + uptoBulkAll r
def uptoBulkEntries {H : Type} : List (Lit × DataW H) → Nat
  | [] => 0
  | x :: r => uptoBulkEntry x + uptoBulkEntries r
def uptoBulkEntry {H : Type} : Lit × DataW H → Nat
  | (.string bytes, d) => bytes.length + uptoBulk d + 1
  | (_, d) => uptoBulk d + 1
 end
def uptoSmall : (H : Type) → List (DataW H) → Bool := fun _ ds => decide (uptoBulkAll ds ≤ 1048576)
def OpenSpec.upto (s : _root_.Go.ChangeSpec) : _root_.Go.OpenSpec := { _root_.Go.OpenSpec.ofChange s with cond := some uptoSmall }

/-- 'attestlaw3.SpongeSpreads', WHERE WHAT IT READS IS OF BULK AT MOST 1048576: true; the input reads as it did. -/
def spongeSpreadsUptoRow : OpenClaim := { program := "ytabhndfdioimcaa", sum := "6998f18e90f35d09b4da218ee4dbc055fd896af25798ba78cd08c1dd3cf60ad7", func := "attest/attestlaw3.SpongeSpreads", spec := "spongeSpreads", unfollowed := true, recurses := true, apart := false, narrowed := true }
def SpongeSpreadsUptoSaid : Prop := spongeSpreadsUptoRow.holds Try.pinned (OpenSpec.upto spongeSpreadsSpec)

/-- 'attestlaw3.SpongeBack', WHERE WHAT IT READS IS OF BULK AT MOST 1048576: true; the input reads as it did. -/
def spongeBackUptoRow : OpenClaim := { program := "ytabhndfdioimcaa", sum := "6998f18e90f35d09b4da218ee4dbc055fd896af25798ba78cd08c1dd3cf60ad7", func := "attest/attestlaw3.SpongeBack", spec := "spongeBack", unfollowed := true, recurses := true, apart := false, narrowed := true }
def SpongeBackUptoSaid : Prop := spongeBackUptoRow.holds Try.pinned (OpenSpec.upto spongeBackSpec)

/-- 'attestlaw3.ChainForks', WHERE WHAT IT READS IS OF BULK AT MOST 1048576: true; the input reads as it did. -/
def chainForksUptoRow : OpenClaim := { program := "ytabhndfdioimcaa", sum := "6998f18e90f35d09b4da218ee4dbc055fd896af25798ba78cd08c1dd3cf60ad7", func := "attest/attestlaw3.ChainForks", spec := "chainForks", unfollowed := true, recurses := true, apart := false, narrowed := true }
def ChainForksUptoSaid : Prop := chainForksUptoRow.holds Try.pinned (OpenSpec.upto chainForksSpec)

/-- 'attestlaw4.SumsTrue', WHERE WHAT IT READS IS OF BULK AT MOST 1048576: true; the input reads as it did. -/
def sumsTrueUptoRow : OpenClaim := { program := "ytabhndfdioimcaa", sum := "6998f18e90f35d09b4da218ee4dbc055fd896af25798ba78cd08c1dd3cf60ad7", func := "attest/attestlaw4.SumsTrue", spec := "sumsTrue", unfollowed := true, recurses := true, apart := false, narrowed := true }
def SumsTrueUptoSaid : Prop := sumsTrueUptoRow.holds Try.pinned (OpenSpec.upto sumsTrueSpec)

end Rows
end Go.Proofs.Ytabhndfdioimcaa
