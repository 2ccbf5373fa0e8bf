/-
  NARROWER THAN 'FOR EVERY INPUT', by the rows' own cells (each row's printed sentence says how): SpongePads: laid · SpongeMakes: laid · SpongeStirs: laid · SpongeHashes: laid · ChainDraws: laid.
  DERIVED. THE GIVEN ROWS OF THIS SEAT. 5 by the template 'for every input the law returns true; each argument reads behind the call as it read before'; 0 by the template 'total and deterministic' (their statements: YtlcmacdeadmloaaDoorTotals.lean).
  GIVEN WITH THE SEED: the statements are not yours to turn. If you find one false, say at which input.
  Laid BY PROGRAM, IN A SANDBOX (cutbox-rows.mjs): the forced cells as the released guide's own fill.sh prints them over the translation 8efe8637b90b586c… (all of the seat's roots in one cut). By AI agents, Wed Nov 11 2026. No macro, syntax, notation, axiom, sorry.
-/
import Derived.Test.YtlcmacdeadmloaaDoorChecked
import GoSem.Claim
import GoSem.ClaimJoined
import GoSem.ClaimMapViews
import Derived.JoinedTies
import Derived.KernelRfl
namespace Go.Proofs.YtlcmacdeadmloaaDoor
/- THE CELL 'sum', in the pinned program and in every row, IS THE sha256 OF THE DUMP (.gsa) THAT YtlcmacdeadmloaaDoorProg.lean LOADS. Nothing in Lean hashes anything: it is a label: what it is worth is what the hold of that sum in a sandbox is worth. -/
noncomputable def Tryd.pinned : Pinned := { name := "ytlcmacdeadmloaadoor", sum := "8efe8637b90b586c3d94f05c299c934cd97599470180726e316172fd3f7aac0a", checked := Tryd.checked }
namespace Rows
def none {H : Type} : Left H := { results := [], args := [] }

/- WHAT THE LISTED PACKAGE-LEVEL VARIABLES READ AS WHEN THE CALL BEGINS. Each datum BY PROGRAM (the guide's laid-datum.mjs) off the statement by which the dump's own 'gosem.cut.vars' lays the variable. In a bare row this is a premise. The card (YtlcmacdeadmloaaDoorCards.lean) ties it to the program's text. -/
def laid_errors_errorType {H : Type} : DataW H := .iface "internal/reflectlite.rtype" (.agg [.ptr (.lit (.string [101, 114, 114, 111, 114]))])

/-- 'attestlaw3.SpongePads': WHATEVER THE INPUT: true; the input reads as it did. -/
def spongePadsSpec : ChangeSpec := { name := "spongePads", fn := fun _ => fun
  | [d1, d2, d3] => { results := [.lit (.bool true)], args := [d1, d2, d3] }
  | _ => none }
def spongePadsRow : OpenClaim := { program := "ytlcmacdeadmloaadoor", sum := "8efe8637b90b586c3d94f05c299c934cd97599470180726e316172fd3f7aac0a", func := "attest/attestlaw3.SpongePads", spec := "spongePads", inPlace := ["internal/reflectlite.ValueOf", "(internal/reflectlite.Value).Type", "(internal/reflectlite.Value).IsNil", "internal/reflectlite.TypeOf", "(internal/reflectlite.Value).Elem", "(internal/reflectlite.Value).Set"], unfollowed := true, recurses := true, named := ["errors.errorType"], apart := false, laid := [("errors.errorType", laid_errors_errorType)] }
def SpongePadsSaid : Prop := spongePadsRow.holds Tryd.pinned (OpenSpec.ofChange spongePadsSpec)

/-- ITS FALSE NEIGHBOUR: 'it returns false'. Refute it at one input. -/
def spongePadsWrong : ChangeSpec := { name := "spongePads", fn := fun _ => fun
  | [d1, d2, d3] => { results := [.lit (.bool false)], args := [d1, d2, d3] }
  | _ => none }
def SpongePadsWrongFalsely : Prop := spongePadsRow.holds Tryd.pinned (OpenSpec.ofChange spongePadsWrong)

/-- 'attestlaw3.SpongeMakes': WHATEVER THE INPUT: true; the input reads as it did. -/
def spongeMakesSpec : ChangeSpec := { name := "spongeMakes", fn := fun _ => fun
  | [d1, d2, d3] => { results := [.lit (.bool true)], args := [d1, d2, d3] }
  | _ => none }
def spongeMakesRow : OpenClaim := { program := "ytlcmacdeadmloaadoor", sum := "8efe8637b90b586c3d94f05c299c934cd97599470180726e316172fd3f7aac0a", func := "attest/attestlaw3.SpongeMakes", spec := "spongeMakes", inPlace := ["internal/reflectlite.ValueOf", "(internal/reflectlite.Value).Type", "(internal/reflectlite.Value).IsNil", "internal/reflectlite.TypeOf", "(internal/reflectlite.Value).Elem", "(internal/reflectlite.Value).Set"], unfollowed := true, recurses := true, named := ["errors.errorType"], apart := false, laid := [("errors.errorType", laid_errors_errorType)] }
def SpongeMakesSaid : Prop := spongeMakesRow.holds Tryd.pinned (OpenSpec.ofChange spongeMakesSpec)

/-- ITS FALSE NEIGHBOUR: 'it returns false'. Refute it at one input. -/
def spongeMakesWrong : ChangeSpec := { name := "spongeMakes", fn := fun _ => fun
  | [d1, d2, d3] => { results := [.lit (.bool false)], args := [d1, d2, d3] }
  | _ => none }
def SpongeMakesWrongFalsely : Prop := spongeMakesRow.holds Tryd.pinned (OpenSpec.ofChange spongeMakesWrong)

/-- 'attestlaw3.SpongeStirs': WHATEVER THE INPUT: true; the input reads as it did. -/
def spongeStirsSpec : ChangeSpec := { name := "spongeStirs", fn := fun _ => fun
  | [d1, d2] => { results := [.lit (.bool true)], args := [d1, d2] }
  | _ => none }
def spongeStirsRow : OpenClaim := { program := "ytlcmacdeadmloaadoor", sum := "8efe8637b90b586c3d94f05c299c934cd97599470180726e316172fd3f7aac0a", func := "attest/attestlaw3.SpongeStirs", spec := "spongeStirs", inPlace := ["internal/reflectlite.ValueOf", "(internal/reflectlite.Value).Type", "(internal/reflectlite.Value).IsNil", "internal/reflectlite.TypeOf", "(internal/reflectlite.Value).Elem", "(internal/reflectlite.Value).Set"], unfollowed := true, recurses := true, named := ["errors.errorType"], apart := false, laid := [("errors.errorType", laid_errors_errorType)] }
def SpongeStirsSaid : Prop := spongeStirsRow.holds Tryd.pinned (OpenSpec.ofChange spongeStirsSpec)

/-- ITS FALSE NEIGHBOUR: 'it returns false'. Refute it at one input. -/
def spongeStirsWrong : ChangeSpec := { name := "spongeStirs", fn := fun _ => fun
  | [d1, d2] => { results := [.lit (.bool false)], args := [d1, d2] }
  | _ => none }
def SpongeStirsWrongFalsely : Prop := spongeStirsRow.holds Tryd.pinned (OpenSpec.ofChange spongeStirsWrong)

/-- 'attestlaw3.SpongeHashes': WHATEVER THE INPUT: true; the input reads as it did. -/
def spongeHashesSpec : ChangeSpec := { name := "spongeHashes", fn := fun _ => fun
  | [d1, d2] => { results := [.lit (.bool true)], args := [d1, d2] }
  | _ => none }
def spongeHashesRow : OpenClaim := { program := "ytlcmacdeadmloaadoor", sum := "8efe8637b90b586c3d94f05c299c934cd97599470180726e316172fd3f7aac0a", func := "attest/attestlaw3.SpongeHashes", spec := "spongeHashes", inPlace := ["internal/reflectlite.ValueOf", "(internal/reflectlite.Value).Type", "(internal/reflectlite.Value).IsNil", "internal/reflectlite.TypeOf", "(internal/reflectlite.Value).Elem", "(internal/reflectlite.Value).Set"], unfollowed := true, recurses := true, named := ["errors.errorType"], apart := false, laid := [("errors.errorType", laid_errors_errorType)] }
def SpongeHashesSaid : Prop := spongeHashesRow.holds Tryd.pinned (OpenSpec.ofChange spongeHashesSpec)

/-- ITS FALSE NEIGHBOUR: 'it returns false'. Refute it at one input. -/
def spongeHashesWrong : ChangeSpec := { name := "spongeHashes", fn := fun _ => fun
  | [d1, d2] => { results := [.lit (.bool false)], args := [d1, d2] }
  | _ => none }
def SpongeHashesWrongFalsely : Prop := spongeHashesRow.holds Tryd.pinned (OpenSpec.ofChange spongeHashesWrong)

/-- 'attestlaw3.ChainDraws': WHATEVER THE INPUT: true; the input reads as it did. -/
def chainDrawsSpec : ChangeSpec := { name := "chainDraws", fn := fun _ => fun
  | [d1, d2, d3] => { results := [.lit (.bool true)], args := [d1, d2, d3] }
  | _ => none }
def chainDrawsRow : OpenClaim := { program := "ytlcmacdeadmloaadoor", sum := "8efe8637b90b586c3d94f05c299c934cd97599470180726e316172fd3f7aac0a", func := "attest/attestlaw3.ChainDraws", spec := "chainDraws", inPlace := ["internal/reflectlite.ValueOf", "(internal/reflectlite.Value).Type", "(internal/reflectlite.Value).IsNil", "internal/reflectlite.TypeOf", "(internal/reflectlite.Value).Elem", "(internal/reflectlite.Value).Set"], unfollowed := true, recurses := true, named := ["errors.errorType"], apart := false, laid := [("errors.errorType", laid_errors_errorType)] }
def ChainDrawsSaid : Prop := chainDrawsRow.holds Tryd.pinned (OpenSpec.ofChange chainDrawsSpec)

/-- ITS FALSE NEIGHBOUR: 'it returns false'. Refute it at one input. -/
def chainDrawsWrong : ChangeSpec := { name := "chainDraws", fn := fun _ => fun
  | [d1, d2, d3] => { results := [.lit (.bool false)], args := [d1, d2, d3] }
  | _ => none }
def ChainDrawsWrongFalsely : Prop := chainDrawsRow.holds Tryd.pinned (OpenSpec.ofChange chainDrawsWrong)

/- THE SECOND FORM. 'bulk': how many values and letters a reading holds, each counted each time it is reached (what is shared counts as often as it is met; a slice's spare places count too). A statement '..UptoSaid' is the law's where the arguments, and the package variables that the reading takes, are together of bulk at most 1048576: NARROWER than '..Said'. Prove '..Said' where nothing that the law and all that it calls make is longer than what came in: it says more and counts as full. Else prove '..UptoSaid'. A law counts once. -/
mutual
def uptoBulk {H : Type} : DataW H → Nat
  | .lit (.string bytes) => bytes.length + 1
  | .lit _ => 1
  | .nil => 1
  | .ptr d => uptoBulk d + 1
  | .slice elems spare => uptoBulkAll elems + uptoBulkAll spare + 1
  | .agg parts => uptoBulkAll parts + 1
  | .iface _ d => uptoBulk d + 1
  | .map entries => uptoBulkEntries entries + 1
  | .held _ => 1
def uptoBulkAll {H : Type} : List (DataW H) → Nat
  | [] => 0
  | d :: r => uptoBulk d + uptoBulkAll r
def uptoBulkEntries {H : Type} : List (Lit × DataW H) → Nat
  | [] => 0
  | x :: r => uptoBulkEntry x + uptoBulkEntries r
def uptoBulkEntry {H : Type} : Lit × DataW H → Nat
  | (.string bytes, d) => bytes.length + uptoBulk d + 1
  | (_, d) => uptoBulk d + 1
 end
def uptoSmall : (H : Type) → List (DataW H) → Bool := fun _ ds => decide (uptoBulkAll ds ≤ 1048576)
def OpenSpec.upto (s : _root_.Go.ChangeSpec) : _root_.Go.OpenSpec := { _root_.Go.OpenSpec.ofChange s with cond := some uptoSmall }

/-- 'attestlaw3.SpongePads', WHERE WHAT IT READS IS OF BULK AT MOST 1048576: true; the input reads as it did. -/
def spongePadsUptoRow : OpenClaim := { program := "ytlcmacdeadmloaadoor", sum := "8efe8637b90b586c3d94f05c299c934cd97599470180726e316172fd3f7aac0a", func := "attest/attestlaw3.SpongePads", spec := "spongePads", inPlace := ["internal/reflectlite.ValueOf", "(internal/reflectlite.Value).Type", "(internal/reflectlite.Value).IsNil", "internal/reflectlite.TypeOf", "(internal/reflectlite.Value).Elem", "(internal/reflectlite.Value).Set"], unfollowed := true, recurses := true, named := ["errors.errorType"], apart := false, laid := [("errors.errorType", laid_errors_errorType)], narrowed := true }
def SpongePadsUptoSaid : Prop := spongePadsUptoRow.holds Tryd.pinned (OpenSpec.upto spongePadsSpec)

/-- 'attestlaw3.SpongeMakes', WHERE WHAT IT READS IS OF BULK AT MOST 1048576: true; the input reads as it did. -/
def spongeMakesUptoRow : OpenClaim := { program := "ytlcmacdeadmloaadoor", sum := "8efe8637b90b586c3d94f05c299c934cd97599470180726e316172fd3f7aac0a", func := "attest/attestlaw3.SpongeMakes", spec := "spongeMakes", inPlace := ["internal/reflectlite.ValueOf", "(internal/reflectlite.Value).Type", "(internal/reflectlite.Value).IsNil", "internal/reflectlite.TypeOf", "(internal/reflectlite.Value).Elem", "(internal/reflectlite.Value).Set"], unfollowed := true, recurses := true, named := ["errors.errorType"], apart := false, laid := [("errors.errorType", laid_errors_errorType)], narrowed := true }
def SpongeMakesUptoSaid : Prop := spongeMakesUptoRow.holds Tryd.pinned (OpenSpec.upto spongeMakesSpec)

/-- 'attestlaw3.SpongeStirs', WHERE WHAT IT READS IS OF BULK AT MOST 1048576: true; the input reads as it did. -/
def spongeStirsUptoRow : OpenClaim := { program := "ytlcmacdeadmloaadoor", sum := "8efe8637b90b586c3d94f05c299c934cd97599470180726e316172fd3f7aac0a", func := "attest/attestlaw3.SpongeStirs", spec := "spongeStirs", inPlace := ["internal/reflectlite.ValueOf", "(internal/reflectlite.Value).Type", "(internal/reflectlite.Value).IsNil", "internal/reflectlite.TypeOf", "(internal/reflectlite.Value).Elem", "(internal/reflectlite.Value).Set"], unfollowed := true, recurses := true, named := ["errors.errorType"], apart := false, laid := [("errors.errorType", laid_errors_errorType)], narrowed := true }
def SpongeStirsUptoSaid : Prop := spongeStirsUptoRow.holds Tryd.pinned (OpenSpec.upto spongeStirsSpec)

/-- 'attestlaw3.SpongeHashes', WHERE WHAT IT READS IS OF BULK AT MOST 1048576: true; the input reads as it did. -/
def spongeHashesUptoRow : OpenClaim := { program := "ytlcmacdeadmloaadoor", sum := "8efe8637b90b586c3d94f05c299c934cd97599470180726e316172fd3f7aac0a", func := "attest/attestlaw3.SpongeHashes", spec := "spongeHashes", inPlace := ["internal/reflectlite.ValueOf", "(internal/reflectlite.Value).Type", "(internal/reflectlite.Value).IsNil", "internal/reflectlite.TypeOf", "(internal/reflectlite.Value).Elem", "(internal/reflectlite.Value).Set"], unfollowed := true, recurses := true, named := ["errors.errorType"], apart := false, laid := [("errors.errorType", laid_errors_errorType)], narrowed := true }
def SpongeHashesUptoSaid : Prop := spongeHashesUptoRow.holds Tryd.pinned (OpenSpec.upto spongeHashesSpec)

/-- 'attestlaw3.ChainDraws', WHERE WHAT IT READS IS OF BULK AT MOST 1048576: true; the input reads as it did. -/
def chainDrawsUptoRow : OpenClaim := { program := "ytlcmacdeadmloaadoor", sum := "8efe8637b90b586c3d94f05c299c934cd97599470180726e316172fd3f7aac0a", func := "attest/attestlaw3.ChainDraws", spec := "chainDraws", inPlace := ["internal/reflectlite.ValueOf", "(internal/reflectlite.Value).Type", "(internal/reflectlite.Value).IsNil", "internal/reflectlite.TypeOf", "(internal/reflectlite.Value).Elem", "(internal/reflectlite.Value).Set"], unfollowed := true, recurses := true, named := ["errors.errorType"], apart := false, laid := [("errors.errorType", laid_errors_errorType)], narrowed := true }
def ChainDrawsUptoSaid : Prop := chainDrawsUptoRow.holds Tryd.pinned (OpenSpec.upto chainDrawsSpec)

end Rows
end Go.Proofs.YtlcmacdeadmloaaDoor
