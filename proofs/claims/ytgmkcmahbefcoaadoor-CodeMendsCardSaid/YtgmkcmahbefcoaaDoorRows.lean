/-
  NARROWER THAN 'FOR EVERY INPUT', by the rows' own cells (each row's printed sentence says how): SumsMakes: laid · SumsChecks: laid · FoldFolds: laid · CodeMends: laid · CodeDecodes: laid.
  DERIVED. THE GIVEN ROWS OF THIS SEAT. 5 by the template 'for every input the law returns true; each argument reads behind the call as it read before'; 0 by the template 'total and deterministic' (their statements: YtgmkcmahbefcoaaDoorTotals.lean).
  GIVEN WITH THE SEED: the statements are not yours to turn. If you find one false, say at which input.
  Laid BY PROGRAM, IN A SANDBOX (cutbox-rows.mjs): the forced cells as the released guide's own fill.sh prints them over the translation fb6feda558b668d8… (all of the seat's roots in one cut). By AI agents, Wed Nov 11 2026. No macro, syntax, notation, axiom, sorry.
-/
import Derived.Test.YtgmkcmahbefcoaaDoorChecked
import GoSem.Claim
import GoSem.ClaimJoined
import GoSem.ClaimMapViews
import Derived.JoinedTies
import Derived.KernelRfl
namespace Go.Proofs.YtgmkcmahbefcoaaDoor
/- THE CELL 'sum', in the pinned program and in every row, IS THE sha256 OF THE DUMP (.gsa) THAT YtgmkcmahbefcoaaDoorProg.lean LOADS. Nothing in Lean hashes anything: it is a label: what it is worth is what the hold of that sum in a sandbox is worth. -/
noncomputable def Tryd.pinned : Pinned := { name := "ytgmkcmahbefcoaadoor", sum := "fb6feda558b668d8f39535038a8a8c3cdc9fcf383efa7b53aeb3232cf5b569b4", checked := Tryd.checked }
namespace Rows
def none {H : Type} : Left H := { results := [], args := [] }

/- WHAT THE LISTED PACKAGE-LEVEL VARIABLES READ AS WHEN THE CALL BEGINS. Each datum BY PROGRAM (the guide's laid-datum.mjs) off the statement by which the dump's own 'gosem.cut.vars' lays the variable. In a bare row this is a premise. The card (YtgmkcmahbefcoaaDoorCards.lean) ties it to the program's text. -/
def laid_errors_errorType {H : Type} : DataW H := .iface "internal/reflectlite.rtype" (.agg [.ptr (.lit (.string [101, 114, 114, 111, 114]))])

/-- 'attestlaw4.SumsMakes': WHATEVER THE INPUT: true; the input reads as it did. -/
def sumsMakesSpec : ChangeSpec := { name := "sumsMakes", fn := fun _ => fun
  | [d1, d2, d3] => { results := [.lit (.bool true)], args := [d1, d2, d3] }
  | _ => none }
def sumsMakesRow : OpenClaim := { program := "ytgmkcmahbefcoaadoor", sum := "fb6feda558b668d8f39535038a8a8c3cdc9fcf383efa7b53aeb3232cf5b569b4", func := "attest/attestlaw4.SumsMakes", spec := "sumsMakes", inPlace := ["internal/reflectlite.ValueOf", "(internal/reflectlite.Value).Type", "(internal/reflectlite.Value).IsNil", "internal/reflectlite.TypeOf", "(internal/reflectlite.Value).Elem", "(internal/reflectlite.Value).Set"], unfollowed := true, recurses := true, named := ["errors.errorType"], apart := false, laid := [("errors.errorType", laid_errors_errorType)] }
def SumsMakesSaid : Prop := sumsMakesRow.holds Tryd.pinned (OpenSpec.ofChange sumsMakesSpec)

/-- ITS FALSE NEIGHBOUR: 'it returns false'. Refute it at one input. -/
def sumsMakesWrong : ChangeSpec := { name := "sumsMakes", fn := fun _ => fun
  | [d1, d2, d3] => { results := [.lit (.bool false)], args := [d1, d2, d3] }
  | _ => none }
def SumsMakesWrongFalsely : Prop := sumsMakesRow.holds Tryd.pinned (OpenSpec.ofChange sumsMakesWrong)

/-- 'attestlaw4.SumsChecks': WHATEVER THE INPUT: true; the input reads as it did. -/
def sumsChecksSpec : ChangeSpec := { name := "sumsChecks", fn := fun _ => fun
  | [d1, d2, d3, d4, d5] => { results := [.lit (.bool true)], args := [d1, d2, d3, d4, d5] }
  | _ => none }
def sumsChecksRow : OpenClaim := { program := "ytgmkcmahbefcoaadoor", sum := "fb6feda558b668d8f39535038a8a8c3cdc9fcf383efa7b53aeb3232cf5b569b4", func := "attest/attestlaw4.SumsChecks", spec := "sumsChecks", inPlace := ["internal/reflectlite.ValueOf", "(internal/reflectlite.Value).Type", "(internal/reflectlite.Value).IsNil", "internal/reflectlite.TypeOf", "(internal/reflectlite.Value).Elem", "(internal/reflectlite.Value).Set"], unfollowed := true, recurses := true, named := ["errors.errorType"], apart := false, laid := [("errors.errorType", laid_errors_errorType)] }
def SumsChecksSaid : Prop := sumsChecksRow.holds Tryd.pinned (OpenSpec.ofChange sumsChecksSpec)

/-- ITS FALSE NEIGHBOUR: 'it returns false'. Refute it at one input. -/
def sumsChecksWrong : ChangeSpec := { name := "sumsChecks", fn := fun _ => fun
  | [d1, d2, d3, d4, d5] => { results := [.lit (.bool false)], args := [d1, d2, d3, d4, d5] }
  | _ => none }
def SumsChecksWrongFalsely : Prop := sumsChecksRow.holds Tryd.pinned (OpenSpec.ofChange sumsChecksWrong)

/-- 'attestlaw5.FoldFolds': WHATEVER THE INPUT: true; the input reads as it did. -/
def foldFoldsSpec : ChangeSpec := { name := "foldFolds", fn := fun _ => fun
  | [d1, d2, d3, d4, d5] => { results := [.lit (.bool true)], args := [d1, d2, d3, d4, d5] }
  | _ => none }
def foldFoldsRow : OpenClaim := { program := "ytgmkcmahbefcoaadoor", sum := "fb6feda558b668d8f39535038a8a8c3cdc9fcf383efa7b53aeb3232cf5b569b4", func := "attest/attestlaw5.FoldFolds", spec := "foldFolds", inPlace := ["internal/reflectlite.ValueOf", "(internal/reflectlite.Value).Type", "(internal/reflectlite.Value).IsNil", "internal/reflectlite.TypeOf", "(internal/reflectlite.Value).Elem", "(internal/reflectlite.Value).Set"], unfollowed := true, recurses := true, named := ["errors.errorType"], apart := false, laid := [("errors.errorType", laid_errors_errorType)] }
def FoldFoldsSaid : Prop := foldFoldsRow.holds Tryd.pinned (OpenSpec.ofChange foldFoldsSpec)

/-- ITS FALSE NEIGHBOUR: 'it returns false'. Refute it at one input. -/
def foldFoldsWrong : ChangeSpec := { name := "foldFolds", fn := fun _ => fun
  | [d1, d2, d3, d4, d5] => { results := [.lit (.bool false)], args := [d1, d2, d3, d4, d5] }
  | _ => none }
def FoldFoldsWrongFalsely : Prop := foldFoldsRow.holds Tryd.pinned (OpenSpec.ofChange foldFoldsWrong)

/-- 'attestlaw2.CodeMends': WHATEVER THE INPUT: true; the input reads as it did. -/
def codeMendsSpec : ChangeSpec := { name := "codeMends", fn := fun _ => fun
  | [d1, d2, d3, d4, d5, d6, d7, d8] => { results := [.lit (.bool true)], args := [d1, d2, d3, d4, d5, d6, d7, d8] }
  | _ => none }
def codeMendsRow : OpenClaim := { program := "ytgmkcmahbefcoaadoor", sum := "fb6feda558b668d8f39535038a8a8c3cdc9fcf383efa7b53aeb3232cf5b569b4", func := "attest/attestlaw2.CodeMends", spec := "codeMends", inPlace := ["internal/reflectlite.ValueOf", "(internal/reflectlite.Value).Type", "(internal/reflectlite.Value).IsNil", "internal/reflectlite.TypeOf", "(internal/reflectlite.Value).Elem", "(internal/reflectlite.Value).Set"], unfollowed := true, recurses := true, named := ["errors.errorType"], apart := false, laid := [("errors.errorType", laid_errors_errorType)] }
def CodeMendsSaid : Prop := codeMendsRow.holds Tryd.pinned (OpenSpec.ofChange codeMendsSpec)

/-- ITS FALSE NEIGHBOUR: 'it returns false'. Refute it at one input. -/
def codeMendsWrong : ChangeSpec := { name := "codeMends", fn := fun _ => fun
  | [d1, d2, d3, d4, d5, d6, d7, d8] => { results := [.lit (.bool false)], args := [d1, d2, d3, d4, d5, d6, d7, d8] }
  | _ => none }
def CodeMendsWrongFalsely : Prop := codeMendsRow.holds Tryd.pinned (OpenSpec.ofChange codeMendsWrong)

/-- 'attestlaw2.CodeDecodes': WHATEVER THE INPUT: true; the input reads as it did. -/
def codeDecodesSpec : ChangeSpec := { name := "codeDecodes", fn := fun _ => fun
  | [d1, d2, d3, d4, d5, d6, d7] => { results := [.lit (.bool true)], args := [d1, d2, d3, d4, d5, d6, d7] }
  | _ => none }
def codeDecodesRow : OpenClaim := { program := "ytgmkcmahbefcoaadoor", sum := "fb6feda558b668d8f39535038a8a8c3cdc9fcf383efa7b53aeb3232cf5b569b4", func := "attest/attestlaw2.CodeDecodes", spec := "codeDecodes", inPlace := ["internal/reflectlite.ValueOf", "(internal/reflectlite.Value).Type", "(internal/reflectlite.Value).IsNil", "internal/reflectlite.TypeOf", "(internal/reflectlite.Value).Elem", "(internal/reflectlite.Value).Set"], unfollowed := true, recurses := true, named := ["errors.errorType"], apart := false, laid := [("errors.errorType", laid_errors_errorType)] }
def CodeDecodesSaid : Prop := codeDecodesRow.holds Tryd.pinned (OpenSpec.ofChange codeDecodesSpec)

/-- ITS FALSE NEIGHBOUR: 'it returns false'. Refute it at one input. -/
def codeDecodesWrong : ChangeSpec := { name := "codeDecodes", fn := fun _ => fun
  | [d1, d2, d3, d4, d5, d6, d7] => { results := [.lit (.bool false)], args := [d1, d2, d3, d4, d5, d6, d7] }
  | _ => none }
def CodeDecodesWrongFalsely : Prop := codeDecodesRow.holds Tryd.pinned (OpenSpec.ofChange codeDecodesWrong)

/- THE SECOND FORM. 'bulk': how many values and letters a reading holds, each counted each time it is reached (what is shared counts as often as it is met; a slice's spare places count too). A statement '..UptoSaid' is the law's where the arguments, and the package variables that the reading takes, are together of bulk at most 1048576: NARROWER than '..Said'. Prove '..Said' where nothing that the law and all that it calls make is longer than what came in: it says more and counts as full. Else prove '..UptoSaid'. A law counts once. -/
mutual
def uptoBulk {H : Type} : DataW H → Nat
  | .lit (.string bytes) => bytes.length + 1
  | .lit _ => 1
  | .nil => 1
  | .ptr d => uptoBulk d + 1
  | .slice elems spare => uptoBulkAll elems + uptoBulkAll spare + 1
  | .agg parts => uptoBulkAll parts + 1
  | .iface _ d => uptoBulk d + 1
  | .map entries => uptoBulkEntries entries + 1
  | .held _ => 1
def uptoBulkAll {H : Type} : List (DataW H) → Nat
  | [] => 0
  | d :: r => uptoBulk d + uptoBulkAll r
def uptoBulkEntries {H : Type} : List (Lit × DataW H) → Nat
  | [] => 0
  | x :: r => uptoBulkEntry x + uptoBulkEntries r
def uptoBulkEntry {H : Type} : Lit × DataW H → Nat
  | (.string bytes, d) => bytes.length + uptoBulk d + 1
  | (_, d) => uptoBulk d + 1
 end
def uptoSmall : (H : Type) → List (DataW H) → Bool := fun _ ds => decide (uptoBulkAll ds ≤ 1048576)
def OpenSpec.upto (s : _root_.Go.ChangeSpec) : _root_.Go.OpenSpec := { _root_.Go.OpenSpec.ofChange s with cond := some uptoSmall }

/-- 'attestlaw4.SumsMakes', WHERE WHAT IT READS IS OF BULK AT MOST 1048576: true; the input reads as it did. -/
def sumsMakesUptoRow : OpenClaim := { program := "ytgmkcmahbefcoaadoor", sum := "fb6feda558b668d8f39535038a8a8c3cdc9fcf383efa7b53aeb3232cf5b569b4", func := "attest/attestlaw4.SumsMakes", spec := "sumsMakes", inPlace := ["internal/reflectlite.ValueOf", "(internal/reflectlite.Value).Type", "(internal/reflectlite.Value).IsNil", "internal/reflectlite.TypeOf", "(internal/reflectlite.Value).Elem", "(internal/reflectlite.Value).Set"], unfollowed := true, recurses := true, named := ["errors.errorType"], apart := false, laid := [("errors.errorType", laid_errors_errorType)], narrowed := true }
def SumsMakesUptoSaid : Prop := sumsMakesUptoRow.holds Tryd.pinned (OpenSpec.upto sumsMakesSpec)

/-- 'attestlaw4.SumsChecks', WHERE WHAT IT READS IS OF BULK AT MOST 1048576: true; the input reads as it did. -/
def sumsChecksUptoRow : OpenClaim := { program := "ytgmkcmahbefcoaadoor", sum := "fb6feda558b668d8f39535038a8a8c3cdc9fcf383efa7b53aeb3232cf5b569b4", func := "attest/attestlaw4.SumsChecks", spec := "sumsChecks", inPlace := ["internal/reflectlite.ValueOf", "(internal/reflectlite.Value).Type", "(internal/reflectlite.Value).IsNil", "internal/reflectlite.TypeOf", "(internal/reflectlite.Value).Elem", "(internal/reflectlite.Value).Set"], unfollowed := true, recurses := true, named := ["errors.errorType"], apart := false, laid := [("errors.errorType", laid_errors_errorType)], narrowed := true }
def SumsChecksUptoSaid : Prop := sumsChecksUptoRow.holds Tryd.pinned (OpenSpec.upto sumsChecksSpec)

/-- 'attestlaw5.FoldFolds', WHERE WHAT IT READS IS OF BULK AT MOST 1048576: true; the input reads as it did. -/
def foldFoldsUptoRow : OpenClaim := { program := "ytgmkcmahbefcoaadoor", sum := "fb6feda558b668d8f39535038a8a8c3cdc9fcf383efa7b53aeb3232cf5b569b4", func := "attest/attestlaw5.FoldFolds", spec := "foldFolds", inPlace := ["internal/reflectlite.ValueOf", "(internal/reflectlite.Value).Type", "(internal/reflectlite.Value).IsNil", "internal/reflectlite.TypeOf", "(internal/reflectlite.Value).Elem", "(internal/reflectlite.Value).Set"], unfollowed := true, recurses := true, named := ["errors.errorType"], apart := false, laid := [("errors.errorType", laid_errors_errorType)], narrowed := true }
def FoldFoldsUptoSaid : Prop := foldFoldsUptoRow.holds Tryd.pinned (OpenSpec.upto foldFoldsSpec)

/-- 'attestlaw2.CodeMends', WHERE WHAT IT READS IS OF BULK AT MOST 1048576: true; the input reads as it did. -/
def codeMendsUptoRow : OpenClaim := { program := "ytgmkcmahbefcoaadoor", sum := "fb6feda558b668d8f39535038a8a8c3cdc9fcf383efa7b53aeb3232cf5b569b4", func := "attest/attestlaw2.CodeMends", spec := "codeMends", inPlace := ["internal/reflectlite.ValueOf", "(internal/reflectlite.Value).Type", "(internal/reflectlite.Value).IsNil", "internal/reflectlite.TypeOf", "(internal/reflectlite.Value).Elem", "(internal/reflectlite.Value).Set"], unfollowed := true, recurses := true, named := ["errors.errorType"], apart := false, laid := [("errors.errorType", laid_errors_errorType)], narrowed := true }
def CodeMendsUptoSaid : Prop := codeMendsUptoRow.holds Tryd.pinned (OpenSpec.upto codeMendsSpec)

/-- 'attestlaw2.CodeDecodes', WHERE WHAT IT READS IS OF BULK AT MOST 1048576: true; the input reads as it did. -/
def codeDecodesUptoRow : OpenClaim := { program := "ytgmkcmahbefcoaadoor", sum := "fb6feda558b668d8f39535038a8a8c3cdc9fcf383efa7b53aeb3232cf5b569b4", func := "attest/attestlaw2.CodeDecodes", spec := "codeDecodes", inPlace := ["internal/reflectlite.ValueOf", "(internal/reflectlite.Value).Type", "(internal/reflectlite.Value).IsNil", "internal/reflectlite.TypeOf", "(internal/reflectlite.Value).Elem", "(internal/reflectlite.Value).Set"], unfollowed := true, recurses := true, named := ["errors.errorType"], apart := false, laid := [("errors.errorType", laid_errors_errorType)], narrowed := true }
def CodeDecodesUptoSaid : Prop := codeDecodesUptoRow.holds Tryd.pinned (OpenSpec.upto codeDecodesSpec)

end Rows
end Go.Proofs.YtgmkcmahbefcoaaDoor
