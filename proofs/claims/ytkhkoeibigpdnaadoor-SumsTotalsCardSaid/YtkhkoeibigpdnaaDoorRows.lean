/-
  NARROWER THAN 'FOR EVERY INPUT', by the rows' own cells (each row's printed sentence says how): CodeCounts: laid · DomainMakes: laid · DomainValues: laid · DomainBack: laid · CodeEncodes: laid · CodeMends: laid · CodeDecodes: laid · SumsExtends: laid · SumsTotals: laid · SumsChecks: laid · SumsMakes: laid · FoldFolds: laid.
  DERIVED. THE GIVEN ROWS OF THIS SEAT. 12 by the template 'for every input the law returns true; each argument reads behind the call as it read before'; 0 by the template 'total and deterministic' (their statements: YtkhkoeibigpdnaaDoorTotals.lean).
  GIVEN WITH THE SEED: the statements are not yours to turn. If you find one false, say at which input.
  Laid BY PROGRAM, IN A SANDBOX (cutbox-rows.mjs): the forced cells as the released guide's own fill.sh prints them over the translation 45288cd0544abbf6… (all of the seat's roots in one cut). By AI agents, Wed Nov 11 2026. No macro, syntax, notation, axiom, sorry.
-/
import Derived.Test.YtkhkoeibigpdnaaDoorChecked
import GoSem.Claim
import GoSem.ClaimJoined
import GoSem.ClaimMapViews
import Derived.JoinedTies
import Derived.KernelRfl
namespace Go.Proofs.YtkhkoeibigpdnaaDoor
/- THE CELL 'sum', in the pinned program and in every row, IS THE sha256 OF THE DUMP (.gsa) THAT YtkhkoeibigpdnaaDoorProg.lean LOADS. Nothing in Lean hashes anything: it is a label: what it is worth is what the hold of that sum in a sandbox is worth. -/
noncomputable def Tryd.pinned : Pinned := { name := "ytkhkoeibigpdnaadoor", sum := "45288cd0544abbf6857b8f43cfa85aeec62b8a5cb640b8268b5b7ad9f5fe35cc", checked := Tryd.checked }
namespace Rows
def none {H : Type} : Left H := { results := [], args := [] }

/- WHAT THE LISTED PACKAGE-LEVEL VARIABLES READ AS WHEN THE CALL BEGINS. Each datum BY PROGRAM (the guide's laid-datum.mjs) off the statement by which the dump's own 'gosem.cut.vars' lays the variable. In a bare row this is a premise. The card (YtkhkoeibigpdnaaDoorCards.lean) ties it to the program's text. -/
def laid_errors_errorType {H : Type} : DataW H := .iface "internal/reflectlite.rtype" (.agg [.ptr (.lit (.string [101, 114, 114, 111, 114]))])

/-- 'attestlaw2.CodeCounts': WHATEVER THE INPUT: true; the input reads as it did. -/
def codeCountsSpec : ChangeSpec := { name := "codeCounts", fn := fun _ => fun
  | [d1, d2, d3] => { results := [.lit (.bool true)], args := [d1, d2, d3] }
  | _ => none }
def codeCountsRow : OpenClaim := { program := "ytkhkoeibigpdnaadoor", sum := "45288cd0544abbf6857b8f43cfa85aeec62b8a5cb640b8268b5b7ad9f5fe35cc", func := "attest/attestlaw2.CodeCounts", spec := "codeCounts", inPlace := ["internal/reflectlite.ValueOf", "(internal/reflectlite.Value).Type", "(internal/reflectlite.Value).IsNil", "internal/reflectlite.TypeOf", "(internal/reflectlite.Value).Elem", "(internal/reflectlite.Value).Set"], unfollowed := true, recurses := true, named := ["errors.errorType"], apart := false, laid := [("errors.errorType", laid_errors_errorType)] }
def CodeCountsSaid : Prop := codeCountsRow.holds Tryd.pinned (OpenSpec.ofChange codeCountsSpec)

/-- ITS FALSE NEIGHBOUR: 'it returns false'. Refute it at one input. -/
def codeCountsWrong : ChangeSpec := { name := "codeCounts", fn := fun _ => fun
  | [d1, d2, d3] => { results := [.lit (.bool false)], args := [d1, d2, d3] }
  | _ => none }
def CodeCountsWrongFalsely : Prop := codeCountsRow.holds Tryd.pinned (OpenSpec.ofChange codeCountsWrong)

/-- 'attestlaw2.DomainMakes': WHATEVER THE INPUT: true; the input reads as it did. -/
def domainMakesSpec : ChangeSpec := { name := "domainMakes", fn := fun _ => fun
  | [d1, d2, d3, d4] => { results := [.lit (.bool true)], args := [d1, d2, d3, d4] }
  | _ => none }
def domainMakesRow : OpenClaim := { program := "ytkhkoeibigpdnaadoor", sum := "45288cd0544abbf6857b8f43cfa85aeec62b8a5cb640b8268b5b7ad9f5fe35cc", func := "attest/attestlaw2.DomainMakes", spec := "domainMakes", inPlace := ["internal/reflectlite.ValueOf", "(internal/reflectlite.Value).Type", "(internal/reflectlite.Value).IsNil", "internal/reflectlite.TypeOf", "(internal/reflectlite.Value).Elem", "(internal/reflectlite.Value).Set"], unfollowed := true, recurses := true, named := ["errors.errorType"], apart := false, laid := [("errors.errorType", laid_errors_errorType)] }
def DomainMakesSaid : Prop := domainMakesRow.holds Tryd.pinned (OpenSpec.ofChange domainMakesSpec)

/-- ITS FALSE NEIGHBOUR: 'it returns false'. Refute it at one input. -/
def domainMakesWrong : ChangeSpec := { name := "domainMakes", fn := fun _ => fun
  | [d1, d2, d3, d4] => { results := [.lit (.bool false)], args := [d1, d2, d3, d4] }
  | _ => none }
def DomainMakesWrongFalsely : Prop := domainMakesRow.holds Tryd.pinned (OpenSpec.ofChange domainMakesWrong)

/-- 'attestlaw2.DomainValues': WHATEVER THE INPUT: true; the input reads as it did. -/
def domainValuesSpec : ChangeSpec := { name := "domainValues", fn := fun _ => fun
  | [d1, d2, d3, d4] => { results := [.lit (.bool true)], args := [d1, d2, d3, d4] }
  | _ => none }
def domainValuesRow : OpenClaim := { program := "ytkhkoeibigpdnaadoor", sum := "45288cd0544abbf6857b8f43cfa85aeec62b8a5cb640b8268b5b7ad9f5fe35cc", func := "attest/attestlaw2.DomainValues", spec := "domainValues", inPlace := ["internal/reflectlite.ValueOf", "(internal/reflectlite.Value).Type", "(internal/reflectlite.Value).IsNil", "internal/reflectlite.TypeOf", "(internal/reflectlite.Value).Elem", "(internal/reflectlite.Value).Set"], unfollowed := true, recurses := true, named := ["errors.errorType"], apart := false, laid := [("errors.errorType", laid_errors_errorType)] }
def DomainValuesSaid : Prop := domainValuesRow.holds Tryd.pinned (OpenSpec.ofChange domainValuesSpec)

/-- ITS FALSE NEIGHBOUR: 'it returns false'. Refute it at one input. -/
def domainValuesWrong : ChangeSpec := { name := "domainValues", fn := fun _ => fun
  | [d1, d2, d3, d4] => { results := [.lit (.bool false)], args := [d1, d2, d3, d4] }
  | _ => none }
def DomainValuesWrongFalsely : Prop := domainValuesRow.holds Tryd.pinned (OpenSpec.ofChange domainValuesWrong)

/-- 'attestlaw2.DomainBack': WHATEVER THE INPUT: true; the input reads as it did. -/
def domainBackSpec : ChangeSpec := { name := "domainBack", fn := fun _ => fun
  | [d1, d2, d3, d4] => { results := [.lit (.bool true)], args := [d1, d2, d3, d4] }
  | _ => none }
def domainBackRow : OpenClaim := { program := "ytkhkoeibigpdnaadoor", sum := "45288cd0544abbf6857b8f43cfa85aeec62b8a5cb640b8268b5b7ad9f5fe35cc", func := "attest/attestlaw2.DomainBack", spec := "domainBack", inPlace := ["internal/reflectlite.ValueOf", "(internal/reflectlite.Value).Type", "(internal/reflectlite.Value).IsNil", "internal/reflectlite.TypeOf", "(internal/reflectlite.Value).Elem", "(internal/reflectlite.Value).Set"], unfollowed := true, recurses := true, named := ["errors.errorType"], apart := false, laid := [("errors.errorType", laid_errors_errorType)] }
def DomainBackSaid : Prop := domainBackRow.holds Tryd.pinned (OpenSpec.ofChange domainBackSpec)

/-- ITS FALSE NEIGHBOUR: 'it returns false'. Refute it at one input. -/
def domainBackWrong : ChangeSpec := { name := "domainBack", fn := fun _ => fun
  | [d1, d2, d3, d4] => { results := [.lit (.bool false)], args := [d1, d2, d3, d4] }
  | _ => none }
def DomainBackWrongFalsely : Prop := domainBackRow.holds Tryd.pinned (OpenSpec.ofChange domainBackWrong)

/-- 'attestlaw2.CodeEncodes': WHATEVER THE INPUT: true; the input reads as it did. -/
def codeEncodesSpec : ChangeSpec := { name := "codeEncodes", fn := fun _ => fun
  | [d1, d2, d3, d4, d5, d6] => { results := [.lit (.bool true)], args := [d1, d2, d3, d4, d5, d6] }
  | _ => none }
def codeEncodesRow : OpenClaim := { program := "ytkhkoeibigpdnaadoor", sum := "45288cd0544abbf6857b8f43cfa85aeec62b8a5cb640b8268b5b7ad9f5fe35cc", func := "attest/attestlaw2.CodeEncodes", spec := "codeEncodes", inPlace := ["internal/reflectlite.ValueOf", "(internal/reflectlite.Value).Type", "(internal/reflectlite.Value).IsNil", "internal/reflectlite.TypeOf", "(internal/reflectlite.Value).Elem", "(internal/reflectlite.Value).Set"], unfollowed := true, recurses := true, named := ["errors.errorType"], apart := false, laid := [("errors.errorType", laid_errors_errorType)] }
def CodeEncodesSaid : Prop := codeEncodesRow.holds Tryd.pinned (OpenSpec.ofChange codeEncodesSpec)

/-- ITS FALSE NEIGHBOUR: 'it returns false'. Refute it at one input. -/
def codeEncodesWrong : ChangeSpec := { name := "codeEncodes", fn := fun _ => fun
  | [d1, d2, d3, d4, d5, d6] => { results := [.lit (.bool false)], args := [d1, d2, d3, d4, d5, d6] }
  | _ => none }
def CodeEncodesWrongFalsely : Prop := codeEncodesRow.holds Tryd.pinned (OpenSpec.ofChange codeEncodesWrong)

/-- 'attestlaw2.CodeMends': WHATEVER THE INPUT: true; the input reads as it did. -/
def codeMendsSpec : ChangeSpec := { name := "codeMends", fn := fun _ => fun
  | [d1, d2, d3, d4, d5, d6, d7, d8] => { results := [.lit (.bool true)], args := [d1, d2, d3, d4, d5, d6, d7, d8] }
  | _ => none }
def codeMendsRow : OpenClaim := { program := "ytkhkoeibigpdnaadoor", sum := "45288cd0544abbf6857b8f43cfa85aeec62b8a5cb640b8268b5b7ad9f5fe35cc", func := "attest/attestlaw2.CodeMends", spec := "codeMends", inPlace := ["internal/reflectlite.ValueOf", "(internal/reflectlite.Value).Type", "(internal/reflectlite.Value).IsNil", "internal/reflectlite.TypeOf", "(internal/reflectlite.Value).Elem", "(internal/reflectlite.Value).Set"], unfollowed := true, recurses := true, named := ["errors.errorType"], apart := false, laid := [("errors.errorType", laid_errors_errorType)] }
def CodeMendsSaid : Prop := codeMendsRow.holds Tryd.pinned (OpenSpec.ofChange codeMendsSpec)

/-- ITS FALSE NEIGHBOUR: 'it returns false'. Refute it at one input. -/
def codeMendsWrong : ChangeSpec := { name := "codeMends", fn := fun _ => fun
  | [d1, d2, d3, d4, d5, d6, d7, d8] => { results := [.lit (.bool false)], args := [d1, d2, d3, d4, d5, d6, d7, d8] }
  | _ => none }
def CodeMendsWrongFalsely : Prop := codeMendsRow.holds Tryd.pinned (OpenSpec.ofChange codeMendsWrong)

/-- 'attestlaw2.CodeDecodes': WHATEVER THE INPUT: true; the input reads as it did. -/
def codeDecodesSpec : ChangeSpec := { name := "codeDecodes", fn := fun _ => fun
  | [d1, d2, d3, d4, d5, d6, d7] => { results := [.lit (.bool true)], args := [d1, d2, d3, d4, d5, d6, d7] }
  | _ => none }
def codeDecodesRow : OpenClaim := { program := "ytkhkoeibigpdnaadoor", sum := "45288cd0544abbf6857b8f43cfa85aeec62b8a5cb640b8268b5b7ad9f5fe35cc", func := "attest/attestlaw2.CodeDecodes", spec := "codeDecodes", inPlace := ["internal/reflectlite.ValueOf", "(internal/reflectlite.Value).Type", "(internal/reflectlite.Value).IsNil", "internal/reflectlite.TypeOf", "(internal/reflectlite.Value).Elem", "(internal/reflectlite.Value).Set"], unfollowed := true, recurses := true, named := ["errors.errorType"], apart := false, laid := [("errors.errorType", laid_errors_errorType)] }
def CodeDecodesSaid : Prop := codeDecodesRow.holds Tryd.pinned (OpenSpec.ofChange codeDecodesSpec)

/-- ITS FALSE NEIGHBOUR: 'it returns false'. Refute it at one input. -/
def codeDecodesWrong : ChangeSpec := { name := "codeDecodes", fn := fun _ => fun
  | [d1, d2, d3, d4, d5, d6, d7] => { results := [.lit (.bool false)], args := [d1, d2, d3, d4, d5, d6, d7] }
  | _ => none }
def CodeDecodesWrongFalsely : Prop := codeDecodesRow.holds Tryd.pinned (OpenSpec.ofChange codeDecodesWrong)

/-- 'attestlaw4.SumsExtends': WHATEVER THE INPUT: true; the input reads as it did. -/
def sumsExtendsSpec : ChangeSpec := { name := "sumsExtends", fn := fun _ => fun
  | [d1, d2, d3, d4] => { results := [.lit (.bool true)], args := [d1, d2, d3, d4] }
  | _ => none }
def sumsExtendsRow : OpenClaim := { program := "ytkhkoeibigpdnaadoor", sum := "45288cd0544abbf6857b8f43cfa85aeec62b8a5cb640b8268b5b7ad9f5fe35cc", func := "attest/attestlaw4.SumsExtends", spec := "sumsExtends", inPlace := ["internal/reflectlite.ValueOf", "(internal/reflectlite.Value).Type", "(internal/reflectlite.Value).IsNil", "internal/reflectlite.TypeOf", "(internal/reflectlite.Value).Elem", "(internal/reflectlite.Value).Set"], unfollowed := true, recurses := true, named := ["errors.errorType"], apart := false, laid := [("errors.errorType", laid_errors_errorType)] }
def SumsExtendsSaid : Prop := sumsExtendsRow.holds Tryd.pinned (OpenSpec.ofChange sumsExtendsSpec)

/-- ITS FALSE NEIGHBOUR: 'it returns false'. Refute it at one input. -/
def sumsExtendsWrong : ChangeSpec := { name := "sumsExtends", fn := fun _ => fun
  | [d1, d2, d3, d4] => { results := [.lit (.bool false)], args := [d1, d2, d3, d4] }
  | _ => none }
def SumsExtendsWrongFalsely : Prop := sumsExtendsRow.holds Tryd.pinned (OpenSpec.ofChange sumsExtendsWrong)

/-- 'attestlaw4.SumsTotals': WHATEVER THE INPUT: true; the input reads as it did. -/
def sumsTotalsSpec : ChangeSpec := { name := "sumsTotals", fn := fun _ => fun
  | [d1, d2] => { results := [.lit (.bool true)], args := [d1, d2] }
  | _ => none }
def sumsTotalsRow : OpenClaim := { program := "ytkhkoeibigpdnaadoor", sum := "45288cd0544abbf6857b8f43cfa85aeec62b8a5cb640b8268b5b7ad9f5fe35cc", func := "attest/attestlaw4.SumsTotals", spec := "sumsTotals", inPlace := ["internal/reflectlite.ValueOf", "(internal/reflectlite.Value).Type", "(internal/reflectlite.Value).IsNil", "internal/reflectlite.TypeOf", "(internal/reflectlite.Value).Elem", "(internal/reflectlite.Value).Set"], unfollowed := true, recurses := true, named := ["errors.errorType"], apart := false, laid := [("errors.errorType", laid_errors_errorType)] }
def SumsTotalsSaid : Prop := sumsTotalsRow.holds Tryd.pinned (OpenSpec.ofChange sumsTotalsSpec)

/-- ITS FALSE NEIGHBOUR: 'it returns false'. Refute it at one input. -/
def sumsTotalsWrong : ChangeSpec := { name := "sumsTotals", fn := fun _ => fun
  | [d1, d2] => { results := [.lit (.bool false)], args := [d1, d2] }
  | _ => none }
def SumsTotalsWrongFalsely : Prop := sumsTotalsRow.holds Tryd.pinned (OpenSpec.ofChange sumsTotalsWrong)

/-- 'attestlaw4.SumsChecks': WHATEVER THE INPUT: true; the input reads as it did. -/
def sumsChecksSpec : ChangeSpec := { name := "sumsChecks", fn := fun _ => fun
  | [d1, d2, d3, d4, d5] => { results := [.lit (.bool true)], args := [d1, d2, d3, d4, d5] }
  | _ => none }
def sumsChecksRow : OpenClaim := { program := "ytkhkoeibigpdnaadoor", sum := "45288cd0544abbf6857b8f43cfa85aeec62b8a5cb640b8268b5b7ad9f5fe35cc", func := "attest/attestlaw4.SumsChecks", spec := "sumsChecks", inPlace := ["internal/reflectlite.ValueOf", "(internal/reflectlite.Value).Type", "(internal/reflectlite.Value).IsNil", "internal/reflectlite.TypeOf", "(internal/reflectlite.Value).Elem", "(internal/reflectlite.Value).Set"], unfollowed := true, recurses := true, named := ["errors.errorType"], apart := false, laid := [("errors.errorType", laid_errors_errorType)] }
def SumsChecksSaid : Prop := sumsChecksRow.holds Tryd.pinned (OpenSpec.ofChange sumsChecksSpec)

/-- ITS FALSE NEIGHBOUR: 'it returns false'. Refute it at one input. -/
def sumsChecksWrong : ChangeSpec := { name := "sumsChecks", fn := fun _ => fun
  | [d1, d2, d3, d4, d5] => { results := [.lit (.bool false)], args := [d1, d2, d3, d4, d5] }
  | _ => none }
def SumsChecksWrongFalsely : Prop := sumsChecksRow.holds Tryd.pinned (OpenSpec.ofChange sumsChecksWrong)

/-- 'attestlaw4.SumsMakes': WHATEVER THE INPUT: true; the input reads as it did. -/
def sumsMakesSpec : ChangeSpec := { name := "sumsMakes", fn := fun _ => fun
  | [d1, d2, d3] => { results := [.lit (.bool true)], args := [d1, d2, d3] }
  | _ => none }
def sumsMakesRow : OpenClaim := { program := "ytkhkoeibigpdnaadoor", sum := "45288cd0544abbf6857b8f43cfa85aeec62b8a5cb640b8268b5b7ad9f5fe35cc", func := "attest/attestlaw4.SumsMakes", spec := "sumsMakes", inPlace := ["internal/reflectlite.ValueOf", "(internal/reflectlite.Value).Type", "(internal/reflectlite.Value).IsNil", "internal/reflectlite.TypeOf", "(internal/reflectlite.Value).Elem", "(internal/reflectlite.Value).Set"], unfollowed := true, recurses := true, named := ["errors.errorType"], apart := false, laid := [("errors.errorType", laid_errors_errorType)] }
def SumsMakesSaid : Prop := sumsMakesRow.holds Tryd.pinned (OpenSpec.ofChange sumsMakesSpec)

/-- ITS FALSE NEIGHBOUR: 'it returns false'. Refute it at one input. -/
def sumsMakesWrong : ChangeSpec := { name := "sumsMakes", fn := fun _ => fun
  | [d1, d2, d3] => { results := [.lit (.bool false)], args := [d1, d2, d3] }
  | _ => none }
def SumsMakesWrongFalsely : Prop := sumsMakesRow.holds Tryd.pinned (OpenSpec.ofChange sumsMakesWrong)

/-- 'attestlaw5.FoldFolds': WHATEVER THE INPUT: true; the input reads as it did. -/
def foldFoldsSpec : ChangeSpec := { name := "foldFolds", fn := fun _ => fun
  | [d1, d2, d3, d4, d5] => { results := [.lit (.bool true)], args := [d1, d2, d3, d4, d5] }
  | _ => none }
def foldFoldsRow : OpenClaim := { program := "ytkhkoeibigpdnaadoor", sum := "45288cd0544abbf6857b8f43cfa85aeec62b8a5cb640b8268b5b7ad9f5fe35cc", func := "attest/attestlaw5.FoldFolds", spec := "foldFolds", inPlace := ["internal/reflectlite.ValueOf", "(internal/reflectlite.Value).Type", "(internal/reflectlite.Value).IsNil", "internal/reflectlite.TypeOf", "(internal/reflectlite.Value).Elem", "(internal/reflectlite.Value).Set"], unfollowed := true, recurses := true, named := ["errors.errorType"], apart := false, laid := [("errors.errorType", laid_errors_errorType)] }
def FoldFoldsSaid : Prop := foldFoldsRow.holds Tryd.pinned (OpenSpec.ofChange foldFoldsSpec)

/-- ITS FALSE NEIGHBOUR: 'it returns false'. Refute it at one input. -/
def foldFoldsWrong : ChangeSpec := { name := "foldFolds", fn := fun _ => fun
  | [d1, d2, d3, d4, d5] => { results := [.lit (.bool false)], args := [d1, d2, d3, d4, d5] }
  | _ => none }
def FoldFoldsWrongFalsely : Prop := foldFoldsRow.holds Tryd.pinned (OpenSpec.ofChange foldFoldsWrong)

/- THE SECOND FORM. 'bulk': how many values and letters a reading holds, each counted each time it is reached (what is shared counts as often as it is met; a slice's spare places count too). A statement '..UptoSaid' is the law's where the arguments, and the package variables that the reading takes, are together of bulk at most 1048576: NARROWER than '..Said'. Prove '..Said' where nothing that the law and all that it calls make is longer than what came in: it says more and counts as full. Else prove '..UptoSaid'. A law counts once. -/
mutual
def uptoBulk {H : Type} : DataW H → Nat
  | .lit (.string bytes) => bytes.length + 1
  | .lit _ => 1
  | .nil => 1
  | .ptr d => uptoBulk d + 1
  | .slice elems spare => uptoBulkAll elems + uptoBulkAll spare + 1
  | .agg parts => uptoBulkAll parts + 1
  | .iface _ d => uptoBulk d + 1
  | .map entries => uptoBulkEntries entries + 1
  | .held _ => 1
def uptoBulkAll {H : Type} : List (DataW H) → Nat
  | [] => 0
  | d :: r => uptoBulk d + uptoBulkAll r
def uptoBulkEntries {H : Type} : List (Lit × DataW H) → Nat
  | [] => 0
  | x :: r => uptoBulkEntry x + uptoBulkEntries r
def uptoBulkEntry {H : Type} : Lit × DataW H → Nat
  | (.string bytes, d) => bytes.length + uptoBulk d + 1
  | (_, d) => uptoBulk d + 1
 end
def uptoSmall : (H : Type) → List (DataW H) → Bool := fun _ ds => decide (uptoBulkAll ds ≤ 1048576)
def OpenSpec.upto (s : _root_.Go.ChangeSpec) : _root_.Go.OpenSpec := { _root_.Go.OpenSpec.ofChange s with cond := some uptoSmall }

/-- 'attestlaw2.CodeCounts', WHERE WHAT IT READS IS OF BULK AT MOST 1048576: true; the input reads as it did. -/
def codeCountsUptoRow : OpenClaim := { program := "ytkhkoeibigpdnaadoor", sum := "45288cd0544abbf6857b8f43cfa85aeec62b8a5cb640b8268b5b7ad9f5fe35cc", func := "attest/attestlaw2.CodeCounts", spec := "codeCounts", inPlace := ["internal/reflectlite.ValueOf", "(internal/reflectlite.Value).Type", "(internal/reflectlite.Value).IsNil", "internal/reflectlite.TypeOf", "(internal/reflectlite.Value).Elem", "(internal/reflectlite.Value).Set"], unfollowed := true, recurses := true, named := ["errors.errorType"], apart := false, laid := [("errors.errorType", laid_errors_errorType)], narrowed := true }
def CodeCountsUptoSaid : Prop := codeCountsUptoRow.holds Tryd.pinned (OpenSpec.upto codeCountsSpec)

/-- 'attestlaw2.DomainMakes', WHERE WHAT IT READS IS OF BULK AT MOST 1048576: true; the input reads as it did. -/
def domainMakesUptoRow : OpenClaim := { program := "ytkhkoeibigpdnaadoor", sum := "45288cd0544abbf6857b8f43cfa85aeec62b8a5cb640b8268b5b7ad9f5fe35cc", func := "attest/attestlaw2.DomainMakes", spec := "domainMakes", inPlace := ["internal/reflectlite.ValueOf", "(internal/reflectlite.Value).Type", "(internal/reflectlite.Value).IsNil", "internal/reflectlite.TypeOf", "(internal/reflectlite.Value).Elem", "(internal/reflectlite.Value).Set"], unfollowed := true, recurses := true, named := ["errors.errorType"], apart := false, laid := [("errors.errorType", laid_errors_errorType)], narrowed := true }
def DomainMakesUptoSaid : Prop := domainMakesUptoRow.holds Tryd.pinned (OpenSpec.upto domainMakesSpec)

/-- 'attestlaw2.DomainValues', WHERE WHAT IT READS IS OF BULK AT MOST 1048576: true; the input reads as it did. -/
def domainValuesUptoRow : OpenClaim := { program := "ytkhkoeibigpdnaadoor", sum := "45288cd0544abbf6857b8f43cfa85aeec62b8a5cb640b8268b5b7ad9f5fe35cc", func := "attest/attestlaw2.DomainValues", spec := "domainValues", inPlace := ["internal/reflectlite.ValueOf", "(internal/reflectlite.Value).Type", "(internal/reflectlite.Value).IsNil", "internal/reflectlite.TypeOf", "(internal/reflectlite.Value).Elem", "(internal/reflectlite.Value).Set"], unfollowed := true, recurses := true, named := ["errors.errorType"], apart := false, laid := [("errors.errorType", laid_errors_errorType)], narrowed := true }
def DomainValuesUptoSaid : Prop := domainValuesUptoRow.holds Tryd.pinned (OpenSpec.upto domainValuesSpec)

/-- 'attestlaw2.DomainBack', WHERE WHAT IT READS IS OF BULK AT MOST 1048576: true; the input reads as it did. -/
def domainBackUptoRow : OpenClaim := { program := "ytkhkoeibigpdnaadoor", sum := "45288cd0544abbf6857b8f43cfa85aeec62b8a5cb640b8268b5b7ad9f5fe35cc", func := "attest/attestlaw2.DomainBack", spec := "domainBack", inPlace := ["internal/reflectlite.ValueOf", "(internal/reflectlite.Value).Type", "(internal/reflectlite.Value).IsNil", "internal/reflectlite.TypeOf", "(internal/reflectlite.Value).Elem", "(internal/reflectlite.Value).Set"], unfollowed := true, recurses := true, named := ["errors.errorType"], apart := false, laid := [("errors.errorType", laid_errors_errorType)], narrowed := true }
def DomainBackUptoSaid : Prop := domainBackUptoRow.holds Tryd.pinned (OpenSpec.upto domainBackSpec)

/-- 'attestlaw2.CodeEncodes', WHERE WHAT IT READS IS OF BULK AT MOST 1048576: true; the input reads as it did. -/
def codeEncodesUptoRow : OpenClaim := { program := "ytkhkoeibigpdnaadoor", sum := "45288cd0544abbf6857b8f43cfa85aeec62b8a5cb640b8268b5b7ad9f5fe35cc", func := "attest/attestlaw2.CodeEncodes", spec := "codeEncodes", inPlace := ["internal/reflectlite.ValueOf", "(internal/reflectlite.Value).Type", "(internal/reflectlite.Value).IsNil", "internal/reflectlite.TypeOf", "(internal/reflectlite.Value).Elem", "(internal/reflectlite.Value).Set"], unfollowed := true, recurses := true, named := ["errors.errorType"], apart := false, laid := [("errors.errorType", laid_errors_errorType)], narrowed := true }
def CodeEncodesUptoSaid : Prop := codeEncodesUptoRow.holds Tryd.pinned (OpenSpec.upto codeEncodesSpec)

/-- 'attestlaw2.CodeMends', WHERE WHAT IT READS IS OF BULK AT MOST 1048576: true; the input reads as it did. -/
def codeMendsUptoRow : OpenClaim := { program := "ytkhkoeibigpdnaadoor", sum := "45288cd0544abbf6857b8f43cfa85aeec62b8a5cb640b8268b5b7ad9f5fe35cc", func := "attest/attestlaw2.CodeMends", spec := "codeMends", inPlace := ["internal/reflectlite.ValueOf", "(internal/reflectlite.Value).Type", "(internal/reflectlite.Value).IsNil", "internal/reflectlite.TypeOf", "(internal/reflectlite.Value).Elem", "(internal/reflectlite.Value).Set"], unfollowed := true, recurses := true, named := ["errors.errorType"], apart := false, laid := [("errors.errorType", laid_errors_errorType)], narrowed := true }
def CodeMendsUptoSaid : Prop := codeMendsUptoRow.holds Tryd.pinned (OpenSpec.upto codeMendsSpec)

/-- 'attestlaw2.CodeDecodes', WHERE WHAT IT READS IS OF BULK AT MOST 1048576: true; the input reads as it did. -/
def codeDecodesUptoRow : OpenClaim := { program := "ytkhkoeibigpdnaadoor", sum := "45288cd0544abbf6857b8f43cfa85aeec62b8a5cb640b8268b5b7ad9f5fe35cc", func := "attest/attestlaw2.CodeDecodes", spec := "codeDecodes", inPlace := ["internal/reflectlite.ValueOf", "(internal/reflectlite.Value).Type", "(internal/reflectlite.Value).IsNil", "internal/reflectlite.TypeOf", "(internal/reflectlite.Value).Elem", "(internal/reflectlite.Value).Set"], unfollowed := true, recurses := true, named := ["errors.errorType"], apart := false, laid := [("errors.errorType", laid_errors_errorType)], narrowed := true }
def CodeDecodesUptoSaid : Prop := codeDecodesUptoRow.holds Tryd.pinned (OpenSpec.upto codeDecodesSpec)

/-- 'attestlaw4.SumsExtends', WHERE WHAT IT READS IS OF BULK AT MOST 1048576: true; the input reads as it did. -/
def sumsExtendsUptoRow : OpenClaim := { program := "ytkhkoeibigpdnaadoor", sum := "45288cd0544abbf6857b8f43cfa85aeec62b8a5cb640b8268b5b7ad9f5fe35cc", func := "attest/attestlaw4.SumsExtends", spec := "sumsExtends", inPlace := ["internal/reflectlite.ValueOf", "(internal/reflectlite.Value).Type", "(internal/reflectlite.Value).IsNil", "internal/reflectlite.TypeOf", "(internal/reflectlite.Value).Elem", "(internal/reflectlite.Value).Set"], unfollowed := true, recurses := true, named := ["errors.errorType"], apart := false, laid := [("errors.errorType", laid_errors_errorType)], narrowed := true }
def SumsExtendsUptoSaid : Prop := sumsExtendsUptoRow.holds Tryd.pinned (OpenSpec.upto sumsExtendsSpec)

/-- 'attestlaw4.SumsTotals', WHERE WHAT IT READS IS OF BULK AT MOST 1048576: true; the input reads as it did. -/
def sumsTotalsUptoRow : OpenClaim := { program := "ytkhkoeibigpdnaadoor", sum := "45288cd0544abbf6857b8f43cfa85aeec62b8a5cb640b8268b5b7ad9f5fe35cc", func := "attest/attestlaw4.SumsTotals", spec := "sumsTotals", inPlace := ["internal/reflectlite.ValueOf", "(internal/reflectlite.Value).Type", "(internal/reflectlite.Value).IsNil", "internal/reflectlite.TypeOf", "(internal/reflectlite.Value).Elem", "(internal/reflectlite.Value).Set"], unfollowed := true, recurses := true, named := ["errors.errorType"], apart := false, laid := [("errors.errorType", laid_errors_errorType)], narrowed := true }
def SumsTotalsUptoSaid : Prop := sumsTotalsUptoRow.holds Tryd.pinned (OpenSpec.upto sumsTotalsSpec)

/-- 'attestlaw4.SumsChecks', WHERE WHAT IT READS IS OF BULK AT MOST 1048576: true; the input reads as it did. -/
def sumsChecksUptoRow : OpenClaim := { program := "ytkhkoeibigpdnaadoor", sum := "45288cd0544abbf6857b8f43cfa85aeec62b8a5cb640b8268b5b7ad9f5fe35cc", func := "attest/attestlaw4.SumsChecks", spec := "sumsChecks", inPlace := ["internal/reflectlite.ValueOf", "(internal/reflectlite.Value).Type", "(internal/reflectlite.Value).IsNil", "internal/reflectlite.TypeOf", "(internal/reflectlite.Value).Elem", "(internal/reflectlite.Value).Set"], unfollowed := true, recurses := true, named := ["errors.errorType"], apart := false, laid := [("errors.errorType", laid_errors_errorType)], narrowed := true }
def SumsChecksUptoSaid : Prop := sumsChecksUptoRow.holds Tryd.pinned (OpenSpec.upto sumsChecksSpec)

/-- 'attestlaw4.SumsMakes', WHERE WHAT IT READS IS OF BULK AT MOST 1048576: true; the input reads as it did. -/
def sumsMakesUptoRow : OpenClaim := { program := "ytkhkoeibigpdnaadoor", sum := "45288cd0544abbf6857b8f43cfa85aeec62b8a5cb640b8268b5b7ad9f5fe35cc", func := "attest/attestlaw4.SumsMakes", spec := "sumsMakes", inPlace := ["internal/reflectlite.ValueOf", "(internal/reflectlite.Value).Type", "(internal/reflectlite.Value).IsNil", "internal/reflectlite.TypeOf", "(internal/reflectlite.Value).Elem", "(internal/reflectlite.Value).Set"], unfollowed := true, recurses := true, named := ["errors.errorType"], apart := false, laid := [("errors.errorType", laid_errors_errorType)], narrowed := true }
def SumsMakesUptoSaid : Prop := sumsMakesUptoRow.holds Tryd.pinned (OpenSpec.upto sumsMakesSpec)

/-- 'attestlaw5.FoldFolds', WHERE WHAT IT READS IS OF BULK AT MOST 1048576: true; the input reads as it did. -/
def foldFoldsUptoRow : OpenClaim := { program := "ytkhkoeibigpdnaadoor", sum := "45288cd0544abbf6857b8f43cfa85aeec62b8a5cb640b8268b5b7ad9f5fe35cc", func := "attest/attestlaw5.FoldFolds", spec := "foldFolds", inPlace := ["internal/reflectlite.ValueOf", "(internal/reflectlite.Value).Type", "(internal/reflectlite.Value).IsNil", "internal/reflectlite.TypeOf", "(internal/reflectlite.Value).Elem", "(internal/reflectlite.Value).Set"], unfollowed := true, recurses := true, named := ["errors.errorType"], apart := false, laid := [("errors.errorType", laid_errors_errorType)], narrowed := true }
def FoldFoldsUptoSaid : Prop := foldFoldsUptoRow.holds Tryd.pinned (OpenSpec.upto foldFoldsSpec)

end Rows
end Go.Proofs.YtkhkoeibigpdnaaDoor
