/-
  No cell of these rows narrows 'for every input' (looked for: loops, veiled, ifaces, maps, wideKeys, modest, calm, conditions, laid).
  DERIVED. THE GIVEN ROWS OF THIS SEAT. 11 by the template 'for every input the law returns true; each argument reads behind the call as it read before'; 0 by the template 'total and deterministic' (their statements: YtehgeiaglddabaaTotals.lean).
  GIVEN WITH THE SEED: the statements are not yours to turn. If you find one false, say at which input.
  Laid BY PROGRAM, IN A SANDBOX (cutbox-rows.mjs): the forced cells as the released guide's own fill.sh prints them over the translation 04c72aacb3a76bc0… (all of the seat's roots in one cut). By AI agents, Wed Nov 11 2026. No macro, syntax, notation, axiom, sorry.
-/
import Derived.Test.YtehgeiaglddabaaChecked
import GoSem.Claim
import GoSem.ClaimJoined
import GoSem.ClaimMapViews
import Derived.JoinedTies
import Derived.KernelRfl
namespace Go.Proofs.Ytehgeiaglddabaa
/- THE CELL 'sum', in the pinned program and in every row, IS THE sha256 OF THE DUMP (.gsa) THAT YtehgeiaglddabaaProg.lean LOADS. Nothing in Lean hashes anything: it is a label: what it is worth is what the hold of that sum in a sandbox is worth. -/
noncomputable def Try.pinned : Pinned := { name := "ytehgeiaglddabaa", sum := "04c72aacb3a76bc09d8672f9995fdb979e79379b0dc5281431123fa6d2e1c551", checked := Try.checked }
namespace Rows
def none {H : Type} : Left H := { results := [], args := [] }

/-- 'attestlaw1.Names': WHATEVER THE INPUT: true; the input reads as it did. -/
def namesSpec : ChangeSpec := { name := "names", fn := fun _ => fun
  | [] => { results := [.lit (.bool true)], args := [] }
  | _ => none }
def namesRow : OpenClaim := { program := "ytehgeiaglddabaa", sum := "04c72aacb3a76bc09d8672f9995fdb979e79379b0dc5281431123fa6d2e1c551", func := "attest/attestlaw1.Names", spec := "names", apart := false }
def NamesSaid : Prop := namesRow.holds Try.pinned (OpenSpec.ofChange namesSpec)

/-- ITS FALSE NEIGHBOUR: 'it returns false'. Refute it at one input. -/
def namesWrong : ChangeSpec := { name := "names", fn := fun _ => fun
  | [] => { results := [.lit (.bool false)], args := [] }
  | _ => none }
def NamesWrongFalsely : Prop := namesRow.holds Try.pinned (OpenSpec.ofChange namesWrong)

/-- 'attestlaw1.FieldFermat': WHATEVER THE INPUT: true; the input reads as it did. -/
def fieldFermatSpec : ChangeSpec := { name := "fieldFermat", fn := fun _ => fun
  | [d1, d2] => { results := [.lit (.bool true)], args := [d1, d2] }
  | _ => none }
def fieldFermatRow : OpenClaim := { program := "ytehgeiaglddabaa", sum := "04c72aacb3a76bc09d8672f9995fdb979e79379b0dc5281431123fa6d2e1c551", func := "attest/attestlaw1.FieldFermat", spec := "fieldFermat", apart := false }
def FieldFermatSaid : Prop := fieldFermatRow.holds Try.pinned (OpenSpec.ofChange fieldFermatSpec)

/-- ITS FALSE NEIGHBOUR: 'it returns false'. Refute it at one input. -/
def fieldFermatWrong : ChangeSpec := { name := "fieldFermat", fn := fun _ => fun
  | [d1, d2] => { results := [.lit (.bool false)], args := [d1, d2] }
  | _ => none }
def FieldFermatWrongFalsely : Prop := fieldFermatRow.holds Try.pinned (OpenSpec.ofChange fieldFermatWrong)

/-- 'attestlaw1.PolyRoots': WHATEVER THE INPUT: true; the input reads as it did. -/
def polyRootsSpec : ChangeSpec := { name := "polyRoots", fn := fun _ => fun
  | [d1, d2, d3] => { results := [.lit (.bool true)], args := [d1, d2, d3] }
  | _ => none }
def polyRootsRow : OpenClaim := { program := "ytehgeiaglddabaa", sum := "04c72aacb3a76bc09d8672f9995fdb979e79379b0dc5281431123fa6d2e1c551", func := "attest/attestlaw1.PolyRoots", spec := "polyRoots", unfollowed := true, recurses := true, apart := false }
def PolyRootsSaid : Prop := polyRootsRow.holds Try.pinned (OpenSpec.ofChange polyRootsSpec)

/-- ITS FALSE NEIGHBOUR: 'it returns false'. Refute it at one input. -/
def polyRootsWrong : ChangeSpec := { name := "polyRoots", fn := fun _ => fun
  | [d1, d2, d3] => { results := [.lit (.bool false)], args := [d1, d2, d3] }
  | _ => none }
def PolyRootsWrongFalsely : Prop := polyRootsRow.holds Try.pinned (OpenSpec.ofChange polyRootsWrong)

/-- 'attestlaw2.DomainTimes': WHATEVER THE INPUT: true; the input reads as it did. -/
def domainTimesSpec : ChangeSpec := { name := "domainTimes", fn := fun _ => fun
  | [d1, d2, d3, d4, d5] => { results := [.lit (.bool true)], args := [d1, d2, d3, d4, d5] }
  | _ => none }
def domainTimesRow : OpenClaim := { program := "ytehgeiaglddabaa", sum := "04c72aacb3a76bc09d8672f9995fdb979e79379b0dc5281431123fa6d2e1c551", func := "attest/attestlaw2.DomainTimes", spec := "domainTimes", recurses := true, apart := false }
def DomainTimesSaid : Prop := domainTimesRow.holds Try.pinned (OpenSpec.ofChange domainTimesSpec)

/-- ITS FALSE NEIGHBOUR: 'it returns false'. Refute it at one input. -/
def domainTimesWrong : ChangeSpec := { name := "domainTimes", fn := fun _ => fun
  | [d1, d2, d3, d4, d5] => { results := [.lit (.bool false)], args := [d1, d2, d3, d4, d5] }
  | _ => none }
def DomainTimesWrongFalsely : Prop := domainTimesRow.holds Try.pinned (OpenSpec.ofChange domainTimesWrong)

/-- 'attestlaw4.SumsCatches': WHATEVER THE INPUT: true; the input reads as it did. -/
def sumsCatchesSpec : ChangeSpec := { name := "sumsCatches", fn := fun _ => fun
  | [d1, d2, d3, d4, d5] => { results := [.lit (.bool true)], args := [d1, d2, d3, d4, d5] }
  | _ => none }
def sumsCatchesRow : OpenClaim := { program := "ytehgeiaglddabaa", sum := "04c72aacb3a76bc09d8672f9995fdb979e79379b0dc5281431123fa6d2e1c551", func := "attest/attestlaw4.SumsCatches", spec := "sumsCatches", unfollowed := true, recurses := true, apart := false }
def SumsCatchesSaid : Prop := sumsCatchesRow.holds Try.pinned (OpenSpec.ofChange sumsCatchesSpec)

/-- ITS FALSE NEIGHBOUR: 'it returns false'. Refute it at one input. -/
def sumsCatchesWrong : ChangeSpec := { name := "sumsCatches", fn := fun _ => fun
  | [d1, d2, d3, d4, d5] => { results := [.lit (.bool false)], args := [d1, d2, d3, d4, d5] }
  | _ => none }
def SumsCatchesWrongFalsely : Prop := sumsCatchesRow.holds Try.pinned (OpenSpec.ofChange sumsCatchesWrong)

/-- 'attestlaw4.SumsOnly': WHATEVER THE INPUT: true; the input reads as it did. -/
def sumsOnlySpec : ChangeSpec := { name := "sumsOnly", fn := fun _ => fun
  | [d1, d2, d3, d4, d5] => { results := [.lit (.bool true)], args := [d1, d2, d3, d4, d5] }
  | _ => none }
def sumsOnlyRow : OpenClaim := { program := "ytehgeiaglddabaa", sum := "04c72aacb3a76bc09d8672f9995fdb979e79379b0dc5281431123fa6d2e1c551", func := "attest/attestlaw4.SumsOnly", spec := "sumsOnly", unfollowed := true, recurses := true, apart := false }
def SumsOnlySaid : Prop := sumsOnlyRow.holds Try.pinned (OpenSpec.ofChange sumsOnlySpec)

/-- ITS FALSE NEIGHBOUR: 'it returns false'. Refute it at one input. -/
def sumsOnlyWrong : ChangeSpec := { name := "sumsOnly", fn := fun _ => fun
  | [d1, d2, d3, d4, d5] => { results := [.lit (.bool false)], args := [d1, d2, d3, d4, d5] }
  | _ => none }
def SumsOnlyWrongFalsely : Prop := sumsOnlyRow.holds Try.pinned (OpenSpec.ofChange sumsOnlyWrong)

/-- 'attestlaw5.FoldKeeps': WHATEVER THE INPUT: true; the input reads as it did. -/
def foldKeepsSpec : ChangeSpec := { name := "foldKeeps", fn := fun _ => fun
  | [d1, d2, d3, d4, d5] => { results := [.lit (.bool true)], args := [d1, d2, d3, d4, d5] }
  | _ => none }
def foldKeepsRow : OpenClaim := { program := "ytehgeiaglddabaa", sum := "04c72aacb3a76bc09d8672f9995fdb979e79379b0dc5281431123fa6d2e1c551", func := "attest/attestlaw5.FoldKeeps", spec := "foldKeeps", recurses := true, apart := false }
def FoldKeepsSaid : Prop := foldKeepsRow.holds Try.pinned (OpenSpec.ofChange foldKeepsSpec)

/-- ITS FALSE NEIGHBOUR: 'it returns false'. Refute it at one input. -/
def foldKeepsWrong : ChangeSpec := { name := "foldKeeps", fn := fun _ => fun
  | [d1, d2, d3, d4, d5] => { results := [.lit (.bool false)], args := [d1, d2, d3, d4, d5] }
  | _ => none }
def FoldKeepsWrongFalsely : Prop := foldKeepsRow.holds Try.pinned (OpenSpec.ofChange foldKeepsWrong)

/-- 'attestlaw2.CodeApart': WHATEVER THE INPUT: true; the input reads as it did. -/
def codeApartSpec : ChangeSpec := { name := "codeApart", fn := fun _ => fun
  | [d1, d2, d3, d4, d5, d6] => { results := [.lit (.bool true)], args := [d1, d2, d3, d4, d5, d6] }
  | _ => none }
def codeApartRow : OpenClaim := { program := "ytehgeiaglddabaa", sum := "04c72aacb3a76bc09d8672f9995fdb979e79379b0dc5281431123fa6d2e1c551", func := "attest/attestlaw2.CodeApart", spec := "codeApart", unfollowed := true, recurses := true, apart := false }
def CodeApartSaid : Prop := codeApartRow.holds Try.pinned (OpenSpec.ofChange codeApartSpec)

/-- ITS FALSE NEIGHBOUR: 'it returns false'. Refute it at one input. -/
def codeApartWrong : ChangeSpec := { name := "codeApart", fn := fun _ => fun
  | [d1, d2, d3, d4, d5, d6] => { results := [.lit (.bool false)], args := [d1, d2, d3, d4, d5, d6] }
  | _ => none }
def CodeApartWrongFalsely : Prop := codeApartRow.holds Try.pinned (OpenSpec.ofChange codeApartWrong)

/-- 'attestlaw5.FoldCatches': WHATEVER THE INPUT: true; the input reads as it did. -/
def foldCatchesSpec : ChangeSpec := { name := "foldCatches", fn := fun _ => fun
  | [d1, d2, d3, d4, d5, d6, d7] => { results := [.lit (.bool true)], args := [d1, d2, d3, d4, d5, d6, d7] }
  | _ => none }
def foldCatchesRow : OpenClaim := { program := "ytehgeiaglddabaa", sum := "04c72aacb3a76bc09d8672f9995fdb979e79379b0dc5281431123fa6d2e1c551", func := "attest/attestlaw5.FoldCatches", spec := "foldCatches", recurses := true, apart := false }
def FoldCatchesSaid : Prop := foldCatchesRow.holds Try.pinned (OpenSpec.ofChange foldCatchesSpec)

/-- ITS FALSE NEIGHBOUR: 'it returns false'. Refute it at one input. -/
def foldCatchesWrong : ChangeSpec := { name := "foldCatches", fn := fun _ => fun
  | [d1, d2, d3, d4, d5, d6, d7] => { results := [.lit (.bool false)], args := [d1, d2, d3, d4, d5, d6, d7] }
  | _ => none }
def FoldCatchesWrongFalsely : Prop := foldCatchesRow.holds Try.pinned (OpenSpec.ofChange foldCatchesWrong)

/-- 'attestlaw5.FoldNear': WHATEVER THE INPUT: true; the input reads as it did. -/
def foldNearSpec : ChangeSpec := { name := "foldNear", fn := fun _ => fun
  | [d1, d2, d3, d4, d5, d6, d7, d8, d9] => { results := [.lit (.bool true)], args := [d1, d2, d3, d4, d5, d6, d7, d8, d9] }
  | _ => none }
def foldNearRow : OpenClaim := { program := "ytehgeiaglddabaa", sum := "04c72aacb3a76bc09d8672f9995fdb979e79379b0dc5281431123fa6d2e1c551", func := "attest/attestlaw5.FoldNear", spec := "foldNear", unfollowed := true, recurses := true, apart := false }
def FoldNearSaid : Prop := foldNearRow.holds Try.pinned (OpenSpec.ofChange foldNearSpec)

/-- ITS FALSE NEIGHBOUR: 'it returns false'. Refute it at one input. -/
def foldNearWrong : ChangeSpec := { name := "foldNear", fn := fun _ => fun
  | [d1, d2, d3, d4, d5, d6, d7, d8, d9] => { results := [.lit (.bool false)], args := [d1, d2, d3, d4, d5, d6, d7, d8, d9] }
  | _ => none }
def FoldNearWrongFalsely : Prop := foldNearRow.holds Try.pinned (OpenSpec.ofChange foldNearWrong)

/-- 'attestlaw4.SumsTrue': WHATEVER THE INPUT: true; the input reads as it did. -/
def sumsTrueSpec : ChangeSpec := { name := "sumsTrue", fn := fun _ => fun
  | [d1, d2, d3] => { results := [.lit (.bool true)], args := [d1, d2, d3] }
  | _ => none }
def sumsTrueRow : OpenClaim := { program := "ytehgeiaglddabaa", sum := "04c72aacb3a76bc09d8672f9995fdb979e79379b0dc5281431123fa6d2e1c551", func := "attest/attestlaw4.SumsTrue", spec := "sumsTrue", unfollowed := true, recurses := true, apart := false }
def SumsTrueSaid : Prop := sumsTrueRow.holds Try.pinned (OpenSpec.ofChange sumsTrueSpec)

/-- ITS FALSE NEIGHBOUR: 'it returns false'. Refute it at one input. -/
def sumsTrueWrong : ChangeSpec := { name := "sumsTrue", fn := fun _ => fun
  | [d1, d2, d3] => { results := [.lit (.bool false)], args := [d1, d2, d3] }
  | _ => none }
def SumsTrueWrongFalsely : Prop := sumsTrueRow.holds Try.pinned (OpenSpec.ofChange sumsTrueWrong)

/- THE SECOND FORM. 'bulk': how many values and letters a reading holds, each counted each time it is reached (what is shared counts as often as it is met; a slice's spare places count too). A statement '..UptoSaid' is the law's where the arguments, and the package variables that the reading takes, are together of bulk at most 1048576: NARROWER than '..Said'. Prove '..Said' where nothing that the law and all that it calls make is longer than what came in: it says more and counts as full. Else prove '..UptoSaid'. A law counts once. -/
mutual
def uptoBulk {H : Type} : DataW H → Nat
  | .lit (.string bytes) => bytes.length + 1
  | .lit _ => 1
  | .nil => 1
  | .ptr d => uptoBulk d + 1
  | .slice elems spare => uptoBulkAll elems + uptoBulkAll spare + 1
  | .agg parts => uptoBulkAll parts + 1
  | .iface _ d => uptoBulk d + 1
  | .map entries => uptoBulkEntries entries + 1
  | .held _ => 1
def uptoBulkAll {H : Type} : List (DataW H) → Nat
  | [] => 0
  | d :: r => uptoBulk d + uptoBulkAll r
def uptoBulkEntries {H : Type} : List (Lit × DataW H) → Nat
  | [] => 0
  | x :: r => uptoBulkEntry x + uptoBulkEntries r
def uptoBulkEntry {H : Type} : Lit × DataW H → Nat
  | (.string bytes, d) => bytes.length + uptoBulk d + 1
  | (_, d) => uptoBulk d + 1
 end
def uptoSmall : (H : Type) → List (DataW H) → Bool := fun _ ds => decide (uptoBulkAll ds ≤ 1048576)
def OpenSpec.upto (s : _root_.Go.ChangeSpec) : _root_.Go.OpenSpec := { _root_.Go.OpenSpec.ofChange s with cond := some uptoSmall }

/-- 'attestlaw1.Names', WHERE WHAT IT READS IS OF BULK AT MOST 1048576: true; the input reads as it did. -/
def namesUptoRow : OpenClaim := { program := "ytehgeiaglddabaa", sum := "04c72aacb3a76bc09d8672f9995fdb979e79379b0dc5281431123fa6d2e1c551", func := "attest/attestlaw1.Names", spec := "names", apart := false, narrowed := true }
def NamesUptoSaid : Prop := namesUptoRow.holds Try.pinned (OpenSpec.upto namesSpec)

/-- 'attestlaw1.FieldFermat', WHERE WHAT IT READS IS OF BULK AT MOST 1048576: true; the input reads as it did. -/
def fieldFermatUptoRow : OpenClaim := { program := "ytehgeiaglddabaa", sum := "04c72aacb3a76bc09d8672f9995fdb979e79379b0dc5281431123fa6d2e1c551", func := "attest/attestlaw1.FieldFermat", spec := "fieldFermat", apart := false, narrowed := true }
def FieldFermatUptoSaid : Prop := fieldFermatUptoRow.holds Try.pinned (OpenSpec.upto fieldFermatSpec)

/-- 'attestlaw1.PolyRoots', WHERE WHAT IT READS IS OF BULK AT MOST 1048576: true; the input reads as it did. -/
def polyRootsUptoRow : OpenClaim := { program := "ytehgeiaglddabaa", sum := "04c72aacb3a76bc09d8672f9995fdb979e79379b0dc5281431123fa6d2e1c551", func := "attest/attestlaw1.PolyRoots", spec := "polyRoots", unfollowed := true, recurses := true, apart := false, narrowed := true }
def PolyRootsUptoSaid : Prop := polyRootsUptoRow.holds Try.pinned (OpenSpec.upto polyRootsSpec)

/-- 'attestlaw2.DomainTimes', WHERE WHAT IT READS IS OF BULK AT MOST 1048576: true; the input reads as it did. -/
def domainTimesUptoRow : OpenClaim := { program := "ytehgeiaglddabaa", sum := "04c72aacb3a76bc09d8672f9995fdb979e79379b0dc5281431123fa6d2e1c551", func := "attest/attestlaw2.DomainTimes", spec := "domainTimes", recurses := true, apart := false, narrowed := true }
def DomainTimesUptoSaid : Prop := domainTimesUptoRow.holds Try.pinned (OpenSpec.upto domainTimesSpec)

/-- 'attestlaw4.SumsCatches', WHERE WHAT IT READS IS OF BULK AT MOST 1048576: true; the input reads as it did. -/
def sumsCatchesUptoRow : OpenClaim := { program := "ytehgeiaglddabaa", sum := "04c72aacb3a76bc09d8672f9995fdb979e79379b0dc5281431123fa6d2e1c551", func := "attest/attestlaw4.SumsCatches", spec := "sumsCatches", unfollowed := true, recurses := true, apart := false, narrowed := true }
def SumsCatchesUptoSaid : Prop := sumsCatchesUptoRow.holds Try.pinned (OpenSpec.upto sumsCatchesSpec)

/-- 'attestlaw4.SumsOnly', WHERE WHAT IT READS IS OF BULK AT MOST 1048576: true; the input reads as it did. -/
def sumsOnlyUptoRow : OpenClaim := { program := "ytehgeiaglddabaa", sum := "04c72aacb3a76bc09d8672f9995fdb979e79379b0dc5281431123fa6d2e1c551", func := "attest/attestlaw4.SumsOnly", spec := "sumsOnly", unfollowed := true, recurses := true, apart := false, narrowed := true }
def SumsOnlyUptoSaid : Prop := sumsOnlyUptoRow.holds Try.pinned (OpenSpec.upto sumsOnlySpec)

/-- 'attestlaw5.FoldKeeps', WHERE WHAT IT READS IS OF BULK AT MOST 1048576: true; the input reads as it did. -/
def foldKeepsUptoRow : OpenClaim := { program := "ytehgeiaglddabaa", sum := "04c72aacb3a76bc09d8672f9995fdb979e79379b0dc5281431123fa6d2e1c551", func := "attest/attestlaw5.FoldKeeps", spec := "foldKeeps", recurses := true, apart := false, narrowed := true }
def FoldKeepsUptoSaid : Prop := foldKeepsUptoRow.holds Try.pinned (OpenSpec.upto foldKeepsSpec)

/-- 'attestlaw2.CodeApart', WHERE WHAT IT READS IS OF BULK AT MOST 1048576: true; the input reads as it did. -/
def codeApartUptoRow : OpenClaim := { program := "ytehgeiaglddabaa", sum := "04c72aacb3a76bc09d8672f9995fdb979e79379b0dc5281431123fa6d2e1c551", func := "attest/attestlaw2.CodeApart", spec := "codeApart", unfollowed := true, recurses := true, apart := false, narrowed := true }
def CodeApartUptoSaid : Prop := codeApartUptoRow.holds Try.pinned (OpenSpec.upto codeApartSpec)

/-- 'attestlaw5.FoldCatches', WHERE WHAT IT READS IS OF BULK AT MOST 1048576: true; the input reads as it did. -/
def foldCatchesUptoRow : OpenClaim := { program := "ytehgeiaglddabaa", sum := "04c72aacb3a76bc09d8672f9995fdb979e79379b0dc5281431123fa6d2e1c551", func := "attest/attestlaw5.FoldCatches", spec := "foldCatches", recurses := true, apart := false, narrowed := true }
def FoldCatchesUptoSaid : Prop := foldCatchesUptoRow.holds Try.pinned (OpenSpec.upto foldCatchesSpec)

/-- 'attestlaw5.FoldNear', WHERE WHAT IT READS IS OF BULK AT MOST 1048576: true; the input reads as it did. -/
def foldNearUptoRow : OpenClaim := { program := "ytehgeiaglddabaa", sum := "04c72aacb3a76bc09d8672f9995fdb979e79379b0dc5281431123fa6d2e1c551", func := "attest/attestlaw5.FoldNear", spec := "foldNear", unfollowed := true, recurses := true, apart := false, narrowed := true }
def FoldNearUptoSaid : Prop := foldNearUptoRow.holds Try.pinned (OpenSpec.upto foldNearSpec)

/-- 'attestlaw4.SumsTrue', WHERE WHAT IT READS IS OF BULK AT MOST 1048576: true; the input reads as it did. -/
def sumsTrueUptoRow : OpenClaim := { program := "ytehgeiaglddabaa", sum := "04c72aacb3a76bc09d8672f9995fdb979e79379b0dc5281431123fa6d2e1c551", func := "attest/attestlaw4.SumsTrue", spec := "sumsTrue", unfollowed := true, recurses := true, apart := false, narrowed := true }
def SumsTrueUptoSaid : Prop := sumsTrueUptoRow.holds Try.pinned (OpenSpec.upto sumsTrueSpec)

end Rows
end Go.Proofs.Ytehgeiaglddabaa
