/- A slice of ints that came in, of bulk at most 1048576. -/
import Derived.Test.YtiohededmcfhjaaDoorArg
set_option linter.unusedVariables false
namespace Go.Proofs.YtiohededmcfhjaaDoor
open Go.RowKit
abbrev ArgU (w : World) (A : Option Addr) (n c : Nat) (xs : List Int) : Prop := ArgS w A n c xs ∧ c ≤ 1048576
end Go.Proofs.YtiohededmcfhjaaDoor
