/- The walk of the field's Root. -/
import Derived.Test.YtiohededmcfhjaaDoorFw4
import Derived.Test.YtiohededmcfhjaaDoorDm
import Derived.Test.YtiohededmcfhjaaDoorRound
import Derived.IntWalk
set_option linter.unusedVariables false
namespace Go.Proofs.YtiohededmcfhjaaDoor
open Go.RowKit Zp

theorem genN_lt {p : Nat} [NeZero p] (hp : IsPrime p) : genN p < p := (genN_is hp).2.1

end Go.Proofs.YtiohededmcfhjaaDoor
