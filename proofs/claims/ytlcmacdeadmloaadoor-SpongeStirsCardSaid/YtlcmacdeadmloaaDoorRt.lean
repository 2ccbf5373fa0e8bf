/- The walk of the field's Root. -/
import Derived.Test.YtlcmacdeadmloaaDoorFw4
import Derived.Test.YtlcmacdeadmloaaDoorDm
import Derived.Test.YtlcmacdeadmloaaDoorRound
import Derived.IntWalk
set_option linter.unusedVariables false
namespace Go.Proofs.YtlcmacdeadmloaaDoor
open Go.RowKit Zp

theorem genN_lt {p : Nat} [NeZero p] (hp : IsPrime p) : genN p < p := (genN_is hp).2.1

end Go.Proofs.YtlcmacdeadmloaaDoor
