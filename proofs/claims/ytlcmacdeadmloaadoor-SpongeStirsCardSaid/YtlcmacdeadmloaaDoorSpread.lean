/- The walk of (*Domain).spread: what a polynomial is at the powers of a root, by halves. -/
import Derived.Test.YtlcmacdeadmloaaDoorDom
import Derived.Test.YtlcmacdeadmloaaDoorMul
import Derived.Deep.RegionHeld3
set_option linter.unusedVariables false
namespace Go.Proofs.YtlcmacdeadmloaaDoor
open Go.RowKit Zp

end Go.Proofs.YtlcmacdeadmloaaDoor
