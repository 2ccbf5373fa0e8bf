/- The walk of poly.Trim. -/
import Derived.Test.YtlcmacdeadmloaaDoorDeg
set_option linter.unusedVariables false
namespace Go.Proofs.YtlcmacdeadmloaaDoor
open Go.RowKit Zp

end Go.Proofs.YtlcmacdeadmloaaDoor
