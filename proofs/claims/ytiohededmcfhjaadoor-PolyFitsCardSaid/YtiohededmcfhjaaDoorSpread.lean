/- The walk of (*Domain).spread: what a polynomial is at the powers of a root, by halves. -/
import Derived.Test.YtiohededmcfhjaaDoorDom
import Derived.Test.YtiohededmcfhjaaDoorMul
import Derived.Deep.RegionHeld3
set_option linter.unusedVariables false
namespace Go.Proofs.YtiohededmcfhjaaDoor
open Go.RowKit Zp

end Go.Proofs.YtiohededmcfhjaaDoor
