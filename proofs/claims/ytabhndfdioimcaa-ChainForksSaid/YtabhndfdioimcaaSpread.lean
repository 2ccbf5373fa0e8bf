/- The walk of (*Domain).spread: what a polynomial is at the powers of a root, by halves. -/
import Derived.Test.YtabhndfdioimcaaDom
import Derived.Test.YtabhndfdioimcaaMul
import Derived.Deep.RegionHeld3
set_option linter.unusedVariables false
namespace Go.Proofs.Ytabhndfdioimcaa
open Go.RowKit Zp

end Go.Proofs.Ytabhndfdioimcaa
