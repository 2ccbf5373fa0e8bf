/- Walks: the reference's Order, Generator, Root. -/
import Derived.Test.YtiohededmcfhjaaDoorRb
import Derived.Test.YtiohededmcfhjaaDoorOd
import Derived.Test.YtiohededmcfhjaaDoorRt
set_option linter.unusedVariables false
namespace Go.Proofs.YtiohededmcfhjaaDoor
open Go.RowKit Zp



end Go.Proofs.YtiohededmcfhjaaDoor
