import Derived.Test.YtllbopmdpmjcpaaGreatDoorM10
import Derived.Test.YtllbopmdpmjcpaaGreatDoorM15
set_option linter.unusedSimpArgs false
set_option linter.unusedVariables false
set_option linter.unusedSectionVars false
open Go Go.Pl Go.Proofs
namespace Go.Pl.Z
set_option maxRecDepth 100000
end Go.Pl.Z
