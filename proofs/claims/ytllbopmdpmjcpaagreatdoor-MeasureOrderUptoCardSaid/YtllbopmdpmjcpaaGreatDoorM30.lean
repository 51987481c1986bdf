import Derived.Test.YtllbopmdpmjcpaaGreatDoorM29
import Derived.Test.YtllbopmdpmjcpaaGreatDoorProg
import Derived.KernelRfl
set_option linter.unusedSimpArgs false
set_option linter.unusedVariables false
set_option linter.unusedSectionVars false
open Go Go.Pl Go.Proofs
namespace Go.Pl.L
theorem hm : Tryz.prog.follows .mixedOrders = true := by kernel_rfl
end Go.Pl.L
