import Derived.Test.YtijnmnpigjadhabDkB
import Derived.Test.YtijnmnpigjadhabDkS
import Derived.Test.YtijnmnpigjadhabRexCall
import Derived.Test.YtijnmnpigjadhabRexRow
set_option linter.unusedVariables false
set_option maxRecDepth 100000
namespace Go.Dk
open Go Go.Rex Go.Proofs
abbrev R : Prim := cmpPrim 99
noncomputable abbrev X : CallF := axW tab.get R
noncomputable abbrev cx : Cx := cxOf X
theorem k6 (h : Hp) : X 6 [] h = some (.lit (.bool true), h) := axW_fuel 90 (by kernel_rfl)
end Go.Dk
