/- Bundle M24. -/
import Derived.Test.YtoinlkdmfclnbaaGreatDoorZV10
import Derived.Test.YtoinlkdmfclnbaaGreatDoorZVC
namespace Go.Proofs.YtoinlkdmfclnbaaGreatDoor
set_option linter.unusedVariables false
variable {xs : List Int} {yss : List (List Int)} {kd a b : Int} {s : ByteArray}

end Go.Proofs.YtoinlkdmfclnbaaGreatDoor
