/- Walk: DeskDo of the reference, whole. -/
import Derived.Test.YtnpjelekpkgbpaaDoorW83
import Derived.Test.YtnpjelekpkgbpaaDoorW84
import Derived.Test.YtnpjelekpkgbpaaDoorW85
import Derived.Test.YtnpjelekpkgbpaaDoorW87
namespace Go.Proofs.YtnpjelekpkgbpaaDoor
set_option linter.unusedVariables false
open Go.RowKit

theorem back_is {yss : List (List Int)} {kd a b : Int} {s : ByteArray} : backB yss kd a b s = (isBack kd a b s && decide (yss ≠ [])) := rfl
end Go.Proofs.YtnpjelekpkgbpaaDoor
