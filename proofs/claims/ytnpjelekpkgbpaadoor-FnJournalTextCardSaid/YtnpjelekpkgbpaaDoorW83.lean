/- Walks: DeskDo of the reference. Printed by gen_w83.py. -/
import Derived.Test.YtnpjelekpkgbpaaDoorW82
namespace Go.Proofs.YtnpjelekpkgbpaaDoor
set_option linter.unusedVariables false
open Go.RowKit

end Go.Proofs.YtnpjelekpkgbpaaDoor
