/- Walks: the drawing of a desk for DeskOk; the law FnDeskOk. -/
import Derived.Test.YtnpjelekpkgbpaaDoorW103
namespace Go.Proofs.YtnpjelekpkgbpaaDoor
set_option linter.unusedVariables false
open Go.RowKit

def DrawnD (w : World) (e : Ending) (w' : World) : Prop :=
  ∃ A n c xs P m d yss, e = .returned (.agg #[.slice A n c, .slice P m d]) ∧ RdD w' w'.heap.size A n c xs P m d yss ∧ Below w.heap.size w w'
end Go.Proofs.YtnpjelekpkgbpaaDoor
