/- Walks: the exact laws over one number or one truth. Printed by gen_w5.py. -/
import Derived.Test.YtlbiioncpeondaaW4
namespace Go.Proofs.Ytlbiioncpeondaa
set_option linter.unusedVariables false
open Go.RowKit
theorem eqB_self (xs : List Int) : eqB xs xs = true := by simp [eqB]





end Go.Proofs.Ytlbiioncpeondaa
