/- Walks: exact laws whose result is a row and a truth. Printed by gen_w14.py. -/
import Derived.Test.YtlbiioncpeondaaW13
import Derived.Test.YtlbiioncpeondaaW5
import Derived.Test.YtlbiioncpeondaaM10
namespace Go.Proofs.Ytlbiioncpeondaa
set_option linter.unusedVariables false
open Go.RowKit
theorem treeFor_small (xs : List Int) : (treeI xs).length ≤ 1000000 := by
  rcases h : codedOk xs with _ | _
  · rw [treeI_no h]; simp
  · obtain ⟨c, rfl, hc⟩ := codedOk_ex h
    rw [treeI_ok hc, ints_len, treeN_len]; have := hc.le6; omega

end Go.Proofs.Ytlbiioncpeondaa
