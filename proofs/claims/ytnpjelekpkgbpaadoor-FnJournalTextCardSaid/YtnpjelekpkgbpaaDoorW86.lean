/- Walks: DeskDo of the reference (another map). Printed by gen_w83.py. -/
import Derived.Test.YtnpjelekpkgbpaaDoorW82
namespace Go.Proofs.YtnpjelekpkgbpaaDoor
set_option linter.unusedVariables false
open Go.RowKit

theorem OwnRR.lt6 {w : World} {B : Nat} {v : Value} {yss : List (List Int)} (h : OwnRR w B v yss) : ∀ g, v.ownBlock = some g → B ≤ g := by
  obtain ⟨vs, hv, _⟩ := h
  exact fun g hg => (hv.lt g hg).1
theorem OwnRR.rdr {w : World} {B : Nat} {P : Option Addr} {m d : Nat} {yss : List (List Int)} (h : OwnRR w B (.slice P m d) yss) : RdR w w.heap.size P m d yss := by
  obtain ⟨A', c', e, hr⟩ := h.form
  cases e
  exact hr
end Go.Proofs.YtnpjelekpkgbpaaDoor
