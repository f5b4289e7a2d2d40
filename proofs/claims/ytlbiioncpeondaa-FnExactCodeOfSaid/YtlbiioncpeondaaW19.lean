/- Walks: the drawings of this round (spec), the laws FnSetOk, FnComesFrom, FnGardenOf, FnClosedOk (walks). -/
import Derived.Test.YtlbiioncpeondaaW18
import Derived.Test.YtlbiioncpeondaaW6
namespace Go.Proofs.Ytlbiioncpeondaa
set_option linter.unusedVariables false
open Go.RowKit

theorem drawn_set {w w1 w2 : World} {A : Option Addr} {n c : Nat} {xs : List Int} (hb : Below w.heap.size w w1) (hO : OwnIn w2 w1.heap.size w2.heap.size A n c xs) (hC : Chg w.heap.size (w.heap.size + 1) w1 w2) :
    OwnIn w2 w.heap.size w2.heap.size A n c xs ∧ Below w.heap.size w w2 :=
  ⟨hO.wide hb.size (Nat.le_refl _), hb.trans (hC.belowLo (Nat.le_refl _) hb.size)⟩
/-! ### laws -/
end Go.Proofs.Ytlbiioncpeondaa
