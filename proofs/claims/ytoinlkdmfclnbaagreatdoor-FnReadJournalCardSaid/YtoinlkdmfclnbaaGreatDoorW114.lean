/- Walks: the drawing of a deed for DeedText. -/
import Derived.Test.YtoinlkdmfclnbaaGreatDoorW113
import Derived.Test.YtoinlkdmfclnbaaGreatDoorV16
namespace Go.Proofs.YtoinlkdmfclnbaaGreatDoor
set_option linter.unusedVariables false
open Go.RowKit

def DrawnDd (w : World) (e : Ending) (w' : World) : Prop :=
  ∃ (kd a b : Int) (s : ByteArray), e = .returned (.agg #[.int .i64 kd, .int .i64 a, .int .i64 b, .string s]) ∧ s.size ≤ 7 ∧ Below w.heap.size w w'
end Go.Proofs.YtoinlkdmfclnbaaGreatDoor
