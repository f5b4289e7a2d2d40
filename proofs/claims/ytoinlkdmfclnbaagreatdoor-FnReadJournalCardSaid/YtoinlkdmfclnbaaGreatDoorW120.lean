/- Walks: the laws FnExactReadDeed, FnDeedText. -/
import Derived.Test.YtoinlkdmfclnbaaGreatDoorW119
import Derived.Laws.StructEq
namespace Go.Proofs.YtoinlkdmfclnbaaGreatDoor
set_option linter.unusedVariables false
open Go.RowKit

theorem inDeed (kd a b kd' a' b' : Int) (s s' : ByteArray) (w : World) : (Op.equalIn 10000 55 (.agg #[.int .i64 kd, .int .i64 a, .int .i64 b, .string s]) (.agg #[.int .i64 kd', .int .i64 a', .int .i64 b', .string s'])).run Tryz.prog w = .ok (decide (kd = kd') && decide (a = a') && decide (b = b') && (s.toList == s'.toList)) w := by
  have u3 := Tryz.underlying3
  have a3 := Tryz.isAgg3
  have z3 := Tryz.sizeOf3
  have u9 := Tryz.underlying9
  have a9 := Tryz.isAgg9
  have z9 := Tryz.sizeOf9
  have hS : Tryz.prog.underlying 55 = some (.struct (Tryz.prog.fieldsOf 55)) := by kernel_rfl
  have hp : Tryz.prog.stoodInHeld 55 = false := by kernel_rfl
  rw [show (10000 : Nat) = 9999 + 1 from rfl, run_equalIn_agg w 9999 55 _ _ hS hp]
  simp only [Program.fieldsOf, Tryz.underlying55]
  go_simp
  by_cases h1 : kd = kd' <;> by_cases h2 : a = a' <;> by_cases h3 : b = b' <;> by_cases h4 : s.toList = s'.toList <;> simp [h1, h2, h3, h4]
theorem eqDdSame (kd a b : Int) (s : ByteArray) (w : World) : (binOp .eql 55 (.agg #[.int .i64 kd, .int .i64 a, .int .i64 b, .string s]) (.agg #[.int .i64 kd, .int .i64 a, .int .i64 b, .string s])).run Tryz.prog w = .ok (.bool true) w := by
  rw [run_eql_struct, inDeed]
  simp
theorem neDdSame (kd a b : Int) (s : ByteArray) (w : World) : (binOp .neq 55 (.agg #[.int .i64 kd, .int .i64 a, .int .i64 b, .string s]) (.agg #[.int .i64 kd, .int .i64 a, .int .i64 b, .string s])).run Tryz.prog w = .ok (.bool false) w := by
  rw [run_neq_struct, inDeed]
  simp
end Go.Proofs.YtoinlkdmfclnbaaGreatDoor
