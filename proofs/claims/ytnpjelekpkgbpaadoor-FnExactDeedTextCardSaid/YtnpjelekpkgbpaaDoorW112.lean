/- Walk: the law FnExactDeedText. -/
import Derived.Test.YtnpjelekpkgbpaaDoorW111
import Derived.Test.YtnpjelekpkgbpaaDoorW89
namespace Go.Proofs.YtnpjelekpkgbpaaDoor
set_option linter.unusedVariables false
open Go.RowKit

set_option maxRecDepth 100000 in
set_option maxHeartbeats 800000 in
theorem walk_FnExactDeedText (kd a b : Int) (s : ByteArray) (w : World) (ht : Tb w) (h6 : 6 ≤ w.heap.size) (hs : s.size ≤ maxLen) :
    Calls Tryd.prog 3 #[.agg #[.int .i64 kd, .int .i64 a, .int .i64 b, .string s]] w fun e w' => e = .returned (.bool true) ∧ Below w.heap.size w w' := by
  have hF := Four.made w 23 kd a b s
  have hb1 : Below w.heap.size w (w.alloc (.cells #[.int .i64 kd, .int .i64 a, .int .i64 b, .string s] 23)) := (Below.refl _ _).alloc (Nat.le_refl _) _
  obtain ⟨_, k0, k1, k2, k3⟩ := id hF
  go_enter Tryd.func3, Tryd.ntmps3
  go_wp2_with fail
  generalize w.alloc (.cells #[.int .i64 _, .int .i64 a, .int .i64 b, .string s] 23) = w1 at *
  refine (szDeed_c kd a b s 1048576 _ hs (by omega) (by omega)).mono ?_
  rintro e w2 ⟨r, rfl, hb2, hr1, hr2, hr3⟩
  have hB2 := bt hb1 hb2
  have hF2 := hF.up hb2
  clear hb1 hb2 k0 k1 k2 k3 hF
  obtain ⟨_, k0, k1, k2, k3⟩ := id hF2
  by_cases hneg : r < 0
  · go_wp2_with fail
    go_ret
    exact ⟨rfl, hB2⟩
  have hsz : s.size ≤ 1000000000000 := by omega
  go_wp2_with fail
  refine (toDeed_c kd a b s _).mono ?_
  rintro e w3 ⟨rfl, hb3⟩
  have hB3 := bt hB2 hb3
  have hF3 := hF2.up hb3
  clear hb3 k0 k1 k2 k3 hF2
  obtain ⟨_, k0, k1, k2, k3⟩ := id hF3
  go_wp2_with fail
  refine (sDeedText_c kd a b s _ hsz).mono ?_
  rintro e w4 ⟨rfl, hb4⟩
  have hB4 := bt hB3 hb4
  have hF4 := hF3.up hb4
  clear hb4 k0 k1 k2 k3 hF3
  obtain ⟨_, k0, k1, k2, k3⟩ := id hF4
  go_wp2_with fail
  refine (toDeed_c kd a b s _).mono ?_
  rintro e w5 ⟨rfl, hb5⟩
  have hB5 := bt hB4 hb5
  have ht5 := ht.below hB5 h6
  have hz5 := hB5.size
  clear hb5 k0 k1 k2 k3 hF4
  go_wp2_with fail
  refine (deedText_c kd a b s _ hsz ht5 (by omega)).mono ?_
  rintro e w6 ⟨rfl, hb6⟩
  have hB6 := bt hB5 hb6
  go_wp2_with fail
  go_ret
  exact ⟨rfl, hB6⟩
end Go.Proofs.YtnpjelekpkgbpaaDoor
