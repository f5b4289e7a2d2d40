/- Walks: the exact laws over one number or one truth. Printed by gen_w5.py. -/
import Derived.Test.YtpbpkdkjjbhjoaaW5
import Derived.Test.YtpbpkdkjjbhjoaaW8
namespace Go.Proofs.Ytpbpkdkjjbhjoaa
set_option linter.unusedVariables false
open Go.RowKit
set_option maxHeartbeats 400000 in
theorem walk_FnExactClosedWithin (A : Option Addr) (n c : Nat) (xs : List Int) (s : Int) (w : World) (h : Rd w w.heap.size A n c xs) (_hs : -9223372036854775808 ≤ s ∧ s ≤ 9223372036854775807) :
    Calls Try.prog 4 #[.slice A n c, .int .i64 s] w fun e w' => e = .returned (.bool true) ∧ Below w.heap.size w w' := by
  by_cases hbig : 1048576 < n
  · go_enter Try.func4, Try.ntmps4
    go_wp2_with fail
    go_ret
    exact ⟨rfl, Below.refl _ _⟩
  · have hself := eqB_self xs
    have hn : n ≤ 17592186044416 := by omega
    go_enter Try.func4, Try.ntmps4
    go_wp2_with fail
    refine (toIntS_c A n c xs _ h hn).mono ?_
    rintro e w1 ⟨rfl, ho1, hb1⟩
    go_wp2_with fail
    refine (sClosedWithin_c _ _ _ _ _ _ ho1.rd).mono ?_
    rintro e v1 ⟨rfl, hbv1⟩
    have h1 := h.up hb1 |>.up hbv1
    have hB1 := bt hb1 hbv1
    go_wp2_with fail
    refine (toIntS_c A n c xs _ h1 hn).mono ?_
    rintro e w2 ⟨rfl, ho2, hb2⟩
    go_wp2_with fail
    refine (closedWithin_c _ _ _ _ _ _ ho2.rd).mono ?_
    rintro e v2 ⟨rfl, rfl⟩
    have h2 := h1.up hb2
    go_wp2_with fail
    refine (toIntS_c A n c xs _ h2 hn).mono ?_
    rintro e w3 ⟨rfl, ho3, hb3⟩
    go_wp2_with fail
    refine (eqIntS_c _ _ _ _ _ _ xs xs _ (ho2.rd.up hb3) ho3.rd).mono ?_
    rintro e w4 ⟨rfl, m4, rfl⟩
    go_wp2_with fail
    go_ret
    exact ⟨rfl, bd (bt (bt hB1 (hb2)) hb3) _⟩

set_option maxHeartbeats 400000 in
theorem walk_FnExactLimitOf (A : Option Addr) (n c : Nat) (xs : List Int) (w : World) (h : Rd w w.heap.size A n c xs)  :
    Calls Try.prog 5 #[.slice A n c] w fun e w' => e = .returned (.bool true) ∧ Below w.heap.size w w' := by
  by_cases hbig : 1048576 < n
  · go_enter Try.func5, Try.ntmps5
    go_wp2_with fail
    go_ret
    exact ⟨rfl, Below.refl _ _⟩
  · have hself := eqB_self xs
    have hn : n ≤ 17592186044416 := by omega
    go_enter Try.func5, Try.ntmps5
    go_wp2_with fail
    refine (toIntS_c A n c xs _ h hn).mono ?_
    rintro e w1 ⟨rfl, ho1, hb1⟩
    go_wp2_with fail
    refine (sLimitOf_c _ _ _ _ _ ho1.rd).mono ?_
    rintro e v1 ⟨rfl, rfl⟩
    have h1 := h.up hb1
    have hB1 := hb1
    go_wp2_with fail
    refine (toIntS_c A n c xs _ h1 hn).mono ?_
    rintro e w2 ⟨rfl, ho2, hb2⟩
    go_wp2_with fail
    refine (limitOf_c _ _ _ _ _ ho2.rd).mono ?_
    rintro e v2 ⟨rfl, rfl⟩
    have h2 := h1.up hb2
    go_wp2_with fail
    refine (toIntS_c A n c xs _ h2 hn).mono ?_
    rintro e w3 ⟨rfl, ho3, hb3⟩
    go_wp2_with fail
    refine (eqIntS_c _ _ _ _ _ _ xs xs _ (ho2.rd.up hb3) ho3.rd).mono ?_
    rintro e w4 ⟨rfl, m4, rfl⟩
    go_wp2_with fail
    go_ret
    exact ⟨rfl, bd (bt (bt hB1 (hb2)) hb3) _⟩

set_option maxHeartbeats 400000 in
theorem walk_FnExactClosedAround (A : Option Addr) (n c : Nat) (xs : List Int) (s : Int) (w : World) (h : Rd w w.heap.size A n c xs) (_hs : -9223372036854775808 ≤ s ∧ s ≤ 9223372036854775807) :
    Calls Try.prog 6 #[.slice A n c, .int .i64 s] w fun e w' => e = .returned (.bool true) ∧ Below w.heap.size w w' := by
  by_cases hbig : 1048576 < n
  · go_enter Try.func6, Try.ntmps6
    go_wp2_with fail
    go_ret
    exact ⟨rfl, Below.refl _ _⟩
  · have hself := eqB_self xs
    have hn : n ≤ 17592186044416 := by omega
    go_enter Try.func6, Try.ntmps6
    go_wp2_with fail
    refine (toIntS_c A n c xs _ h hn).mono ?_
    rintro e w1 ⟨rfl, ho1, hb1⟩
    go_wp2_with fail
    refine (sClosedAround_c _ _ _ _ _ _ ho1.rd).mono ?_
    rintro e v1 ⟨rfl, rfl⟩
    have h1 := h.up hb1
    have hB1 := hb1
    go_wp2_with fail
    refine (toIntS_c A n c xs _ h1 hn).mono ?_
    rintro e w2 ⟨rfl, ho2, hb2⟩
    go_wp2_with fail
    refine (closedAround_c _ _ _ _ _ _ ho2.rd).mono ?_
    rintro e v2 ⟨rfl, rfl⟩
    have h2 := h1.up hb2
    go_wp2_with fail
    refine (toIntS_c A n c xs _ h2 hn).mono ?_
    rintro e w3 ⟨rfl, ho3, hb3⟩
    go_wp2_with fail
    refine (eqIntS_c _ _ _ _ _ _ xs xs _ (ho2.rd.up hb3) ho3.rd).mono ?_
    rintro e w4 ⟨rfl, m4, rfl⟩
    go_wp2_with fail
    go_ret
    exact ⟨rfl, bd (bt (bt hB1 (hb2)) hb3) _⟩

end Go.Proofs.Ytpbpkdkjjbhjoaa
