/- Walks: the exact laws over one number or one truth. Printed by gen_w5.py. -/
import Derived.Test.YtlbiioncpeondaaW5
import Derived.Test.YtlbiioncpeondaaW37
namespace Go.Proofs.Ytlbiioncpeondaa
set_option linter.unusedVariables false
open Go.RowKit

set_option maxHeartbeats 400000 in
theorem walk_FnExactTreeOk (A : Option Addr) (n c : Nat) (xs : List Int) (w : World) (h : Rd w w.heap.size A n c xs)  :
    Calls Try.prog 3 #[.slice A n c] w fun e w' => e = .returned (.bool true) ∧ Below w.heap.size w w' := by
  by_cases hbig : 1048576 < n
  · go_enter Try.func3, Try.ntmps3
    go_wp2_with fail
    go_ret
    exact ⟨rfl, Below.refl _ _⟩
  · have hself := eqB_self xs
    have hn : n ≤ 17592186044416 := by omega
    go_enter Try.func3, Try.ntmps3
    go_wp2_with fail
    refine (toIntS_c A n c xs _ h hn).mono ?_
    rintro e w1 ⟨rfl, ho1, hb1⟩
    go_wp2_with fail
    refine (sTreeOk_c _ _ _ _ _ ho1.rd).mono ?_
    rintro e v1 ⟨rfl, hbv1⟩
    have h1 := h.up hb1 |>.up hbv1
    have hB1 := bt hb1 hbv1
    go_wp2_with fail
    refine (toIntS_c A n c xs _ h1 hn).mono ?_
    rintro e w2 ⟨rfl, ho2, hb2⟩
    go_wp2_with fail
    refine (treeOk_c _ _ _ _ _ ho2.rd).mono ?_
    rintro e v2 ⟨rfl, hbv2⟩
    have h2 := h1.up hb2 |>.up hbv2
    go_wp2_with fail
    refine (toIntS_c A n c xs _ h2 hn).mono ?_
    rintro e w3 ⟨rfl, ho3, hb3⟩
    go_wp2_with fail
    refine (eqIntS_c _ _ _ _ _ _ xs xs _ ((ho2.rd.up hbv2).up hb3) ho3.rd).mono ?_
    rintro e w4 ⟨rfl, m4, rfl⟩
    go_wp2_with fail
    go_ret
    exact ⟨rfl, bd (bt (bt hB1 (bt hb2 hbv2)) hb3) _⟩
end Go.Proofs.Ytlbiioncpeondaa
