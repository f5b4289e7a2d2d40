/- Walks: markDesk, heldDesk (laws) at a desk without maps of before; the law FnExactDeskNew (walk). -/
import Derived.Test.YtpbpkdkjjbhjoaaW24
namespace Go.Proofs.Ytpbpkdkjjbhjoaa
set_option linter.unusedVariables false
open Go.RowKit

theorem markIntSS_nil (k0 : Int) (w : World) :
    Calls Try.prog 74 #[.slice none 0 0, .int .i64 k0] w fun e w' => e = .returned (.int .i64 k0) ∧ w = w' := by
  go_enter Try.func74, Try.ntmps74
  go_wp2_with fail
  go_loop [1, 5] (fun l i => i = .int .i64 0 ∧ l = .int .i64 k0) (fun _ i => 0)
  case atStart => exact ⟨rfl, rfl⟩
  case round =>
    obtain ⟨rfl, rfl⟩ := hrel
    go_wp2
    go_ret
    exact ⟨rfl, rfl⟩
theorem heldIntSS_nil (k0 : Int) (w : World) :
    Calls Try.prog 75 #[.slice none 0 0, .int .i64 k0] w fun e w' => e = .returned (.int .i64 k0) ∧ w = w' := by
  go_enter Try.func75, Try.ntmps75
  go_wp2_with fail
  go_loop [1, 5] (fun l i => i = .int .i64 0 ∧ l = .int .i64 k0) (fun _ i => 0)
  case atStart => exact ⟨rfl, rfl⟩
  case round =>
    obtain ⟨rfl, rfl⟩ := hrel
    go_wp2
    go_ret
    exact ⟨rfl, rfl⟩
set_option maxRecDepth 100000 in
set_option maxHeartbeats 800000 in
theorem markDesk_nil (A : Option Addr) (n c k0 lo hi : Nat) (xs : List Int) (w : World) (h : OwnIn w lo hi A n c xs) (hk0 : k0 + n ≤ 1000000000000) (hh : hi ≤ w.heap.size) :
    Calls Try.prog 39 #[.agg #[.slice A n c, .slice none 0 0], .int .i64 k0] w fun e w' => e = .returned (.int .i64 ((k0 + n : Nat) : Int)) ∧ OwnIn w' lo hi A n c (marks k0 n) ∧ Chg lo hi w w' := by
  have hb1 : Below w.heap.size w (w.alloc (.cells #[.slice A n c, .slice none 0 0] 41)) := (Below.refl _ _).alloc (Nat.le_refl _) _
  have ht := Two.made w 41 (.slice A n c) (.slice none 0 0)
  have h1 := h.up hb1
  go_enter Try.func39, Try.ntmps39
  go_wp2_with fail
  generalize w.alloc (.cells #[.slice A n c, .slice none 0 0] 41) = w1 at *
  refine (markIntS_c A n c k0 lo hi xs _ h1 hk0).mono ?_
  rintro e w2 ⟨rfl, hm, hc⟩
  have ht2 : w2.cell? ⟨w.heap.size, 1, none⟩ = some (.slice none 0 0) := (World.cell?_of_block (w := w1) (a := ⟨w.heap.size, 1, none⟩) (hc.block w.heap.size ht.1 (.inr hh))).trans ht.2.2.1
  have hcw : Chg lo hi w w2 := (Chg.of_below hb1).chg_ hc (.inr ⟨Nat.le_refl _, Nat.le_refl _⟩)
  go_wp2_with (go_at_call 74; refine (markIntSS_nil _ _).mono ?_; rintro e w' ⟨rfl, rfl⟩)
  go_ret
  exact ⟨rfl, hm, hcw⟩
set_option maxRecDepth 100000 in
set_option maxHeartbeats 800000 in
theorem heldDesk_nil (A : Option Addr) (n c k0 : Nat) (w : World) (h : Rd w w.heap.size A n c (marks k0 n)) (hk0 : k0 + n ≤ 1000000000000) :
    Calls Try.prog 40 #[.agg #[.slice A n c, .slice none 0 0], .int .i64 k0] w fun e w' => e = .returned (.int .i64 ((k0 + n : Nat) : Int)) ∧ Below w.heap.size w w' := by
  have hb1 : Below w.heap.size w (w.alloc (.cells #[.slice A n c, .slice none 0 0] 41)) := (Below.refl _ _).alloc (Nat.le_refl _) _
  have h1 := h.up hb1
  go_enter Try.func40, Try.ntmps40
  go_wp2_with fail
  refine (heldIntS_c A n c k0 _ h1 hk0).mono ?_
  rintro e w2 ⟨rfl, rfl⟩
  go_wp2_with (go_at_call 75; refine (heldIntSS_nil _ _).mono ?_; rintro e w' ⟨rfl, rfl⟩)
  go_ret
  exact ⟨rfl, hb1⟩
end Go.Proofs.Ytpbpkdkjjbhjoaa
