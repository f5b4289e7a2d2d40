/- Walks: hasInt, ascend. -/
import Derived.Test.YtpogphpgbljhaaaV1
import Derived.Test.YtpogphpgbljhaaaP
namespace Go.Proofs.Ytpogphpgbljhaaa
set_option linter.unusedVariables false
open Go.RowKit

/-! ### hasInt, ascend -/
set_option maxHeartbeats 400000 in
theorem hasInt_c (A : Option Addr) (n c : Nat) (xs : List Int) (v : Int) (w : World) (h : Rd w w.heap.size A n c xs) :
    Calls Try.prog 25 #[.slice A n c, .int .i64 v] w fun e w' => e = .returned (.bool (hasI xs v)) ∧ w = w' := by
  have hm := h.max
  have hc := h.cap
  have HL := Lib.hid h.len
  unfold maxLen at hm
  go_enter Try.func25, Try.ntmps25
  go_wp2_with fail
  go_loopw [5] (fun i wr => ∃ k : Nat, k ≤ n ∧ i = .int .i64 k ∧ (∀ j, j < k → gI xs j ≠ v) ∧ wr = w) (fun i _ => n - (intOf i).toNat)
  case atStart => exact ⟨0, Nat.zero_le _, rfl, fun j hj => absurd hj (Nat.not_lt_zero _), rfl⟩
  case round =>
    obtain ⟨k, hk, rfl, hall, rfl⟩ := hrel
    have HA := Lib.hid hall
    clear hall
    by_cases hlt : k < n
    · obtain ⟨b, off, rfl, hb, hcell⟩ := h.at_ hlt
      by_cases he : gI xs k = v
      · have hq : (gI xs k == v) = true := by rw [he]; simp
        have HH : Hid (hasI xs v = true) := hasI_yes (j := k) (by rw [HL.out]; exact hlt) he
        clear he
        go_wp2_with fail
        go_ret
        exact ⟨boolEnd HH.out.symm, rfl⟩
      · have hq : (gI xs k == v) = false := by rw [beq_eq_false_iff_ne]; exact he
        have HE := Lib.hid he
        clear he
        go_wp2_with fail
        go_roundw
        case rel => exact ⟨k + 1, by omega, by go_num, fun j hj => by
          rcases Nat.lt_or_ge j k with h' | h'
          · exact HA.out j h'
          · obtain rfl : j = k := by omega
            exact HE.out, trivial⟩
        case measure => simp [intOf]; omega
    · obtain rfl : k = n := by omega
      have HH : Hid (hasI xs v = false) := hasI_no (fun j hj => HA.out j (by have := HL.out; omega))
      go_wp2_with fail
      go_ret
      exact ⟨boolEnd HH.out.symm, rfl⟩
set_option maxHeartbeats 800000 in
theorem ascend_c (A : Option Addr) (n c : Nat) (xs : List Int) (w : World) (h : Rd w w.heap.size A n c xs) (ha : Asc xs) :
    Calls Try.prog 26 #[.slice A n c] w fun e w' => e = .returned (.bool true) ∧ ∃ m, w' = w.drewN m := by
  have hm := h.max
  have hc := h.cap
  have HL := Lib.hid h.len
  have HA := Lib.hid ha
  unfold maxLen at hm
  clear ha
  go_enter Try.func26, Try.ntmps26
  go_wp2_with fail
  go_loopw [3] (fun i wr => ∃ k m : Nat, (k + 1 ≤ n ∨ k = 0) ∧ i = .int .i64 ((k + 1 : Nat) : Int) ∧ wr = w.drewN m) (fun i _ => n + 1 - (intOf i).toNat)
  case atStart => exact ⟨0, 0, .inr rfl, rfl, rfl⟩
  case round =>
    obtain ⟨k, m, hk, rfl, rfl⟩ := hrel
    by_cases hlt : k + 1 < n
    · obtain ⟨b, off, rfl, hb, hcell⟩ := h.at_ (k := k) (by omega)
      obtain ⟨b', off', heq, _, hcell2⟩ := h.at_ (k := k + 1) hlt
      cases heq
      have hx := HA.out k (by rw [HL.out]; exact hlt)
      generalize gI xs k = x at *
      generalize gI xs (k + 1) = y at *
      have hdl : decide (((k + 1 : Nat) : Int) < (n : Int)) = true := decide_eq_true (by omega)
      have hdl2 : decide ((k : Int) + 1 < (n : Int)) = true := decide_eq_true (by omega)
      have hw1 : IntKind.i64.wrap ((k : Int) + 1 - 1) = (k : Int) := by rw [show (k : Int) + 1 - 1 = (k : Int) by omega]; exact IntWalk.i64_in _ (by omega)
      have hw2 : IntKind.i64.wrap (k : Int) = (k : Int) := IntWalk.i64_in _ (by omega)
      have hxy : decide (y ≤ x) = false := decide_eq_false (by omega)
      have hi1 : (0 : Int) ≤ (k : Int) := by omega
      have hi2 : (k : Int) < (n : Int) := by omega
      have hi3 : (k : Int) + 1 < (n : Int) := by omega
      have hi4 : ((k : Int) + 1).toNat = k + 1 := by omega
      go_wp2_with fail
      go_quiet (fail)
      go_wp2_with fail
      go_roundw
      case rel => exact ⟨k + 1, _, .inl (by omega), by go_num, by first | rfl | exact World.drewN_drewN ..⟩
      case measure => simp [intOf]; omega
    · have hdl : decide (((k + 1 : Nat) : Int) < (n : Int)) = false := decide_eq_false (by omega)
      have hdl2 : decide ((k : Int) + 1 < (n : Int)) = false := decide_eq_false (by omega)
      go_wp2_with fail
      go_ret
      exact ⟨rfl, _, rfl⟩
end Go.Proofs.Ytpogphpgbljhaaa
