/- Walks: the maps' tests (impl and spec). -/
import Derived.Test.YtlbiioncpeondaaRows
import Derived.Test.YtlbiioncpeondaaM1
namespace Go.Proofs.Ytlbiioncpeondaa
set_option linter.unusedVariables false
open Go.RowKit

theorem boolEnd {a b : Bool} (h : a = b) : Ending.returned (.bool a) = .returned (.bool b) := by rw [h]
theorem intEnd {k : IntKind} {a b : Int} (h : a = b) : Ending.returned (.int k a) = .returned (.int k b) := by rw [h]

set_option maxHeartbeats 400000 in
theorem has_c (A : Option Addr) (n c : Nat) (t : Int) (w : World) :
    Calls Try.prog 72 #[.slice A n c, .int .i64 t] w fun e w' => e = .returned (.bool (hasB n t)) ∧ w = w' := by
  by_cases h0 : 0 ≤ t
  · by_cases h1 : t < (n : Int)
    · go_enter Try.func72, Try.ntmps72
      go_wp2
      go_ret
      exact ⟨boolEnd (hasB_iff.2 ⟨h0, h1⟩).symm, rfl⟩
    · go_enter Try.func72, Try.ntmps72
      go_wp2
      go_ret
      exact ⟨boolEnd (hasB_not.2 (fun h => by omega)).symm, rfl⟩
  · go_enter Try.func72, Try.ntmps72
    go_wp2
    go_ret
    exact ⟨boolEnd (hasB_not.2 (fun h => by omega)).symm, rfl⟩

set_option maxHeartbeats 400000 in
theorem ok_c (A : Option Addr) (n c : Nat) (xs : List Int) (w : World) (h : Rd w w.heap.size A n c xs) :
    Calls Try.prog 87 #[.slice A n c] w fun e w' => e = .returned (.bool (mapOk xs)) ∧ w = w' := by
  have hl := h.len
  have hm := h.max
  have hc := h.cap
  unfold maxLen at hm
  by_cases h1 : n < 1
  · have hr := Lib.hid (boolEnd (mapOk_len (xs := xs) (by omega)).symm)
    clear hl
    go_enter Try.func87, Try.ntmps87
    go_wp2
    go_ret
    exact ⟨hr.out, rfl⟩
  by_cases h7 : 7 < n
  · have hr := Lib.hid (boolEnd (mapOk_len (xs := xs) (by omega)).symm)
    clear hl
    go_enter Try.func87, Try.ntmps87
    go_wp2
    go_ret
    exact ⟨hr.out, rfl⟩
  have hr := Lib.hid (mapOk_all (xs := xs) (by omega) (by omega))
  have HL := Lib.hid hl
  clear hl
  go_enter Try.func87, Try.ntmps87
  go_wp2
  go_loop [15] (fun i => ∃ k : Nat, k ≤ n ∧ i = .int .i64 k ∧ ∀ j, j < k → hasB n (gI xs j) = true) (fun i => n - (intOf i).toNat)
  case atStart => exact ⟨0, Nat.zero_le _, rfl, fun j hj => absurd hj (Nat.not_lt_zero _)⟩
  case round =>
    obtain ⟨k, hk, rfl, hall⟩ := hrel
    have HA := Lib.hid hall
    clear hall
    by_cases hlt : k < n
    · obtain ⟨b, off, rfl, hb, hcell⟩ := h.at_ hlt
      rcases hh : hasB n (gI xs k) with _ | _
      · have HH := Lib.hid hh
        go_wp2_with (go_at_call 72; refine (has_c _ _ _ _ _).mono ?_; rintro e w' ⟨rfl, rfl⟩)
        go_ret
        exact ⟨boolEnd (by rw [hr.out, HL.out]; exact (allHas_not (by rw [HL.out]; exact hlt) HH.out).symm), rfl⟩
      · have HH := Lib.hid hh
        go_wp2_with (go_at_call 72; refine (has_c _ _ _ _ _).mono ?_; rintro e w' ⟨rfl, rfl⟩)
        go_round
        case rel => exact ⟨k + 1, by omega, by go_num, fun j hj => by
          rcases Nat.lt_or_ge j k with h' | h'
          · exact HA.out j h'
          · obtain rfl : j = k := by omega
            exact HH.out⟩
        case measure => simp [intOf]; omega
    · go_wp2
      go_ret
      exact ⟨boolEnd (by rw [hr.out, HL.out]; exact (allHas_iff.2 (fun j hj => HA.out j (by rw [HL.out] at hj; omega))).symm), rfl⟩

set_option maxHeartbeats 400000 in
theorem mapOk_c (A : Option Addr) (n c : Nat) (xs : List Int) (w : World) (h : Rd w w.heap.size A n c xs) :
    Calls Try.prog 61 #[.slice A n c] w fun e w' => e = .returned (.bool (mapOk xs)) ∧ w = w' := by
  go_enter Try.func61, Try.ntmps61
  go_wp2_with (go_at_call 87; refine (ok_c _ _ _ _ _ h).mono ?_; rintro e w' ⟨rfl, rfl⟩)
  go_ret
  exact ⟨rfl, rfl⟩

set_option maxHeartbeats 400000 in
theorem within_c (x lo hi : Int) (w : World) :
    Calls Try.prog 71 #[.int .i64 x, .int .i64 lo, .int .i64 hi] w fun e w' => e = .returned (.bool (inB x lo hi)) ∧ w = w' := by
  by_cases h0 : lo ≤ x
  · by_cases h1 : x ≤ hi
    · go_enter Try.func71, Try.ntmps71
      go_wp2
      go_ret
      exact ⟨boolEnd (inB_iff.2 ⟨h0, h1⟩).symm, rfl⟩
    · go_enter Try.func71, Try.ntmps71
      go_wp2
      go_ret
      exact ⟨boolEnd (inB_not.2 (fun h => by omega)).symm, rfl⟩
  · go_enter Try.func71, Try.ntmps71
    go_wp2
    go_ret
    exact ⟨boolEnd (inB_not.2 (fun h => by omega)).symm, rfl⟩

set_option maxHeartbeats 400000 in
theorem l1In_c (x lo hi : Int) (w : World) :
    Calls Try.prog 76 #[.int .i64 x, .int .i64 lo, .int .i64 hi] w fun e w' => e = .returned (.bool (inB x lo hi)) ∧ w = w' := by
  by_cases h0 : lo ≤ x
  · by_cases h1 : x ≤ hi
    · go_enter Try.func76, Try.ntmps76
      go_wp2
      go_ret
      exact ⟨boolEnd (inB_iff.2 ⟨h0, h1⟩).symm, rfl⟩
    · go_enter Try.func76, Try.ntmps76
      go_wp2
      go_ret
      exact ⟨boolEnd (inB_not.2 (fun h => by omega)).symm, rfl⟩
  · go_enter Try.func76, Try.ntmps76
    go_wp2
    go_ret
    exact ⟨boolEnd (inB_not.2 (fun h => by omega)).symm, rfl⟩

set_option maxHeartbeats 400000 in
theorem sMapOk_c (A : Option Addr) (n c : Nat) (xs : List Int) (w : World) (h : Rd w w.heap.size A n c xs) :
    Calls Try.prog 41 #[.slice A n c] w fun e w' => e = .returned (.bool (mapOk xs)) ∧ w = w' := by
  have hl := h.len
  have hm := h.max
  have hc := h.cap
  unfold maxLen at hm
  have HL := Lib.hid hl
  clear hl
  go_enter Try.func41, Try.ntmps41
  go_wp2
  go_loop [3] (fun i => ∃ k : Nat, k ≤ n ∧ i = .int .i64 k ∧ ∀ j, j < k → hasB n (gI xs j) = true) (fun i => n - (intOf i).toNat)
  case atStart => exact ⟨0, Nat.zero_le _, rfl, fun j hj => absurd hj (Nat.not_lt_zero _)⟩
  case round =>
    obtain ⟨k, hk, rfl, hall⟩ := hrel
    have HA := Lib.hid hall
    clear hall
    by_cases hlt : k < n
    · obtain ⟨b, off, rfl, hb, hcell⟩ := h.at_ hlt
      rcases hh : inB (gI xs k) 0 ((n : Int) - 1) with _ | _
      · have HH := Lib.hid hh
        go_wp2_with (go_at_call 76; refine (l1In_c _ _ _ _).mono ?_; rintro e w' ⟨rfl, rfl⟩)
        go_ret
        exact ⟨boolEnd (by rw [mapOk, HL.out, allHas_not (k := k) (by rw [HL.out]; exact hlt) (by rw [← hasB_inB]; exact HH.out)]; simp), rfl⟩
      · have HH := Lib.hid hh
        go_wp2_with (go_at_call 76; refine (l1In_c _ _ _ _).mono ?_; rintro e w' ⟨rfl, rfl⟩)
        go_round
        case rel => exact ⟨k + 1, by omega, by go_num, fun j hj => by
          rcases Nat.lt_or_ge j k with h' | h'
          · exact HA.out j h'
          · obtain rfl : j = k := by omega
            rw [← hasB_inB]; exact HH.out⟩
        case measure => simp [intOf]; omega
    · go_wp2_with (go_at_call 76; refine (l1In_c _ _ _ _).mono ?_; rintro e w' ⟨rfl, rfl⟩)
      go_ret
      exact ⟨boolEnd (by
        rw [mapOk, HL.out, (allHas_iff (n := n) (xs := xs)).2 (fun j hj => HA.out j (by rw [HL.out] at hj; omega))]
        unfold inB; simp only [Bool.and_true, decide_eq_decide]; omega), rfl⟩
end Go.Proofs.Ytlbiioncpeondaa
