/- Walks: ClosedOk, GardenOf (impl and spec). -/
import Derived.Test.YtpbpkdkjjbhjoaaW3
namespace Go.Proofs.Ytpbpkdkjjbhjoaa
set_option linter.unusedVariables false
open Go.RowKit

/-- led into itself -/
def closedN (f : List Nat) (m : Nat) : Bool := led f m &&& m == led f m
def closedI (xs : List Int) (s : Int) : Bool := setOk xs s && closedN (toN xs) s.toNat
theorem closedI_ok {f : List Nat} {m : Nat} (hf : MapN f) (hm : m < 2 ^ f.length) : closedI (ints f) (m : Int) = closedN f m := by
  unfold closedI; rw [setOk_ints hf hm, toN_ints]; simp
theorem closedI_no {xs : List Int} {s : Int} (h : setOk xs s = false) : closedI xs s = false := by unfold closedI; rw [h]; simp
theorem not_bit (b j : Nat) (hb : b < 18446744073709551616) : (18446744073709551615 - b).testBit j = (decide (j < 64) && !b.testBit j) := by
  have h := Nat.testBit_two_pow_sub_succ (x := b) (n := 64) (by omega) j
  rwa [show 2 ^ 64 - (b + 1) = 18446744073709551615 - b by omega] at h
theorem bit64 {m j : Nat} (hm : m < 128) (h : m.testBit j = true) : j < 64 := by
  have := bit_lt (n := 7) (by omega) h; omega
theorem andNot_zero (a b : Nat) (ha : a < 128) (hb : b < 128) : ((((a &&& (18446744073709551615 - b)) : Nat) : Int) == 0) = (a &&& b == a) := by
  rw [Bool.eq_iff_iff]
  simp only [beq_iff_eq]
  constructor
  · intro h
    have h0 : a &&& (18446744073709551615 - b) = 0 := by omega
    apply Nat.eq_of_testBit_eq
    intro j
    have hj := congrArg (fun x => Nat.testBit x j) h0
    simp only [Nat.testBit_and, not_bit b j (by omega), Nat.zero_testBit] at hj
    rw [Nat.testBit_and]
    rcases e : a.testBit j with _ | _
    · rfl
    · have := bit64 ha e
      rw [e] at hj
      simpa [this] using hj
  · intro h
    have h0 : a &&& (18446744073709551615 - b) = 0 := by
      apply Nat.eq_of_testBit_eq
      intro j
      have hj := congrArg (fun x => Nat.testBit x j) h
      simp only [Nat.testBit_and] at hj
      rw [Nat.testBit_and, not_bit b j (by omega), Nat.zero_testBit]
      rcases e : a.testBit j with _ | _
      · rfl
      · rw [e] at hj
        simp at hj
        simp [hj]
    omega
theorem andNot_all (b n : Nat) (hn : n ≤ 7) (hb : b < 2 ^ n) : (2 ^ n - 1) &&& (18446744073709551615 - b) = 2 ^ n - 1 - b := by
  have h7 := (two_le hn).2
  apply Nat.eq_of_testBit_eq
  intro j
  rw [Nat.testBit_and, not_bit b j (by omega), Nat.testBit_two_pow_sub_one, Nat.sub_sub, Nat.add_comm 1 b, Nat.testBit_two_pow_sub_succ hb]
  by_cases hj : j < n
  · simp [hj, show j < 64 by omega]
  · simp [hj]
theorem led_lt128 {f : List Nat} (hf : MapN f) (m : Nat) : led f m < 128 := by
  have := led_lt hf m; have := (two_le hf.le7).2; omega
theorem closed_impl {f : List Nat} {m : Nat} (hf : MapN f) (hm : m < 128) : (bits .andNot .i64 (led f m : Int) (m : Int) == 0) = closedN f m := by
  have h := led_lt128 hf m
  rw [bits_andNot _ _ (by omega) (by omega)]
  exact andNot_zero _ _ h hm
theorem closed_spec {f : List Nat} {m : Nat} (hf : MapN f) (hm : m < 128) : (bits .and .i64 (led f m : Int) (m : Int) == (led f m : Int)) = closedN f m := by
  have h := led_lt128 hf m
  rw [bits_and _ _ (by omega) (by omega), closedN, Bool.eq_iff_iff]
  simp only [beq_iff_eq]; omega

set_option maxHeartbeats 400000 in
theorem closedOk_c (A : Option Addr) (n c : Nat) (xs : List Int) (s : Int) (w : World) (h : Rd w w.heap.size A n c xs) :
    Calls Try.prog 53 #[.slice A n c, .int .i64 s] w fun e w' => e = .returned (.bool (closedI xs s)) ∧ w = w' := by
  rcases hs : setOk xs s with _ | _
  · have HS := Lib.hid (closedI_no hs)
    go_enter Try.func53, Try.ntmps53
    go_wp2_with (go_at_call 16; refine (setOk_c _ _ _ _ _ _ h).mono ?_; rintro e w' ⟨rfl, rfl⟩)
    go_ret
    exact ⟨boolEnd HS.out.symm, rfl⟩
  · obtain ⟨f, m, rfl, rfl, hf, hm⟩ := setOk_ex hs
    have HS := Lib.hid (closedI_ok hf hm)
    have hl := ledI_ok hf hm
    have hq := closed_impl (m := m) hf (by have := (two_le hf.le7).2; omega)
    clear hm
    go_enter Try.func53, Try.ntmps53
    go_wp2_with (first
      | (go_at_call 16; refine (setOk_c _ _ _ _ _ _ h).mono ?_; rintro e w' ⟨rfl, rfl⟩)
      | (go_at_call 44; refine (ledTo_c _ _ _ _ _ _ h).mono ?_; rintro e w' ⟨rfl, rfl⟩))
    go_ret
    exact ⟨boolEnd HS.out.symm, rfl⟩

set_option maxHeartbeats 400000 in
theorem sClosedOk_c (A : Option Addr) (n c : Nat) (xs : List Int) (s : Int) (w : World) (h : Rd w w.heap.size A n c xs) :
    Calls Try.prog 54 #[.slice A n c, .int .i64 s] w fun e w' => e = .returned (.bool (closedI xs s)) ∧ w = w' := by
  rcases hs : setOk xs s with _ | _
  · have HS := Lib.hid (closedI_no hs)
    go_enter Try.func54, Try.ntmps54
    go_wp2_with (go_at_call 17; refine (sSetOk_c _ _ _ _ _ _ h).mono ?_; rintro e w' ⟨rfl, rfl⟩)
    go_ret
    exact ⟨boolEnd HS.out.symm, rfl⟩
  · obtain ⟨f, m, rfl, rfl, hf, hm⟩ := setOk_ex hs
    have HS := Lib.hid (closedI_ok hf hm)
    have hl := ledI_ok hf hm
    have hq := closed_spec (m := m) hf (by have := (two_le hf.le7).2; omega)
    clear hm
    go_enter Try.func54, Try.ntmps54
    go_wp2_with (first
      | (go_at_call 17; refine (sSetOk_c _ _ _ _ _ _ h).mono ?_; rintro e w' ⟨rfl, rfl⟩)
      | (go_at_call 46; refine (sLedTo_c _ _ _ _ _ _ h).mono ?_; rintro e w' ⟨rfl, rfl⟩))
    go_ret
    exact ⟨boolEnd HS.out.symm, rfl⟩

/-! ### GardenOf -/
def gardenN (f : List Nat) : Nat := allN f - led f (allN f)
def gardenI (xs : List Int) : Int := if mapOk xs then (gardenN (toN xs) : Int) else -1
theorem gardenI_ok {f : List Nat} (hf : MapN f) : gardenI (ints f) = (gardenN f : Int) := by unfold gardenI; rw [if_pos (mapOk_ints hf), toN_ints]
theorem gardenI_no {xs : List Int} (h : mapOk xs = false) : gardenI xs = -1 := by unfold gardenI; rw [h]; simp
theorem allN_lt (f : List Nat) : allN f < 2 ^ f.length := by unfold allN; have := Nat.one_le_two_pow (n := f.length); omega
theorem allN_cast (f : List Nat) : (((2 ^ f.length : Nat) : Int) - 1) = (allN f : Int) := by unfold allN; have := Nat.one_le_two_pow (n := f.length); omega
theorem led_le_all {f : List Nat} (hf : MapN f) (m : Nat) : led f m ≤ allN f := by have := led_lt hf m; unfold allN; omega

set_option maxHeartbeats 400000 in
theorem gardenOf_c (A : Option Addr) (n c : Nat) (xs : List Int) (w : World) (h : Rd w w.heap.size A n c xs) :
    Calls Try.prog 56 #[.slice A n c] w fun e w' => e = .returned (.int .i64 (gardenI xs)) ∧ w = w' := by
  rcases hs : mapOk xs with _ | _
  · have HS := Lib.hid (gardenI_no hs)
    go_enter Try.func56, Try.ntmps56
    go_wp2_with (go_at_call 50; refine (mapOk_c _ _ _ _ _ h).mono ?_; rintro e w' ⟨rfl, rfl⟩)
    go_ret
    exact ⟨intEnd HS.out.symm, rfl⟩
  · obtain ⟨f, rfl, hf⟩ := mapOk_ex hs
    obtain rfl : f.length = n := by rw [← h.len, ints_len]
    have HS := Lib.hid (gardenI_ok hf)
    have h7 := hf.le7
    have hac := allN_cast f
    have hl := ledI_ok hf (allN_lt f)
    have hq : bits .andNot .i64 (allN f : Int) (led f (allN f) : Int) = (gardenN f : Int) := by
      have h1 := led_lt128 hf (allN f)
      have h2 := allN_lt f
      have h3 := (two_le h7).2
      rw [bits_andNot _ _ (by omega) (by omega)]
      unfold gardenN allN
      rw [andNot_all _ _ h7 (led_lt hf _)]
    go_enter Try.func56, Try.ntmps56
    go_wp2_with (first
      | (go_at_call 50; refine (mapOk_c _ _ _ _ _ h).mono ?_; rintro e w' ⟨rfl, rfl⟩)
      | (go_at_call 62; refine (everything_c _ _ _ _ h7).mono ?_; rintro e w' ⟨rfl, rfl⟩; rw [hac])
      | (go_at_call 44; refine (ledTo_c _ _ _ _ _ _ h).mono ?_; rintro e w' ⟨rfl, rfl⟩))
    go_ret
    exact ⟨intEnd HS.out.symm, rfl⟩

set_option maxHeartbeats 400000 in
theorem sGardenOf_c (A : Option Addr) (n c : Nat) (xs : List Int) (w : World) (h : Rd w w.heap.size A n c xs) :
    Calls Try.prog 57 #[.slice A n c] w fun e w' => e = .returned (.int .i64 (gardenI xs)) ∧ ∃ m, w' = w.drewN m := by
  rcases hs : mapOk xs with _ | _
  · have HS := Lib.hid (gardenI_no hs)
    go_enter Try.func57, Try.ntmps57
    go_wp2_with (go_at_call 18; refine (sMapOk_c _ _ _ _ _ h).mono ?_; rintro e w' ⟨rfl, rfl⟩)
    go_ret
    exact ⟨intEnd HS.out.symm, 0, rfl⟩
  · obtain ⟨f, rfl, hf⟩ := mapOk_ex hs
    obtain rfl : f.length = n := by rw [← h.len, ints_len]
    have HS := Lib.hid (gardenI_ok hf)
    have h7 := hf.le7
    have hac : (2 : Int) ^ f.length - 1 = (allN f : Int) := by rw [castPow]; exact allN_cast f
    have hl := ledI_ok hf (allN_lt f)
    have h2 := two_le h7
    have hi1 : (1 : Int) ≤ 2 ^ f.length := by rw [castPow]; omega
    have hi2 : (2 : Int) ^ f.length ≤ 128 := by rw [castPow]; omega
    have hle := led_le_all hf (allN f)
    have hall : allN f ≤ 127 := by have := allN_lt f; omega
    have hg0 : (gardenN f : Int) = (allN f : Int) - (led f (allN f) : Int) := by unfold gardenN; omega
    have hw1 : IntKind.i64.wrap (2 ^ f.length) = (2 : Int) ^ f.length := IntWalk.i64_in _ (by omega)
    have hw2 : IntKind.i64.wrap ((allN f : Int) - (led f (allN f) : Int)) = (gardenN f : Int) := by rw [hg0]; exact IntWalk.i64_in _ (by omega)
    have hw3 : IntKind.i64.wrap (allN f : Int) = (allN f : Int) := IntWalk.i64_in _ (by omega)
    clear h2 hg0
    go_enter Try.func57, Try.ntmps57
    go_wp2_with (go_at_call 18; refine (sMapOk_c _ _ _ _ _ h).mono ?_; rintro e w' ⟨rfl, rfl⟩)
    go_quiet ((go_at_call 46; exact qS (sLedTo_c _ _ _ _ _ _ (h.dn _))))
    go_wp2
    go_ret
    exact ⟨intEnd HS.out.symm, _, rfl⟩
end Go.Proofs.Ytpbpkdkjjbhjoaa
