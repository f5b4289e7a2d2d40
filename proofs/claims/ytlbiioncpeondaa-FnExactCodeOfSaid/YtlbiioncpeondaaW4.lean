/- Walks: ClosedOk, GardenOf (impl and spec). -/
import Derived.Test.YtlbiioncpeondaaW3
namespace Go.Proofs.Ytlbiioncpeondaa
set_option linter.unusedVariables false
open Go.RowKit

/-- led into itself -/
def closedN (f : List Nat) (m : Nat) : Bool := led f m &&& m == led f m
def closedI (xs : List Int) (s : Int) : Bool := setOk xs s && closedN (toN xs) s.toNat
theorem closedI_ok {f : List Nat} {m : Nat} (hf : MapN f) (hm : m < 2 ^ f.length) : closedI (ints f) (m : Int) = closedN f m := by
  unfold closedI; rw [setOk_ints hf hm, toN_ints]; simp
theorem closedI_no {xs : List Int} {s : Int} (h : setOk xs s = false) : closedI xs s = false := by unfold closedI; rw [h]; simp
theorem not_bit (b j : Nat) (hb : b < 18446744073709551616) : (18446744073709551615 - b).testBit j = (decide (j < 64) && !b.testBit j) := by
  have h := Nat.testBit_two_pow_sub_succ (x := b) (n := 64) (by omega) j
  rwa [show 2 ^ 64 - (b + 1) = 18446744073709551615 - b by omega] at h
theorem bit64 {m j : Nat} (hm : m < 128) (h : m.testBit j = true) : j < 64 := by
  have := bit_lt (n := 7) (by omega) h; omega
theorem andNot_zero (a b : Nat) (ha : a < 128) (hb : b < 128) : ((((a &&& (18446744073709551615 - b)) : Nat) : Int) == 0) = (a &&& b == a) := by
  rw [Bool.eq_iff_iff]
  simp only [beq_iff_eq]
  constructor
  · intro h
    have h0 : a &&& (18446744073709551615 - b) = 0 := by omega
    apply Nat.eq_of_testBit_eq
    intro j
    have hj := congrArg (fun x => Nat.testBit x j) h0
    simp only [Nat.testBit_and, not_bit b j (by omega), Nat.zero_testBit] at hj
    rw [Nat.testBit_and]
    rcases e : a.testBit j with _ | _
    · rfl
    · have := bit64 ha e
      rw [e] at hj
      simpa [this] using hj
  · intro h
    have h0 : a &&& (18446744073709551615 - b) = 0 := by
      apply Nat.eq_of_testBit_eq
      intro j
      have hj := congrArg (fun x => Nat.testBit x j) h
      simp only [Nat.testBit_and] at hj
      rw [Nat.testBit_and, not_bit b j (by omega), Nat.zero_testBit]
      rcases e : a.testBit j with _ | _
      · rfl
      · rw [e] at hj
        simp at hj
        simp [hj]
    omega
theorem andNot_all (b n : Nat) (hn : n ≤ 7) (hb : b < 2 ^ n) : (2 ^ n - 1) &&& (18446744073709551615 - b) = 2 ^ n - 1 - b := by
  have h7 := (two_le hn).2
  apply Nat.eq_of_testBit_eq
  intro j
  rw [Nat.testBit_and, not_bit b j (by omega), Nat.testBit_two_pow_sub_one, Nat.sub_sub, Nat.add_comm 1 b, Nat.testBit_two_pow_sub_succ hb]
  by_cases hj : j < n
  · simp [hj, show j < 64 by omega]
  · simp [hj]
theorem led_lt128 {f : List Nat} (hf : MapN f) (m : Nat) : led f m < 128 := by
  have := led_lt hf m; have := (two_le hf.le7).2; omega
theorem closed_impl {f : List Nat} {m : Nat} (hf : MapN f) (hm : m < 128) : (bits .andNot .i64 (led f m : Int) (m : Int) == 0) = closedN f m := by
  have h := led_lt128 hf m
  rw [bits_andNot _ _ (by omega) (by omega)]
  exact andNot_zero _ _ h hm
theorem closed_spec {f : List Nat} {m : Nat} (hf : MapN f) (hm : m < 128) : (bits .and .i64 (led f m : Int) (m : Int) == (led f m : Int)) = closedN f m := by
  have h := led_lt128 hf m
  rw [bits_and _ _ (by omega) (by omega), closedN, Bool.eq_iff_iff]
  simp only [beq_iff_eq]; omega

/-! ### GardenOf -/
def gardenN (f : List Nat) : Nat := allN f - led f (allN f)
def gardenI (xs : List Int) : Int := if mapOk xs then (gardenN (toN xs) : Int) else -1
theorem gardenI_ok {f : List Nat} (hf : MapN f) : gardenI (ints f) = (gardenN f : Int) := by unfold gardenI; rw [if_pos (mapOk_ints hf), toN_ints]
theorem gardenI_no {xs : List Int} (h : mapOk xs = false) : gardenI xs = -1 := by unfold gardenI; rw [h]; simp
theorem allN_lt (f : List Nat) : allN f < 2 ^ f.length := by unfold allN; have := Nat.one_le_two_pow (n := f.length); omega
theorem allN_cast (f : List Nat) : (((2 ^ f.length : Nat) : Int) - 1) = (allN f : Int) := by unfold allN; have := Nat.one_le_two_pow (n := f.length); omega
theorem led_le_all {f : List Nat} (hf : MapN f) (m : Nat) : led f m ≤ allN f := by have := led_lt hf m; unfold allN; omega

end Go.Proofs.Ytlbiioncpeondaa
