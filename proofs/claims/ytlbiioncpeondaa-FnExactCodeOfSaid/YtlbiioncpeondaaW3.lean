/- Walks: LedTo, ComesFrom, ClosedOk, GardenOf (impl and spec). Printed by gen_w3.py. -/
import Derived.Test.YtlbiioncpeondaaW2
namespace Go.Proofs.Ytlbiioncpeondaa
set_option linter.unusedVariables false
open Go.RowKit

theorem shr_bit (m t : Nat) : Int.fdiv (m : Int) (2 ^ t) = ((m / 2 ^ t : Nat) : Int) := by
  rw [castPow, Int.fdiv_eq_ediv_of_nonneg _ (Int.natCast_nonneg _)]; simp
theorem odd_bit (m t : Nat) : (((m : Int) / 2 ^ t).tmod 2 == 1) = m.testBit t := by
  have h0 : (0 : Int) ≤ (m : Int) / 2 ^ t := Int.ediv_nonneg (by omega) (by rw [castPow]; exact Int.natCast_nonneg _)
  rw [Int.tmod_eq_emod_of_nonneg h0]
  rw [Nat.testBit_eq_decide_div_mod_eq, castPow]
  rw [Bool.eq_iff_iff]; simp only [beq_iff_eq, decide_eq_true_eq]
  have : ((m / 2 ^ t % 2 : Nat) : Int) = (m : Int) / ((2 ^ t : Nat) : Int) % 2 := by simp
  rw [← this]; omega
def ledI (xs : List Int) (s : Int) : Int := if setOk xs s then (led (toN xs) s.toNat : Int) else -1
def cfI (xs : List Int) (s : Int) : Int := if setOk xs s then (cf (toN xs) s.toNat : Int) else -1
theorem toN_ints (f : List Nat) : toN (ints f) = f := by
  unfold toN ints; rw [List.map_map]; conv => rhs; rw [← List.map_id f]
  exact List.map_congr_left (fun x _ => by simp)
theorem ledI_ok {f : List Nat} {m : Nat} (hf : MapN f) (hm : m < 2 ^ f.length) : ledI (ints f) (m : Int) = (led f m : Int) := by
  unfold ledI; rw [if_pos (setOk_ints hf hm), toN_ints]; simp
theorem cfI_ok {f : List Nat} {m : Nat} (hf : MapN f) (hm : m < 2 ^ f.length) : cfI (ints f) (m : Int) = (cf f m : Int) := by
  unfold cfI; rw [if_pos (setOk_ints hf hm), toN_ints]; simp
theorem ledI_no {xs : List Int} {s : Int} (h : setOk xs s = false) : ledI xs s = -1 := by unfold ledI; rw [h]; simp
theorem cfI_no {xs : List Int} {s : Int} (h : setOk xs s = false) : cfI xs s = -1 := by unfold cfI; rw [h]; simp
theorem ledK_succ_t {f : List Nat} {m k : Nat} (h : m.testBit k = true) : ledK f m (k + 1) = ledK f m k ||| 2 ^ nx f k := by rw [ledK, if_pos h]
theorem ledK_succ_f {f : List Nat} {m k : Nat} (h : m.testBit k = false) : ledK f m (k + 1) = ledK f m k := by rw [ledK, h]; simp
theorem cfK_succ_t {f : List Nat} {m k : Nat} (h : m.testBit (nx f k) = true) : cfK f m (k + 1) = cfK f m k ||| 2 ^ k := by rw [cfK, if_pos h]
theorem cfK_succ_f {f : List Nat} {m k : Nat} (h : m.testBit (nx f k) = false) : cfK f m (k + 1) = cfK f m k := by rw [cfK, h]; simp

set_option maxHeartbeats 400000 in
theorem ledTo_c (A : Option Addr) (n c : Nat) (xs : List Int) (s : Int) (w : World) (h : Rd w w.heap.size A n c xs) :
    Calls Try.prog 24 #[.slice A n c, .int .i64 s] w fun e w' => e = .returned (.int .i64 (ledI xs s)) ∧ w = w' := by
  rcases hs : setOk xs s with _ | _
  · have HS := Lib.hid (ledI_no hs)
    go_enter Try.func24, Try.ntmps24
    go_wp2_with (go_at_call 65; refine (setOk_c _ _ _ _ _ _ h).mono ?_; rintro e w' ⟨rfl, rfl⟩)
    go_ret
    exact ⟨intEnd HS.out.symm, rfl⟩
  · obtain ⟨f, m, rfl, rfl, hf, hm⟩ := setOk_ex hs
    have HS := Lib.hid (ledI_ok hf hm)
    have h7 := hf.le7
    have HL := Lib.hid h.len
    have hnf : Hid (n = f.length) := by unfold Hid; rw [← HL.out, ints_len]
    have hm7 : m < 128 := by have := (two_le h7).2; omega
    have hn7 : n ≤ 7 := by rw [hnf.out]; exact h7
    have HM := Lib.hid hm
    clear hm
    go_enter Try.func24, Try.ntmps24
    go_wp2_with (go_at_call 65; refine (setOk_c _ _ _ _ _ _ h).mono ?_; rintro e w' ⟨rfl, rfl⟩)
    go_loop [5, 14] (fun t i => ∃ k : Nat, k ≤ n ∧ i = .int .i64 k ∧ t = .int .i64 ((ledK f m k : Nat) : Int)) (fun _ i => n - (intOf i).toNat)
    case atStart => exact ⟨0, Nat.zero_le _, rfl, rfl⟩
    case round =>
      obtain ⟨k, hk, rfl, rfl⟩ := hrel
      by_cases hlt : k < n
      · obtain ⟨b, off, rfl, hb, hcell0⟩ := h.at_ hlt
        have hcell : w.cell? ⟨b, off + k, none⟩ = some (.int .i64 (nx f k : Int)) := by rw [hcell0, gI_ints]
        have hx : nx f k < 7 := by have := hf.has k (by rw [← hnf.out]; exact hlt); omega
        have hkl : ledK f m k < 128 := by have := ledK_lt hf m k (by rw [← hnf.out]; omega); have := (two_le h7).2; omega
        clear hcell0
        have h2 := two_le (k := nx f k) (by omega)
        have hi1 : (1 : Int) ≤ 2 ^ (nx f k) := by rw [castPow]; omega
        have hi2 : (2 : Int) ^ (nx f k) ≤ 128 := by rw [castPow]; omega
        have hor : bits .or .i64 ((ledK f m k : Nat) : Int) (2 ^ (nx f k)) = ((ledK f m k ||| 2 ^ (nx f k) : Nat) : Int) := by
          rw [castPow]; exact bits_or _ _ (by omega) (by omega)
        clear h2
        rcases hbt : m.testBit k with _ | _
        · have HN := Lib.hid (ledK_succ_f (f := f) hbt)
          go_wp2_with (go_at_call 66; refine (inSet_c m k _ hm7 (by omega)).mono ?_; rintro e w' ⟨rfl, rfl⟩)
          go_round
          case rel => exact ⟨k + 1, by omega, by go_num, by rw [HN.out]⟩
          case measure => simp [intOf]; omega
        · have HN := Lib.hid (ledK_succ_t (f := f) hbt)
          go_wp2_with (go_at_call 66; refine (inSet_c m k _ hm7 (by omega)).mono ?_; rintro e w' ⟨rfl, rfl⟩)
          go_round
          case rel => exact ⟨k + 1, by omega, by go_num, by rw [HN.out]⟩
          case measure => simp [intOf]; omega
      · go_wp2
        go_ret
        exact ⟨intEnd (by rw [HS.out, led, ← hnf.out, show k = n by omega]), rfl⟩

set_option maxHeartbeats 400000 in
theorem sLedTo_c (A : Option Addr) (n c : Nat) (xs : List Int) (s : Int) (w : World) (h : Rd w w.heap.size A n c xs) :
    Calls Try.prog 63 #[.slice A n c, .int .i64 s] w fun e w' => e = .returned (.int .i64 (ledI xs s)) ∧ w = w' := by
  rcases hs : setOk xs s with _ | _
  · have HS := Lib.hid (ledI_no hs)
    go_enter Try.func63, Try.ntmps63
    go_wp2_with (go_at_call 88; refine (sSetOk_c _ _ _ _ _ _ h).mono ?_; rintro e w' ⟨rfl, rfl⟩)
    go_ret
    exact ⟨intEnd HS.out.symm, rfl⟩
  · obtain ⟨f, m, rfl, rfl, hf, hm⟩ := setOk_ex hs
    have HS := Lib.hid (ledI_ok hf hm)
    have h7 := hf.le7
    have HL := Lib.hid h.len
    have hnf : Hid (n = f.length) := by unfold Hid; rw [← HL.out, ints_len]
    have hm7 : m < 128 := by have := (two_le h7).2; omega
    have hn7 : n ≤ 7 := by rw [hnf.out]; exact h7
    have HM := Lib.hid hm
    clear hm
    go_enter Try.func63, Try.ntmps63
    go_wp2_with (go_at_call 88; refine (sSetOk_c _ _ _ _ _ _ h).mono ?_; rintro e w' ⟨rfl, rfl⟩)
    go_loop [5, 6] (fun t i => ∃ k : Nat, k ≤ n ∧ i = .int .i64 k ∧ t = .int .i64 ((ledK f m k : Nat) : Int)) (fun _ i => n - (intOf i).toNat)
    case atStart => exact ⟨0, Nat.zero_le _, rfl, rfl⟩
    case round =>
      obtain ⟨k, hk, rfl, rfl⟩ := hrel
      by_cases hlt : k < n
      · obtain ⟨b, off, rfl, hb, hcell0⟩ := h.at_ hlt
        have hcell : w.cell? ⟨b, off + k, none⟩ = some (.int .i64 (nx f k : Int)) := by rw [hcell0, gI_ints]
        have hx : nx f k < 7 := by have := hf.has k (by rw [← hnf.out]; exact hlt); omega
        have hkl : ledK f m k < 128 := by have := ledK_lt hf m k (by rw [← hnf.out]; omega); have := (two_le h7).2; omega
        clear hcell0
        have h2 := two_le (k := nx f k) (by omega)
        have hi1 : (1 : Int) ≤ 2 ^ (nx f k) := by rw [castPow]; omega
        have hi2 : (2 : Int) ^ (nx f k) ≤ 128 := by rw [castPow]; omega
        have hor : bits .or .i64 ((ledK f m k : Nat) : Int) (2 ^ (nx f k)) = ((ledK f m k ||| 2 ^ (nx f k) : Nat) : Int) := by
          rw [castPow]; exact bits_or _ _ (by omega) (by omega)
        clear h2
        have hsr := shr_bit m k
        have hob := odd_bit m k
        rcases hbt : m.testBit k with _ | _
        · have HN := Lib.hid (ledK_succ_f (f := f) hbt)
          go_wp2_with fail
          go_round
          case rel => exact ⟨k + 1, by omega, by go_num, by rw [HN.out]⟩
          case measure => simp [intOf]; omega
        · have HN := Lib.hid (ledK_succ_t (f := f) hbt)
          go_wp2_with fail
          go_round
          case rel => exact ⟨k + 1, by omega, by go_num, by rw [HN.out]⟩
          case measure => simp [intOf]; omega
      · go_wp2
        go_ret
        exact ⟨intEnd (by rw [HS.out, led, ← hnf.out, show k = n by omega]), rfl⟩

end Go.Proofs.Ytlbiioncpeondaa
