/- Bundle V1. -/
import Derived.Test.YtoinlkdmfclnbaaGreatDoorRows
import Derived.Deep.QuietTactic
import Derived.BigQuiet
import Derived.Test.YtoinlkdmfclnbaaGreatDoorYP
import Derived.Test.YtoinlkdmfclnbaaGreatDoorYQ
namespace Go.Proofs.YtoinlkdmfclnbaaGreatDoor
set_option linter.unusedVariables false
section
open Go.RowKit
theorem boolEnd {a b : Bool} (h : a = b) : Ending.returned (.bool a) = .returned (.bool b) := by rw [h]
theorem intEnd {k : IntKind} {a b : Int} (h : a = b) : Ending.returned (.int k a) = .returned (.int k b) := by rw [h]
set_option maxHeartbeats 400000 in
theorem has_c (A : Option Addr) (n c : Nat) (t : Int) (w : World) :
    Calls Tryz.prog 157 #[.slice A n c, .int .i64 t] w fun e w' => e = .returned (.bool (hasB n t)) ∧ w = w' := by
 by_cases h0 : 0 ≤ t
 · by_cases h1 : t < (n : Int)
   · go_enter Tryz.func157, Tryz.ntmps157
     go_wp2
     go_ret
     exact ⟨boolEnd (hasB_iff.2 ⟨h0, h1⟩).symm, rfl⟩
   · go_enter Tryz.func157, Tryz.ntmps157
     go_wp2
     go_ret
     exact ⟨boolEnd (hasB_not.2 (fun h => by omega)).symm, rfl⟩
 · go_enter Tryz.func157, Tryz.ntmps157
   go_wp2
   go_ret
   exact ⟨boolEnd (hasB_not.2 (fun h => by omega)).symm, rfl⟩
set_option maxHeartbeats 400000 in
theorem ok_c (A : Option Addr) (n c : Nat) (xs : List Int) (w : World) (h : Rd w w.heap.size A n c xs) :
    Calls Tryz.prog 133 #[.slice A n c] w fun e w' => e = .returned (.bool (mapOk xs)) ∧ w = w' := by
 have hl := h.len
 have hm := h.max
 have hc := h.cap
 unfold maxLen at hm
 by_cases h1 : n < 1
 · have hr := Lib.hid (boolEnd (mapOk_len (xs := xs) (by omega)).symm)
   clear hl
   go_enter Tryz.func133, Tryz.ntmps133
   go_wp2
   go_ret
   exact ⟨hr.out, rfl⟩
 by_cases h7 : 7 < n
 · have hr := Lib.hid (boolEnd (mapOk_len (xs := xs) (by omega)).symm)
   clear hl
   go_enter Tryz.func133, Tryz.ntmps133
   go_wp2
   go_ret
   exact ⟨hr.out, rfl⟩
 have hr := Lib.hid (mapOk_all (xs := xs) (by omega) (by omega))
 have HL := Lib.hid hl
 clear hl
 go_enter Tryz.func133, Tryz.ntmps133
 go_wp2
 go_loop [15] (fun i => ∃ k : Nat, k ≤ n ∧ i = .int .i64 k ∧ ∀ j, j < k → hasB n (gI xs j) = true) (fun i => n - (intOf i).toNat)
 case atStart => exact ⟨0, Nat.zero_le _, rfl, fun j hj => absurd hj (Nat.not_lt_zero _)⟩
 case round =>
  obtain ⟨k, hk, rfl, hall⟩ := hrel
  have HA := Lib.hid hall
  clear hall
  by_cases hlt : k < n
  · obtain ⟨b, off, rfl, hb, hcell⟩ := h.at_ hlt
    rcases hh : hasB n (gI xs k) with _ | _
    · have HH := Lib.hid hh
      go_wp2_with (go_at_call 157; refine (has_c _ _ _ _ _).mono ?_; rintro e w' ⟨rfl, rfl⟩)
      go_ret
      exact ⟨boolEnd (by rw [hr.out, HL.out]; exact (allHas_not (by rw [HL.out]; exact hlt) HH.out).symm), rfl⟩
    · have HH := Lib.hid hh
      go_wp2_with (go_at_call 157; refine (has_c _ _ _ _ _).mono ?_; rintro e w' ⟨rfl, rfl⟩)
      go_round
      case rel => exact ⟨k + 1, by omega, by go_num, fun j hj => by
       rcases Nat.lt_or_ge j k with h' | h'
       · exact HA.out j h'
       · obtain rfl : j = k := by omega
         exact HH.out⟩
      case measure => simp [intOf]; omega
  · go_wp2
    go_ret
    exact ⟨boolEnd (by rw [hr.out, HL.out]; exact (allHas_iff.2 (fun j hj => HA.out j (by rw [HL.out] at hj; omega))).symm), rfl⟩
set_option maxHeartbeats 400000 in
theorem mapOk_c (A : Option Addr) (n c : Nat) (xs : List Int) (w : World) (h : Rd w w.heap.size A n c xs) :
    Calls Tryz.prog 68 #[.slice A n c] w fun e w' => e = .returned (.bool (mapOk xs)) ∧ w = w' := by
 go_enter Tryz.func68, Tryz.ntmps68
 go_wp2_with (go_at_call 133; refine (ok_c _ _ _ _ _ h).mono ?_; rintro e w' ⟨rfl, rfl⟩)
 go_ret
 exact ⟨rfl, rfl⟩
set_option maxHeartbeats 400000 in
theorem within_c (x lo hi : Int) (w : World) :
    Calls Tryz.prog 89 #[.int .i64 x, .int .i64 lo, .int .i64 hi] w fun e w' => e = .returned (.bool (inB x lo hi)) ∧ w = w' := by
 by_cases h0 : lo ≤ x
 · by_cases h1 : x ≤ hi
   · go_enter Tryz.func89, Tryz.ntmps89
     go_wp2
     go_ret
     exact ⟨boolEnd (inB_iff.2 ⟨h0, h1⟩).symm, rfl⟩
   · go_enter Tryz.func89, Tryz.ntmps89
     go_wp2
     go_ret
     exact ⟨boolEnd (inB_not.2 (fun h => by omega)).symm, rfl⟩
 · go_enter Tryz.func89, Tryz.ntmps89
   go_wp2
   go_ret
   exact ⟨boolEnd (inB_not.2 (fun h => by omega)).symm, rfl⟩
set_option maxHeartbeats 400000 in
theorem l1In_c (x lo hi : Int) (w : World) :
    Calls Tryz.prog 129 #[.int .i64 x, .int .i64 lo, .int .i64 hi] w fun e w' => e = .returned (.bool (inB x lo hi)) ∧ w = w' := by
 by_cases h0 : lo ≤ x
 · by_cases h1 : x ≤ hi
   · go_enter Tryz.func129, Tryz.ntmps129
     go_wp2
     go_ret
     exact ⟨boolEnd (inB_iff.2 ⟨h0, h1⟩).symm, rfl⟩
   · go_enter Tryz.func129, Tryz.ntmps129
     go_wp2
     go_ret
     exact ⟨boolEnd (inB_not.2 (fun h => by omega)).symm, rfl⟩
 · go_enter Tryz.func129, Tryz.ntmps129
   go_wp2
   go_ret
   exact ⟨boolEnd (inB_not.2 (fun h => by omega)).symm, rfl⟩
set_option maxHeartbeats 400000 in
theorem sMapOk_c (A : Option Addr) (n c : Nat) (xs : List Int) (w : World) (h : Rd w w.heap.size A n c xs) :
    Calls Tryz.prog 67 #[.slice A n c] w fun e w' => e = .returned (.bool (mapOk xs)) ∧ w = w' := by
 have hl := h.len
 have hm := h.max
 have hc := h.cap
 unfold maxLen at hm
 have HL := Lib.hid hl
 clear hl
 go_enter Tryz.func67, Tryz.ntmps67
 go_wp2
 go_loop [3] (fun i => ∃ k : Nat, k ≤ n ∧ i = .int .i64 k ∧ ∀ j, j < k → hasB n (gI xs j) = true) (fun i => n - (intOf i).toNat)
 case atStart => exact ⟨0, Nat.zero_le _, rfl, fun j hj => absurd hj (Nat.not_lt_zero _)⟩
 case round =>
  obtain ⟨k, hk, rfl, hall⟩ := hrel
  have HA := Lib.hid hall
  clear hall
  by_cases hlt : k < n
  · obtain ⟨b, off, rfl, hb, hcell⟩ := h.at_ hlt
    rcases hh : inB (gI xs k) 0 ((n : Int) - 1) with _ | _
    · have HH := Lib.hid hh
      go_wp2_with (go_at_call 129; refine (l1In_c _ _ _ _).mono ?_; rintro e w' ⟨rfl, rfl⟩)
      go_ret
      exact ⟨boolEnd (by rw [mapOk, HL.out, allHas_not (k := k) (by rw [HL.out]; exact hlt) (by rw [← hasB_inB]; exact HH.out)]; simp), rfl⟩
    · have HH := Lib.hid hh
      go_wp2_with (go_at_call 129; refine (l1In_c _ _ _ _).mono ?_; rintro e w' ⟨rfl, rfl⟩)
      go_round
      case rel => exact ⟨k + 1, by omega, by go_num, fun j hj => by
       rcases Nat.lt_or_ge j k with h' | h'
       · exact HA.out j h'
       · obtain rfl : j = k := by omega
         rw [← hasB_inB]; exact HH.out⟩
      case measure => simp [intOf]; omega
  · go_wp2_with (go_at_call 129; refine (l1In_c _ _ _ _).mono ?_; rintro e w' ⟨rfl, rfl⟩)
    go_ret
    exact ⟨boolEnd (by
     rw [mapOk, HL.out, (allHas_iff (n := n) (xs := xs)).2 (fun j hj => HA.out j (by rw [HL.out] at hj; omega))]
     unfold inB; simp only [Bool.and_true, decide_eq_decide]; omega), rfl⟩
end
section
open Go.RowKit
set_option maxHeartbeats 400000 in
theorem everything_c (A : Option Addr) (n c : Nat) (w : World) (hn : n ≤ 7) :
    Calls Tryz.prog 185 #[.slice A n c] w fun e w' => e = .returned (.int .i64 (((2 ^ n : Nat) : Int) - 1)) ∧ w = w' := by
 have h2 := two_le hn
 have hi1 : (1 : Int) ≤ 2 ^ n := by rw [castPow]; omega
 have hi2 : (2 : Int) ^ n ≤ 128 := by rw [castPow]; omega
 clear h2
 go_enter Tryz.func185, Tryz.ntmps185
 go_wp2
 go_ret
 exact ⟨intEnd (by rw [castPow]), rfl⟩
set_option maxHeartbeats 400000 in
theorem inSet_c (m t : Nat) (w : World) (hm : m < 128) (ht : t ≤ 7) :
    Calls Tryz.prog 218 #[.int .i64 m, .int .i64 t] w fun e w' => e = .returned (.bool (m.testBit t)) ∧ w = w' := by
 have h2 := two_le ht
 have hi1 : (1 : Int) ≤ 2 ^ t := by rw [castPow]; omega
 have hi2 : (2 : Int) ^ t ≤ 128 := by rw [castPow]; omega
 have hb : (bits .and .i64 (m : Int) (2 ^ t) != 0) = m.testBit t := by
  rw [castPow, bits_and _ _ (by omega) (by omega), ← and_two_ne]
  rw [Bool.eq_iff_iff]; simp
 clear h2
 go_enter Tryz.func218, Tryz.ntmps218
 go_wp2
 go_ret
 exact ⟨rfl, rfl⟩
set_option maxHeartbeats 400000 in
theorem setOk_c (A : Option Addr) (n c : Nat) (xs : List Int) (s : Int) (w : World) (h : Rd w w.heap.size A n c xs) :
    Calls Tryz.prog 217 #[.slice A n c, .int .i64 s] w fun e w' => e = .returned (.bool (setOk xs s)) ∧ w = w' := by
 have HL := Lib.hid h.len
 rcases hm : mapOk xs with _ | _
 · have HS : Hid (setOk xs s = false) := by unfold Hid setOk; rw [hm]; rfl
   go_enter Tryz.func217, Tryz.ntmps217
   go_wp2_with (go_at_call 68; refine (mapOk_c _ _ _ _ _ h).mono ?_; rintro e w' ⟨rfl, rfl⟩)
   go_ret
   exact ⟨boolEnd HS.out.symm, rfl⟩
 · have HS : Hid (setOk xs s = inB s 0 (((2 ^ n : Nat) : Int) - 1)) := by unfold Hid setOk; rw [hm, HL.out]; rfl
   have h7 : n ≤ 7 := by
    obtain ⟨f, rfl, hf⟩ := mapOk_ex hm
    rw [← HL.out, ints_len]; exact hf.le7
   go_enter Tryz.func217, Tryz.ntmps217
   go_wp2_with (first
    | (go_at_call 68; refine (mapOk_c _ _ _ _ _ h).mono ?_; rintro e w' ⟨rfl, rfl⟩)
    | (go_at_call 185; refine (everything_c _ _ _ _ h7).mono ?_; rintro e w' ⟨rfl, rfl⟩)
    | (go_at_call 89; refine (within_c _ _ _ _).mono ?_; rintro e w' ⟨rfl, rfl⟩))
   go_ret
   exact ⟨boolEnd HS.out.symm, rfl⟩
set_option maxHeartbeats 400000 in
theorem sSetOk_c (A : Option Addr) (n c : Nat) (xs : List Int) (s : Int) (w : World) (h : Rd w w.heap.size A n c xs) :
    Calls Tryz.prog 165 #[.slice A n c, .int .i64 s] w fun e w' => e = .returned (.bool (setOk xs s)) ∧ w = w' := by
 have HL := Lib.hid h.len
 rcases hm : mapOk xs with _ | _
 · have HS : Hid (setOk xs s = false) := by unfold Hid setOk; rw [hm]; rfl
   go_enter Tryz.func165, Tryz.ntmps165
   go_wp2_with (go_at_call 67; refine (sMapOk_c _ _ _ _ _ h).mono ?_; rintro e w' ⟨rfl, rfl⟩)
   go_ret
   exact ⟨boolEnd HS.out.symm, rfl⟩
 · have HS : Hid (setOk xs s = inB s 0 ((2 : Int) ^ n - 1)) := by unfold Hid setOk; rw [hm, HL.out, castPow]; rfl
   have h7 : n ≤ 7 := by
    obtain ⟨f, rfl, hf⟩ := mapOk_ex hm
    rw [← HL.out, ints_len]; exact hf.le7
   have h2 := two_le h7
   have hi1 : (1 : Int) ≤ 2 ^ n := by rw [castPow]; omega
   have hi2 : (2 : Int) ^ n ≤ 128 := by rw [castPow]; omega
   clear h2
   go_enter Tryz.func165, Tryz.ntmps165
   go_wp2_with (first
    | (go_at_call 67; refine (sMapOk_c _ _ _ _ _ h).mono ?_; rintro e w' ⟨rfl, rfl⟩)
    | (go_at_call 129; refine (l1In_c _ _ _ _).mono ?_; rintro e w' ⟨rfl, rfl⟩))
   go_ret
   exact ⟨boolEnd HS.out.symm, rfl⟩
def eqB (xs ys : List Int) : Bool := decide (xs = ys)
theorem eq_of_gI {xs ys : List Int} (hl : xs.length = ys.length) (h : ∀ k, k < xs.length → gI xs k = gI ys k) : xs = ys := by
 apply List.ext_getElem hl
 intro k h1 h2
 have := h k h1
 rwa [gI_get h1, gI_get h2] at this
set_option maxHeartbeats 400000 in
theorem eqIntS_c (A A' : Option Addr) (n c n' c' : Nat) (xs ys : List Int) (w : World) (h : Rd w w.heap.size A n c xs) (h' : Rd w w.heap.size A' n' c' ys) :
    Calls Tryz.prog 75 #[.slice A n c, .slice A' n' c'] w fun e w' => e = .returned (.bool (eqB xs ys)) ∧ ∃ m, w' = w.drewN m := by
 have HL := Lib.hid h.len
 have HL' := Lib.hid h'.len
 have hm := h.max
 have hc := h.cap
 have hm' := h'.max
 have hc' := h'.cap
 unfold maxLen at hm hm'
 by_cases hne : n = n'
 · subst hne
   go_enter Tryz.func75, Tryz.ntmps75
   go_wp2
   go_loopw [5] (fun i wr => ∃ k : Nat, k ≤ n ∧ i = .int .i64 k ∧ (∀ j, j < k → gI xs j = gI ys j) ∧ ∃ m, wr = w.drewN m) (fun i _ => n - (intOf i).toNat)
   case atStart => exact ⟨0, Nat.zero_le _, rfl, fun j hj => absurd hj (Nat.not_lt_zero _), 0, rfl⟩
   case round =>
    obtain ⟨k, hk, rfl, hall, m, rfl⟩ := hrel
    have HA := Lib.hid hall
    clear hall
    by_cases hlt : k < n
    · obtain ⟨b, off, rfl, hb, hcell⟩ := h.at_ hlt
      obtain ⟨b', off', rfl, hb', hcell'⟩ := h'.at_ hlt
      by_cases he : gI xs k = gI ys k
      · have hq : (gI xs k != gI ys k) = false := by simp [he]
        have HE := Lib.hid he
        clear he
        go_wp2
        go_quiet (fail)
        go_wp2
        go_roundw
        case rel => exact ⟨k + 1, by omega, by go_num, fun j hj => by
         rcases Nat.lt_or_ge j k with h' | h'
         · exact HA.out j h'
         · obtain rfl : j = k := by omega
           exact HE.out, _, rfl⟩
        case measure => simp [intOf]; omega
      · have hq : (gI xs k != gI ys k) = true := by simp [he]
        have HE := Lib.hid he
        clear he
        go_wp2
        go_quiet (fail)
        go_wp2
        go_ret
        exact ⟨boolEnd (decide_eq_false (fun e => HE.out (by rw [e]))).symm, _, World.drewN_drewN ..⟩
    · go_wp2
      go_ret
      exact ⟨boolEnd (decide_eq_true (eq_of_gI (by rw [HL.out, HL'.out]) (fun j hj => HA.out j (by have := HL.out; omega)))).symm, _, rfl⟩
 · have hq : ((n : Int) != (n' : Int)) = true := by simp; omega
   go_enter Tryz.func75, Tryz.ntmps75
   go_wp2
   go_ret
   exact ⟨boolEnd (decide_eq_false (fun e => hne (by rw [← HL.out, ← HL'.out, e]))).symm, 0, rfl⟩
end
section
open Go.RowKit
theorem shr_bit (m t : Nat) : Int.fdiv (m : Int) (2 ^ t) = ((m / 2 ^ t : Nat) : Int) := by
 rw [castPow, Int.fdiv_eq_ediv_of_nonneg _ (Int.natCast_nonneg _)]; simp
theorem odd_bit (m t : Nat) : (((m : Int) / 2 ^ t).tmod 2 == 1) = m.testBit t := by
 have h0 : (0 : Int) ≤ (m : Int) / 2 ^ t := Int.ediv_nonneg (by omega) (by rw [castPow]; exact Int.natCast_nonneg _)
 rw [Int.tmod_eq_emod_of_nonneg h0]
 rw [Nat.testBit_eq_decide_div_mod_eq, castPow]
 rw [Bool.eq_iff_iff]; simp only [beq_iff_eq, decide_eq_true_eq]
 have : ((m / 2 ^ t % 2 : Nat) : Int) = (m : Int) / ((2 ^ t : Nat) : Int) % 2 := by simp
 rw [← this]; omega
def ledI (xs : List Int) (s : Int) : Int := if setOk xs s then (led (toN xs) s.toNat : Int) else -1
theorem toN_ints (f : List Nat) : toN (ints f) = f := by
 unfold toN ints; rw [List.map_map]; conv => rhs; rw [← List.map_id f]
 exact List.map_congr_left (fun x _ => by simp)
theorem ledI_ok {f : List Nat} {m : Nat} (hf : MapN f) (hm : m < 2 ^ f.length) : ledI (ints f) (m : Int) = (led f m : Int) := by
 unfold ledI; rw [if_pos (setOk_ints hf hm), toN_ints]; simp
theorem ledI_no {xs : List Int} {s : Int} (h : setOk xs s = false) : ledI xs s = -1 := by unfold ledI; rw [h]; simp
theorem ledK_succ_t {f : List Nat} {m k : Nat} (h : m.testBit k = true) : ledK f m (k + 1) = ledK f m k ||| 2 ^ nx f k := by rw [ledK, if_pos h]
theorem ledK_succ_f {f : List Nat} {m k : Nat} (h : m.testBit k = false) : ledK f m (k + 1) = ledK f m k := by rw [ledK, h]; simp
set_option maxHeartbeats 400000 in
theorem ledTo_c (A : Option Addr) (n c : Nat) (xs : List Int) (s : Int) (w : World) (h : Rd w w.heap.size A n c xs) :
    Calls Tryz.prog 186 #[.slice A n c, .int .i64 s] w fun e w' => e = .returned (.int .i64 (ledI xs s)) ∧ w = w' := by
 rcases hs : setOk xs s with _ | _
 · have HS := Lib.hid (ledI_no hs)
   go_enter Tryz.func186, Tryz.ntmps186
   go_wp2_with (go_at_call 217; refine (setOk_c _ _ _ _ _ _ h).mono ?_; rintro e w' ⟨rfl, rfl⟩)
   go_ret
   exact ⟨intEnd HS.out.symm, rfl⟩
 · obtain ⟨f, m, rfl, rfl, hf, hm⟩ := setOk_ex hs
   have HS := Lib.hid (ledI_ok hf hm)
   have h7 := hf.le7
   have HL := Lib.hid h.len
   have hnf : Hid (n = f.length) := by unfold Hid; rw [← HL.out, ints_len]
   have hm7 : m < 128 := by have := (two_le h7).2; omega
   have hn7 : n ≤ 7 := by rw [hnf.out]; exact h7
   have HM := Lib.hid hm
   clear hm
   go_enter Tryz.func186, Tryz.ntmps186
   go_wp2_with (go_at_call 217; refine (setOk_c _ _ _ _ _ _ h).mono ?_; rintro e w' ⟨rfl, rfl⟩)
   go_loop [5, 14] (fun t i => ∃ k : Nat, k ≤ n ∧ i = .int .i64 k ∧ t = .int .i64 ((ledK f m k : Nat) : Int)) (fun _ i => n - (intOf i).toNat)
   case atStart => exact ⟨0, Nat.zero_le _, rfl, rfl⟩
   case round =>
    obtain ⟨k, hk, rfl, rfl⟩ := hrel
    by_cases hlt : k < n
    · obtain ⟨b, off, rfl, hb, hcell0⟩ := h.at_ hlt
      have hcell : w.cell? ⟨b, off + k, none⟩ = some (.int .i64 (nx f k : Int)) := by rw [hcell0, gI_ints]
      have hx : nx f k < 7 := by have := hf.has k (by rw [← hnf.out]; exact hlt); omega
      have hkl : ledK f m k < 128 := by have := ledK_lt hf m k (by rw [← hnf.out]; omega); have := (two_le h7).2; omega
      clear hcell0
      have h2 := two_le (k := nx f k) (by omega)
      have hi1 : (1 : Int) ≤ 2 ^ (nx f k) := by rw [castPow]; omega
      have hi2 : (2 : Int) ^ (nx f k) ≤ 128 := by rw [castPow]; omega
      have hor : bits .or .i64 ((ledK f m k : Nat) : Int) (2 ^ (nx f k)) = ((ledK f m k ||| 2 ^ (nx f k) : Nat) : Int) := by
       rw [castPow]; exact bits_or _ _ (by omega) (by omega)
      clear h2
      rcases hbt : m.testBit k with _ | _
      · have HN := Lib.hid (ledK_succ_f (f := f) hbt)
        go_wp2_with (go_at_call 218; refine (inSet_c m k _ hm7 (by omega)).mono ?_; rintro e w' ⟨rfl, rfl⟩)
        go_round
        case rel => exact ⟨k + 1, by omega, by go_num, by rw [HN.out]⟩
        case measure => simp [intOf]; omega
      · have HN := Lib.hid (ledK_succ_t (f := f) hbt)
        go_wp2_with (go_at_call 218; refine (inSet_c m k _ hm7 (by omega)).mono ?_; rintro e w' ⟨rfl, rfl⟩)
        go_round
        case rel => exact ⟨k + 1, by omega, by go_num, by rw [HN.out]⟩
        case measure => simp [intOf]; omega
    · go_wp2
      go_ret
      exact ⟨intEnd (by rw [HS.out, led, ← hnf.out, show k = n by omega]), rfl⟩
set_option maxHeartbeats 400000 in
theorem sLedTo_c (A : Option Addr) (n c : Nat) (xs : List Int) (s : Int) (w : World) (h : Rd w w.heap.size A n c xs) :
    Calls Tryz.prog 127 #[.slice A n c, .int .i64 s] w fun e w' => e = .returned (.int .i64 (ledI xs s)) ∧ w = w' := by
 rcases hs : setOk xs s with _ | _
 · have HS := Lib.hid (ledI_no hs)
   go_enter Tryz.func127, Tryz.ntmps127
   go_wp2_with (go_at_call 165; refine (sSetOk_c _ _ _ _ _ _ h).mono ?_; rintro e w' ⟨rfl, rfl⟩)
   go_ret
   exact ⟨intEnd HS.out.symm, rfl⟩
 · obtain ⟨f, m, rfl, rfl, hf, hm⟩ := setOk_ex hs
   have HS := Lib.hid (ledI_ok hf hm)
   have h7 := hf.le7
   have HL := Lib.hid h.len
   have hnf : Hid (n = f.length) := by unfold Hid; rw [← HL.out, ints_len]
   have hm7 : m < 128 := by have := (two_le h7).2; omega
   have hn7 : n ≤ 7 := by rw [hnf.out]; exact h7
   have HM := Lib.hid hm
   clear hm
   go_enter Tryz.func127, Tryz.ntmps127
   go_wp2_with (go_at_call 165; refine (sSetOk_c _ _ _ _ _ _ h).mono ?_; rintro e w' ⟨rfl, rfl⟩)
   go_loop [5, 6] (fun t i => ∃ k : Nat, k ≤ n ∧ i = .int .i64 k ∧ t = .int .i64 ((ledK f m k : Nat) : Int)) (fun _ i => n - (intOf i).toNat)
   case atStart => exact ⟨0, Nat.zero_le _, rfl, rfl⟩
   case round =>
    obtain ⟨k, hk, rfl, rfl⟩ := hrel
    by_cases hlt : k < n
    · obtain ⟨b, off, rfl, hb, hcell0⟩ := h.at_ hlt
      have hcell : w.cell? ⟨b, off + k, none⟩ = some (.int .i64 (nx f k : Int)) := by rw [hcell0, gI_ints]
      have hx : nx f k < 7 := by have := hf.has k (by rw [← hnf.out]; exact hlt); omega
      have hkl : ledK f m k < 128 := by have := ledK_lt hf m k (by rw [← hnf.out]; omega); have := (two_le h7).2; omega
      clear hcell0
      have h2 := two_le (k := nx f k) (by omega)
      have hi1 : (1 : Int) ≤ 2 ^ (nx f k) := by rw [castPow]; omega
      have hi2 : (2 : Int) ^ (nx f k) ≤ 128 := by rw [castPow]; omega
      have hor : bits .or .i64 ((ledK f m k : Nat) : Int) (2 ^ (nx f k)) = ((ledK f m k ||| 2 ^ (nx f k) : Nat) : Int) := by
       rw [castPow]; exact bits_or _ _ (by omega) (by omega)
      clear h2
      have hsr := shr_bit m k
      have hob := odd_bit m k
      rcases hbt : m.testBit k with _ | _
      · have HN := Lib.hid (ledK_succ_f (f := f) hbt)
        go_wp2_with fail
        go_round
        case rel => exact ⟨k + 1, by omega, by go_num, by rw [HN.out]⟩
        case measure => simp [intOf]; omega
      · have HN := Lib.hid (ledK_succ_t (f := f) hbt)
        go_wp2_with fail
        go_round
        case rel => exact ⟨k + 1, by omega, by go_num, by rw [HN.out]⟩
        case measure => simp [intOf]; omega
    · go_wp2
      go_ret
      exact ⟨intEnd (by rw [HS.out, led, ← hnf.out, show k = n by omega]), rfl⟩
end
section
open Go.RowKit
def closedN (f : List Nat) (m : Nat) : Bool := led f m &&& m == led f m
def closedI (xs : List Int) (s : Int) : Bool := setOk xs s && closedN (toN xs) s.toNat
theorem closedI_ok {f : List Nat} {m : Nat} (hf : MapN f) (hm : m < 2 ^ f.length) : closedI (ints f) (m : Int) = closedN f m := by
 unfold closedI; rw [setOk_ints hf hm, toN_ints]; simp
theorem closedI_no {xs : List Int} {s : Int} (h : setOk xs s = false) : closedI xs s = false := by unfold closedI; rw [h]; simp
theorem not_bit (b j : Nat) (hb : b < 18446744073709551616) : (18446744073709551615 - b).testBit j = (decide (j < 64) && !b.testBit j) := by
 have h := Nat.testBit_two_pow_sub_succ (x := b) (n := 64) (by omega) j
 rwa [show 2 ^ 64 - (b + 1) = 18446744073709551615 - b by omega] at h
theorem bit64 {m j : Nat} (hm : m < 128) (h : m.testBit j = true) : j < 64 := by
 have := bit_lt (n := 7) (by omega) h; omega
theorem andNot_zero (a b : Nat) (ha : a < 128) (hb : b < 128) : ((((a &&& (18446744073709551615 - b)) : Nat) : Int) == 0) = (a &&& b == a) := by
 rw [Bool.eq_iff_iff]
 simp only [beq_iff_eq]
 constructor
 · intro h
   have h0 : a &&& (18446744073709551615 - b) = 0 := by omega
   apply Nat.eq_of_testBit_eq
   intro j
   have hj := congrArg (fun x => Nat.testBit x j) h0
   simp only [Nat.testBit_and, not_bit b j (by omega), Nat.zero_testBit] at hj
   rw [Nat.testBit_and]
   rcases e : a.testBit j with _ | _
   · rfl
   · have := bit64 ha e
     rw [e] at hj
     simpa [this] using hj
 · intro h
   have h0 : a &&& (18446744073709551615 - b) = 0 := by
    apply Nat.eq_of_testBit_eq
    intro j
    have hj := congrArg (fun x => Nat.testBit x j) h
    simp only [Nat.testBit_and] at hj
    rw [Nat.testBit_and, not_bit b j (by omega), Nat.zero_testBit]
    rcases e : a.testBit j with _ | _
    · rfl
    · rw [e] at hj
      simp at hj
      simp [hj]
   omega
theorem andNot_all (b n : Nat) (hn : n ≤ 7) (hb : b < 2 ^ n) : (2 ^ n - 1) &&& (18446744073709551615 - b) = 2 ^ n - 1 - b := by
 have h7 := (two_le hn).2
 apply Nat.eq_of_testBit_eq
 intro j
 rw [Nat.testBit_and, not_bit b j (by omega), Nat.testBit_two_pow_sub_one, Nat.sub_sub, Nat.add_comm 1 b, Nat.testBit_two_pow_sub_succ hb]
 by_cases hj : j < n
 · simp [hj, show j < 64 by omega]
 · simp [hj]
theorem led_lt128 {f : List Nat} (hf : MapN f) (m : Nat) : led f m < 128 := by
 have := led_lt hf m; have := (two_le hf.le7).2; omega
theorem closed_impl {f : List Nat} {m : Nat} (hf : MapN f) (hm : m < 128) : (bits .andNot .i64 (led f m : Int) (m : Int) == 0) = closedN f m := by
 have h := led_lt128 hf m
 rw [bits_andNot _ _ (by omega) (by omega)]
 exact andNot_zero _ _ h hm
theorem closed_spec {f : List Nat} {m : Nat} (hf : MapN f) (hm : m < 128) : (bits .and .i64 (led f m : Int) (m : Int) == (led f m : Int)) = closedN f m := by
 have h := led_lt128 hf m
 rw [bits_and _ _ (by omega) (by omega), closedN, Bool.eq_iff_iff]
 simp only [beq_iff_eq]; omega
set_option maxHeartbeats 400000 in
theorem closedOk_c (A : Option Addr) (n c : Nat) (xs : List Int) (s : Int) (w : World) (h : Rd w w.heap.size A n c xs) :
    Calls Tryz.prog 187 #[.slice A n c, .int .i64 s] w fun e w' => e = .returned (.bool (closedI xs s)) ∧ w = w' := by
 rcases hs : setOk xs s with _ | _
 · have HS := Lib.hid (closedI_no hs)
   go_enter Tryz.func187, Tryz.ntmps187
   go_wp2_with (go_at_call 217; refine (setOk_c _ _ _ _ _ _ h).mono ?_; rintro e w' ⟨rfl, rfl⟩)
   go_ret
   exact ⟨boolEnd HS.out.symm, rfl⟩
 · obtain ⟨f, m, rfl, rfl, hf, hm⟩ := setOk_ex hs
   have HS := Lib.hid (closedI_ok hf hm)
   have hl := ledI_ok hf hm
   have hq := closed_impl (m := m) hf (by have := (two_le hf.le7).2; omega)
   clear hm
   go_enter Tryz.func187, Tryz.ntmps187
   go_wp2_with (first
    | (go_at_call 217; refine (setOk_c _ _ _ _ _ _ h).mono ?_; rintro e w' ⟨rfl, rfl⟩)
    | (go_at_call 186; refine (ledTo_c _ _ _ _ _ _ h).mono ?_; rintro e w' ⟨rfl, rfl⟩))
   go_ret
   exact ⟨boolEnd HS.out.symm, rfl⟩
set_option maxHeartbeats 400000 in
theorem sClosedOk_c (A : Option Addr) (n c : Nat) (xs : List Int) (s : Int) (w : World) (h : Rd w w.heap.size A n c xs) :
    Calls Tryz.prog 128 #[.slice A n c, .int .i64 s] w fun e w' => e = .returned (.bool (closedI xs s)) ∧ w = w' := by
 rcases hs : setOk xs s with _ | _
 · have HS := Lib.hid (closedI_no hs)
   go_enter Tryz.func128, Tryz.ntmps128
   go_wp2_with (go_at_call 165; refine (sSetOk_c _ _ _ _ _ _ h).mono ?_; rintro e w' ⟨rfl, rfl⟩)
   go_ret
   exact ⟨boolEnd HS.out.symm, rfl⟩
 · obtain ⟨f, m, rfl, rfl, hf, hm⟩ := setOk_ex hs
   have HS := Lib.hid (closedI_ok hf hm)
   have hl := ledI_ok hf hm
   have hq := closed_spec (m := m) hf (by have := (two_le hf.le7).2; omega)
   clear hm
   go_enter Tryz.func128, Tryz.ntmps128
   go_wp2_with (first
    | (go_at_call 165; refine (sSetOk_c _ _ _ _ _ _ h).mono ?_; rintro e w' ⟨rfl, rfl⟩)
    | (go_at_call 127; refine (sLedTo_c _ _ _ _ _ _ h).mono ?_; rintro e w' ⟨rfl, rfl⟩))
   go_ret
   exact ⟨boolEnd HS.out.symm, rfl⟩
def gardenN (f : List Nat) : Nat := allN f - led f (allN f)
def gardenI (xs : List Int) : Int := if mapOk xs then (gardenN (toN xs) : Int) else -1
theorem gardenI_ok {f : List Nat} (hf : MapN f) : gardenI (ints f) = (gardenN f : Int) := by unfold gardenI; rw [if_pos (mapOk_ints hf), toN_ints]
theorem gardenI_no {xs : List Int} (h : mapOk xs = false) : gardenI xs = -1 := by unfold gardenI; rw [h]; simp
theorem allN_lt (f : List Nat) : allN f < 2 ^ f.length := by unfold allN; have := Nat.one_le_two_pow (n := f.length); omega
theorem allN_cast (f : List Nat) : (((2 ^ f.length : Nat) : Int) - 1) = (allN f : Int) := by unfold allN; have := Nat.one_le_two_pow (n := f.length); omega
theorem led_le_all {f : List Nat} (hf : MapN f) (m : Nat) : led f m ≤ allN f := by have := led_lt hf m; unfold allN; omega
set_option maxHeartbeats 400000 in
theorem gardenOf_c (A : Option Addr) (n c : Nat) (xs : List Int) (w : World) (h : Rd w w.heap.size A n c xs) :
    Calls Tryz.prog 152 #[.slice A n c] w fun e w' => e = .returned (.int .i64 (gardenI xs)) ∧ w = w' := by
 rcases hs : mapOk xs with _ | _
 · have HS := Lib.hid (gardenI_no hs)
   go_enter Tryz.func152, Tryz.ntmps152
   go_wp2_with (go_at_call 68; refine (mapOk_c _ _ _ _ _ h).mono ?_; rintro e w' ⟨rfl, rfl⟩)
   go_ret
   exact ⟨intEnd HS.out.symm, rfl⟩
 · obtain ⟨f, rfl, hf⟩ := mapOk_ex hs
   obtain rfl : f.length = n := by rw [← h.len, ints_len]
   have HS := Lib.hid (gardenI_ok hf)
   have h7 := hf.le7
   have hac := allN_cast f
   have hl := ledI_ok hf (allN_lt f)
   have hq : bits .andNot .i64 (allN f : Int) (led f (allN f) : Int) = (gardenN f : Int) := by
    have h1 := led_lt128 hf (allN f)
    have h2 := allN_lt f
    have h3 := (two_le h7).2
    rw [bits_andNot _ _ (by omega) (by omega)]
    unfold gardenN allN
    rw [andNot_all _ _ h7 (led_lt hf _)]
   go_enter Tryz.func152, Tryz.ntmps152
   go_wp2_with (first
    | (go_at_call 68; refine (mapOk_c _ _ _ _ _ h).mono ?_; rintro e w' ⟨rfl, rfl⟩)
    | (go_at_call 185; refine (everything_c _ _ _ _ h7).mono ?_; rintro e w' ⟨rfl, rfl⟩; rw [hac])
    | (go_at_call 186; refine (ledTo_c _ _ _ _ _ _ h).mono ?_; rintro e w' ⟨rfl, rfl⟩))
   go_ret
   exact ⟨intEnd HS.out.symm, rfl⟩
set_option maxHeartbeats 400000 in
theorem sGardenOf_c (A : Option Addr) (n c : Nat) (xs : List Int) (w : World) (h : Rd w w.heap.size A n c xs) :
    Calls Tryz.prog 58 #[.slice A n c] w fun e w' => e = .returned (.int .i64 (gardenI xs)) ∧ ∃ m, w' = w.drewN m := by
 rcases hs : mapOk xs with _ | _
 · have HS := Lib.hid (gardenI_no hs)
   go_enter Tryz.func58, Tryz.ntmps58
   go_wp2_with (go_at_call 67; refine (sMapOk_c _ _ _ _ _ h).mono ?_; rintro e w' ⟨rfl, rfl⟩)
   go_ret
   exact ⟨intEnd HS.out.symm, 0, rfl⟩
 · obtain ⟨f, rfl, hf⟩ := mapOk_ex hs
   obtain rfl : f.length = n := by rw [← h.len, ints_len]
   have HS := Lib.hid (gardenI_ok hf)
   have h7 := hf.le7
   have hac : (2 : Int) ^ f.length - 1 = (allN f : Int) := by rw [castPow]; exact allN_cast f
   have hl := ledI_ok hf (allN_lt f)
   have h2 := two_le h7
   have hi1 : (1 : Int) ≤ 2 ^ f.length := by rw [castPow]; omega
   have hi2 : (2 : Int) ^ f.length ≤ 128 := by rw [castPow]; omega
   have hle := led_le_all hf (allN f)
   have hall : allN f ≤ 127 := by have := allN_lt f; omega
   have hg0 : (gardenN f : Int) = (allN f : Int) - (led f (allN f) : Int) := by unfold gardenN; omega
   have hw1 : IntKind.i64.wrap (2 ^ f.length) = (2 : Int) ^ f.length := IntWalk.i64_in _ (by omega)
   have hw2 : IntKind.i64.wrap ((allN f : Int) - (led f (allN f) : Int)) = (gardenN f : Int) := by rw [hg0]; exact IntWalk.i64_in _ (by omega)
   have hw3 : IntKind.i64.wrap (allN f : Int) = (allN f : Int) := IntWalk.i64_in _ (by omega)
   clear h2 hg0
   go_enter Tryz.func58, Tryz.ntmps58
   go_wp2_with (go_at_call 67; refine (sMapOk_c _ _ _ _ _ h).mono ?_; rintro e w' ⟨rfl, rfl⟩)
   go_quiet ((go_at_call 127; exact qS (sLedTo_c _ _ _ _ _ _ (h.dn _))))
   go_wp2
   go_ret
   exact ⟨intEnd HS.out.symm, _, rfl⟩
end
section
open Go.RowKit
theorem eqB_self (xs : List Int) : eqB xs xs = true := by simp [eqB]
end
end Go.Proofs.YtoinlkdmfclnbaaGreatDoor
