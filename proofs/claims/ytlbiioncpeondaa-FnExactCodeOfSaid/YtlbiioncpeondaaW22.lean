/- Walks: DeskOk (impl and spec); the law FnExactDeskOk (walk). -/
import Derived.Test.YtlbiioncpeondaaW21
import Derived.Deep.RegionWith
import Derived.Deep.RegionHeld3
namespace Go.Proofs.Ytlbiioncpeondaa
set_option linter.unusedVariables false
open Go.RowKit

def deskOkB (xs : List Int) (yss : List (List Int)) : Bool := mapOk xs && decide (yss.length ≤ 8) && yss.all mapOk
theorem all_gR {yss : List (List Int)} (h : ∀ k, k < yss.length → mapOk (gR yss k) = true) : yss.all mapOk = true := by
  rw [List.all_eq_true]
  intro x hx
  obtain ⟨k, hk, rfl⟩ := List.getElem_of_mem hx
  rw [← gR_get hk]; exact h k hk
theorem all_not {yss : List (List Int)} {k : Nat} (hk : k < yss.length) (h : mapOk (gR yss k) = false) : yss.all mapOk = false := by
  rw [gR_get hk] at h
  rw [List.all_eq_false]
  exact ⟨_, List.getElem_mem hk, by rw [h]; decide⟩
theorem desk_no1 {xs : List Int} {yss : List (List Int)} (h : mapOk xs = false) : deskOkB xs yss = false := by simp [deskOkB, h]
theorem desk_no2 {xs : List Int} {yss : List (List Int)} (h : ¬ yss.length ≤ 8) : deskOkB xs yss = false := by simp [deskOkB, h]
theorem desk_no3 {xs : List Int} {yss : List (List Int)} {k : Nat} (hk : k < yss.length) (h : mapOk (gR yss k) = false) : deskOkB xs yss = false := by rw [deskOkB, all_not hk h]; simp
theorem desk_yes {xs : List Int} {yss : List (List Int)} (h : mapOk xs = true) (h8 : yss.length ≤ 8) (ha : ∀ k, k < yss.length → mapOk (gR yss k) = true) : deskOkB xs yss = true := by rw [deskOkB, all_gR ha]; simp [h, h8]

set_option maxRecDepth 100000 in
set_option maxHeartbeats 800000 in
theorem deskOk_c (A P : Option Addr) (n c m d : Nat) (xs : List Int) (yss : List (List Int)) (w : World) (h : RdD w w.heap.size A n c xs P m d yss) :
    Calls Try.prog 45 #[.agg #[.slice A n c, .slice P m d]] w fun e w' => e = .returned (.bool (deskOkB xs yss)) ∧ Below w.heap.size w w' := by
  have hb1 : Below w.heap.size w (w.alloc (.cells #[.slice A n c, .slice P m d] 38)) := (Below.refl _ _).alloc (Nat.le_refl _) _
  have h1 := h.1.up hb1
  have h2 := h.2.up hb1
  have hl := h.2.len
  have hmx := h.2.max
  have hcp := h.2.cap
  unfold maxLen at hmx
  rcases hm : mapOk xs with _ | _
  · have HE := Lib.hid (desk_no1 (yss := yss) hm)
    go_enter Try.func45, Try.ntmps45
    go_wp2_with (go_at_call 61; refine (mapOk_c _ _ _ _ _ h1).mono ?_; rintro e w' ⟨rfl, rfl⟩)
    go_ret
    exact ⟨boolEnd HE.out.symm, hb1⟩
  by_cases h8 : m ≤ 8
  · go_enter Try.func45, Try.ntmps45
    go_wp2_with (go_at_call 61; refine (mapOk_c _ _ _ _ _ h1).mono ?_; rintro e w' ⟨rfl, rfl⟩)
    go_loopw [18] (fun i wr => ∃ k : Nat, k ≤ m ∧ i = .int .i64 k ∧ (∀ j, j < k → mapOk (gR yss j) = true) ∧ wr = w.alloc (.cells #[.slice A n c, .slice P m d] 38)) (fun i _ => m - (intOf i).toNat)
    case atStart => exact ⟨0, Nat.zero_le _, rfl, fun j hj => absurd hj (Nat.not_lt_zero _), rfl⟩
    case round =>
      obtain ⟨k, hk, rfl, hall, rfl⟩ := hrel
      have HA := Lib.hid hall
      clear hall
      by_cases hlt : k < m
      · obtain ⟨b, off, A1, n1, c1, rfl, hb, hcell, hr⟩ := h2.at_ hlt
        rcases hq : mapOk (gR yss k) with _ | _
        · have HE := Lib.hid (desk_no3 (xs := xs) (by omega) hq)
          go_wp2_with (go_at_call 61; refine (mapOk_c _ _ _ _ _ hr).mono ?_; rintro e w' ⟨rfl, rfl⟩)
          go_ret
          exact ⟨boolEnd HE.out.symm, hb1⟩
        · have HQ := Lib.hid hq
          go_wp2_with (go_at_call 61; refine (mapOk_c _ _ _ _ _ hr).mono ?_; rintro e w' ⟨rfl, rfl⟩)
          go_roundw
          case rel => exact ⟨k + 1, by omega, by go_num, fun j hj => by
            rcases Nat.lt_or_ge j k with h' | h'
            · exact HA.out j h'
            · obtain rfl : j = k := by omega
              exact HQ.out, trivial⟩
          case measure => simp [intOf]; omega
      · obtain rfl : k = m := by omega
        have HE := Lib.hid (desk_yes (yss := yss) hm (by omega) (by rw [hl]; exact HA.out))
        go_wp2
        go_ret
        exact ⟨boolEnd HE.out.symm, hb1⟩
  · have HE := Lib.hid (desk_no2 (xs := xs) (yss := yss) (by omega))
    go_enter Try.func45, Try.ntmps45
    go_wp2_with (go_at_call 61; refine (mapOk_c _ _ _ _ _ h1).mono ?_; rintro e w' ⟨rfl, rfl⟩)
    go_ret
    exact ⟨boolEnd HE.out.symm, hb1⟩

set_option maxRecDepth 100000 in
set_option maxHeartbeats 800000 in
theorem sDeskOk_c (A P : Option Addr) (n c m d : Nat) (xs : List Int) (yss : List (List Int)) (w : World) (h : RdD w w.heap.size A n c xs P m d yss) :
    Calls Try.prog 46 #[.agg #[.slice A n c, .slice P m d]] w fun e w' => e = .returned (.bool (deskOkB xs yss)) ∧ Below w.heap.size w w' := by
  have hb1 : Below w.heap.size w (w.alloc (.cells #[.slice A n c, .slice P m d] 38)) := (Below.refl _ _).alloc (Nat.le_refl _) _
  have h1 := h.1.up hb1
  have h2 := h.2.up hb1
  have hl := h.2.len
  have hmx := h.2.max
  have hcp := h.2.cap
  unfold maxLen at hmx
  go_enter Try.func46, Try.ntmps46
  go_wp2_with fail
  go_loopw [3] (fun i wr => ∃ k : Nat, k ≤ m ∧ i = .int .i64 k ∧ (∀ j, j < k → mapOk (gR yss j) = true) ∧ ∃ q, wr = (w.alloc (.cells #[.slice A n c, .slice P m d] 38)).drewN q) (fun i _ => m - (intOf i).toNat)
  case atStart => exact ⟨0, Nat.zero_le _, rfl, fun j hj => absurd hj (Nat.not_lt_zero _), 0, rfl⟩
  case round =>
    obtain ⟨k, hk, rfl, hall, q, rfl⟩ := hrel
    have HA := Lib.hid hall
    clear hall
    by_cases hlt : k < m
    · obtain ⟨b, off, A1, n1, c1, rfl, hb, hcell, hr⟩ := h2.at_ hlt
      rcases hq : mapOk (gR yss k) with _ | _
      · have HE := Lib.hid (desk_no3 (xs := xs) (by omega) hq)
        go_wp2_with (go_at_call 41; refine (sMapOk_c _ _ _ _ _ (hr.dn q)).mono ?_; rintro e w' ⟨rfl, rfl⟩)
        go_ret
        exact ⟨boolEnd HE.out.symm, bd hb1 _⟩
      · have HQ := Lib.hid hq
        go_wp2_with (go_at_call 41; refine (sMapOk_c _ _ _ _ _ (hr.dn q)).mono ?_; rintro e w' ⟨rfl, rfl⟩)
        go_roundw
        case rel => exact ⟨k + 1, by omega, by go_num, fun j hj => by
          rcases Nat.lt_or_ge j k with h' | h'
          · exact HA.out j h'
          · obtain rfl : j = k := by omega
            exact HQ.out, _, rfl⟩
        case measure => simp [intOf]; omega
    · obtain rfl : k = m := by omega
      rcases hm : mapOk xs with _ | _
      · have HE := Lib.hid (desk_no1 (yss := yss) hm)
        go_wp2_with (go_at_call 41; refine (sMapOk_c _ _ _ _ _ (h1.dn q)).mono ?_; rintro e w' ⟨rfl, rfl⟩)
        go_ret
        exact ⟨boolEnd HE.out.symm, bd hb1 _⟩
      · by_cases h8 : k ≤ 8
        · have HE := Lib.hid (desk_yes (yss := yss) hm (by omega) (by rw [hl]; exact HA.out))
          go_wp2_with (go_at_call 41; refine (sMapOk_c _ _ _ _ _ (h1.dn q)).mono ?_; rintro e w' ⟨rfl, rfl⟩)
          go_ret
          exact ⟨boolEnd ((decide_eq_true (by omega)).trans HE.out.symm), bd hb1 _⟩
        · have HE := Lib.hid (desk_no2 (xs := xs) (yss := yss) (by omega))
          go_wp2_with (go_at_call 41; refine (sMapOk_c _ _ _ _ _ (h1.dn q)).mono ?_; rintro e w' ⟨rfl, rfl⟩)
          go_ret
          exact ⟨boolEnd ((decide_eq_false (by omega)).trans HE.out.symm), bd hb1 _⟩

theorem eqBB_self (yss : List (List Int)) : eqBB yss yss = true := decide_eq_true rfl
theorem RdD.up {w w' : World} {A P : Option Addr} {n c m d : Nat} {xs : List Int} {yss : List (List Int)} (h : RdD w w.heap.size A n c xs P m d yss) (hb : Below w.heap.size w w') : RdD w' w'.heap.size A n c xs P m d yss := ⟨h.1.up hb, h.2.up hb⟩
end Go.Proofs.Ytlbiioncpeondaa
