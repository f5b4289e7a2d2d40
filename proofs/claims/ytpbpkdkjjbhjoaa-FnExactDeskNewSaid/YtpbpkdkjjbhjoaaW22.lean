/- Walks: DeskOk (impl and spec); the law FnExactDeskOk (walk). -/
import Derived.Test.YtpbpkdkjjbhjoaaW21
import Derived.Deep.RegionWith
import Derived.Deep.RegionHeld3
namespace Go.Proofs.Ytpbpkdkjjbhjoaa
set_option linter.unusedVariables false
open Go.RowKit

def deskOkB (xs : List Int) (yss : List (List Int)) : Bool := mapOk xs && decide (yss.length ≤ 8) && yss.all mapOk
theorem all_gR {yss : List (List Int)} (h : ∀ k, k < yss.length → mapOk (gR yss k) = true) : yss.all mapOk = true := by
  rw [List.all_eq_true]
  intro x hx
  obtain ⟨k, hk, rfl⟩ := List.getElem_of_mem hx
  rw [← gR_get hk]; exact h k hk
theorem all_not {yss : List (List Int)} {k : Nat} (hk : k < yss.length) (h : mapOk (gR yss k) = false) : yss.all mapOk = false := by
  rw [gR_get hk] at h
  rw [List.all_eq_false]
  exact ⟨_, List.getElem_mem hk, by rw [h]; decide⟩
theorem desk_no1 {xs : List Int} {yss : List (List Int)} (h : mapOk xs = false) : deskOkB xs yss = false := by simp [deskOkB, h]
theorem desk_no2 {xs : List Int} {yss : List (List Int)} (h : ¬ yss.length ≤ 8) : deskOkB xs yss = false := by simp [deskOkB, h]
theorem desk_no3 {xs : List Int} {yss : List (List Int)} {k : Nat} (hk : k < yss.length) (h : mapOk (gR yss k) = false) : deskOkB xs yss = false := by rw [deskOkB, all_not hk h]; simp
theorem desk_yes {xs : List Int} {yss : List (List Int)} (h : mapOk xs = true) (h8 : yss.length ≤ 8) (ha : ∀ k, k < yss.length → mapOk (gR yss k) = true) : deskOkB xs yss = true := by rw [deskOkB, all_gR ha]; simp [h, h8]

set_option maxRecDepth 100000 in
set_option maxHeartbeats 800000 in
theorem deskOk_c (A P : Option Addr) (n c m d : Nat) (xs : List Int) (yss : List (List Int)) (w : World) (h : RdD w w.heap.size A n c xs P m d yss) :
    Calls Try.prog 35 #[.agg #[.slice A n c, .slice P m d]] w fun e w' => e = .returned (.bool (deskOkB xs yss)) ∧ Below w.heap.size w w' := by
  have hb1 : Below w.heap.size w (w.alloc (.cells #[.slice A n c, .slice P m d] 41)) := (Below.refl _ _).alloc (Nat.le_refl _) _
  have h1 := h.1.up hb1
  have h2 := h.2.up hb1
  have hl := h.2.len
  have hmx := h.2.max
  have hcp := h.2.cap
  unfold maxLen at hmx
  rcases hm : mapOk xs with _ | _
  · have HE := Lib.hid (desk_no1 (yss := yss) hm)
    go_enter Try.func35, Try.ntmps35
    go_wp2_with (go_at_call 50; refine (mapOk_c _ _ _ _ _ h1).mono ?_; rintro e w' ⟨rfl, rfl⟩)
    go_ret
    exact ⟨boolEnd HE.out.symm, hb1⟩
  by_cases h8 : m ≤ 8
  · go_enter Try.func35, Try.ntmps35
    go_wp2_with (go_at_call 50; refine (mapOk_c _ _ _ _ _ h1).mono ?_; rintro e w' ⟨rfl, rfl⟩)
    go_loopw [18] (fun i wr => ∃ k : Nat, k ≤ m ∧ i = .int .i64 k ∧ (∀ j, j < k → mapOk (gR yss j) = true) ∧ wr = w.alloc (.cells #[.slice A n c, .slice P m d] 41)) (fun i _ => m - (intOf i).toNat)
    case atStart => exact ⟨0, Nat.zero_le _, rfl, fun j hj => absurd hj (Nat.not_lt_zero _), rfl⟩
    case round =>
      obtain ⟨k, hk, rfl, hall, rfl⟩ := hrel
      have HA := Lib.hid hall
      clear hall
      by_cases hlt : k < m
      · obtain ⟨b, off, A1, n1, c1, rfl, hb, hcell, hr⟩ := h2.at_ hlt
        rcases hq : mapOk (gR yss k) with _ | _
        · have HE := Lib.hid (desk_no3 (xs := xs) (by omega) hq)
          go_wp2_with (go_at_call 50; refine (mapOk_c _ _ _ _ _ hr).mono ?_; rintro e w' ⟨rfl, rfl⟩)
          go_ret
          exact ⟨boolEnd HE.out.symm, hb1⟩
        · have HQ := Lib.hid hq
          go_wp2_with (go_at_call 50; refine (mapOk_c _ _ _ _ _ hr).mono ?_; rintro e w' ⟨rfl, rfl⟩)
          go_roundw
          case rel => exact ⟨k + 1, by omega, by go_num, fun j hj => by
            rcases Nat.lt_or_ge j k with h' | h'
            · exact HA.out j h'
            · obtain rfl : j = k := by omega
              exact HQ.out, trivial⟩
          case measure => simp [intOf]; omega
      · obtain rfl : k = m := by omega
        have HE := Lib.hid (desk_yes (yss := yss) hm (by omega) (by rw [hl]; exact HA.out))
        go_wp2
        go_ret
        exact ⟨boolEnd HE.out.symm, hb1⟩
  · have HE := Lib.hid (desk_no2 (xs := xs) (yss := yss) (by omega))
    go_enter Try.func35, Try.ntmps35
    go_wp2_with (go_at_call 50; refine (mapOk_c _ _ _ _ _ h1).mono ?_; rintro e w' ⟨rfl, rfl⟩)
    go_ret
    exact ⟨boolEnd HE.out.symm, hb1⟩

set_option maxRecDepth 100000 in
set_option maxHeartbeats 800000 in
theorem sDeskOk_c (A P : Option Addr) (n c m d : Nat) (xs : List Int) (yss : List (List Int)) (w : World) (h : RdD w w.heap.size A n c xs P m d yss) :
    Calls Try.prog 33 #[.agg #[.slice A n c, .slice P m d]] w fun e w' => e = .returned (.bool (deskOkB xs yss)) ∧ Below w.heap.size w w' := by
  have hb1 : Below w.heap.size w (w.alloc (.cells #[.slice A n c, .slice P m d] 41)) := (Below.refl _ _).alloc (Nat.le_refl _) _
  have h1 := h.1.up hb1
  have h2 := h.2.up hb1
  have hl := h.2.len
  have hmx := h.2.max
  have hcp := h.2.cap
  unfold maxLen at hmx
  go_enter Try.func33, Try.ntmps33
  go_wp2_with fail
  go_loopw [3] (fun i wr => ∃ k : Nat, k ≤ m ∧ i = .int .i64 k ∧ (∀ j, j < k → mapOk (gR yss j) = true) ∧ ∃ q, wr = (w.alloc (.cells #[.slice A n c, .slice P m d] 41)).drewN q) (fun i _ => m - (intOf i).toNat)
  case atStart => exact ⟨0, Nat.zero_le _, rfl, fun j hj => absurd hj (Nat.not_lt_zero _), 0, rfl⟩
  case round =>
    obtain ⟨k, hk, rfl, hall, q, rfl⟩ := hrel
    have HA := Lib.hid hall
    clear hall
    by_cases hlt : k < m
    · obtain ⟨b, off, A1, n1, c1, rfl, hb, hcell, hr⟩ := h2.at_ hlt
      rcases hq : mapOk (gR yss k) with _ | _
      · have HE := Lib.hid (desk_no3 (xs := xs) (by omega) hq)
        go_wp2_with (go_at_call 18; refine (sMapOk_c _ _ _ _ _ (hr.dn q)).mono ?_; rintro e w' ⟨rfl, rfl⟩)
        go_ret
        exact ⟨boolEnd HE.out.symm, bd hb1 _⟩
      · have HQ := Lib.hid hq
        go_wp2_with (go_at_call 18; refine (sMapOk_c _ _ _ _ _ (hr.dn q)).mono ?_; rintro e w' ⟨rfl, rfl⟩)
        go_roundw
        case rel => exact ⟨k + 1, by omega, by go_num, fun j hj => by
          rcases Nat.lt_or_ge j k with h' | h'
          · exact HA.out j h'
          · obtain rfl : j = k := by omega
            exact HQ.out, _, rfl⟩
        case measure => simp [intOf]; omega
    · obtain rfl : k = m := by omega
      rcases hm : mapOk xs with _ | _
      · have HE := Lib.hid (desk_no1 (yss := yss) hm)
        go_wp2_with (go_at_call 18; refine (sMapOk_c _ _ _ _ _ (h1.dn q)).mono ?_; rintro e w' ⟨rfl, rfl⟩)
        go_ret
        exact ⟨boolEnd HE.out.symm, bd hb1 _⟩
      · by_cases h8 : k ≤ 8
        · have HE := Lib.hid (desk_yes (yss := yss) hm (by omega) (by rw [hl]; exact HA.out))
          go_wp2_with (go_at_call 18; refine (sMapOk_c _ _ _ _ _ (h1.dn q)).mono ?_; rintro e w' ⟨rfl, rfl⟩)
          go_ret
          exact ⟨boolEnd ((decide_eq_true (by omega)).trans HE.out.symm), bd hb1 _⟩
        · have HE := Lib.hid (desk_no2 (xs := xs) (yss := yss) (by omega))
          go_wp2_with (go_at_call 18; refine (sMapOk_c _ _ _ _ _ (h1.dn q)).mono ?_; rintro e w' ⟨rfl, rfl⟩)
          go_ret
          exact ⟨boolEnd ((decide_eq_false (by omega)).trans HE.out.symm), bd hb1 _⟩

theorem eqBB_self (yss : List (List Int)) : eqBB yss yss = true := decide_eq_true rfl
theorem RdD.up {w w' : World} {A P : Option Addr} {n c m d : Nat} {xs : List Int} {yss : List (List Int)} (h : RdD w w.heap.size A n c xs P m d yss) (hb : Below w.heap.size w w') : RdD w' w'.heap.size A n c xs P m d yss := ⟨h.1.up hb, h.2.up hb⟩
set_option maxRecDepth 100000 in
set_option maxHeartbeats 1600000 in
theorem walk_FnExactDeskOk (A P : Option Addr) (n c m d : Nat) (xs : List Int) (yss : List (List Int)) (w : World) (h : RdD w w.heap.size A n c xs P m d yss) :
    Calls Try.prog 8 #[.agg #[.slice A n c, .slice P m d]] w fun e w' => e = .returned (.bool true) ∧ Below w.heap.size w w' := by
  go_enter Try.func8, Try.ntmps8
  go_wp2_with fail
  have ha := Two.made w 38 (.slice A n c) (.slice P m d)
  have hb1 : Below w.heap.size w (w.alloc (.cells #[.slice A n c, .slice P m d] 38)) := (Below.refl _ _).alloc (Nat.le_refl _) _
  generalize w.alloc (.cells #[.slice A n c, .slice P m d] 38) = w1 at *
  have h1 := h.up hb1
  refine (szDesk_c A P n c m d xs yss _ h1).mono ?_
  rintro e w2 ⟨r, rfl, hb2, hr0, hr1, hr2⟩
  have ha2 := ha.up hb2
  have h2 := h1.up hb2
  have hbw := bt hb1 hb2
  clear h1 hb1 hb2 ha
  by_cases hneg : r < 0
  · go_wp2_with fail
    go_ret
    exact ⟨rfl, hbw⟩
  obtain ⟨hx, hy⟩ := hr2 (by omega)
  obtain ⟨_, hc0, hc1, _, _⟩ := id ha2
  go_wp2_with fail
  clear hc0 hc1
  refine (toDesk_c A P n c m d xs yss _ h2 hx hy).mono ?_
  rintro e w3 ⟨A3, n3, c3, P3, m3, d3, rfl, h3, hb3⟩
  have ha3 := ha2.up hb3
  have h2' := h2.up hb3
  have hbw3 := bt hbw hb3
  clear ha2 h2 hbw hb3
  go_wp2_with fail
  refine (sDeskOk_c A3 P3 n3 c3 m3 d3 xs yss _ h3).mono ?_
  rintro e w4 ⟨rfl, hb4⟩
  have ha4 := ha3.up hb4
  have h4 := h2'.up hb4
  have hbw4 := bt hbw3 hb4
  clear ha3 h2' hbw3 h3 hb4
  obtain ⟨_, hc0, hc1, _, _⟩ := id ha4
  go_wp2_with fail
  clear hc0 hc1
  refine (toDesk_c A P n c m d xs yss _ h4 hx hy).mono ?_
  rintro e w5 ⟨A5, n5, c5, P5, m5, d5, rfl, h5, hb5⟩
  have ha5 := ha4.up hb5
  have hd5 := h4.up hb5
  have hbw5 := bt hbw4 hb5
  clear ha4 h4 hbw4 hb5
  go_wp2_with fail
  have hx6 := Two.made w5 41 (.slice A5 n5 c5) (.slice P5 m5 d5)
  have hxb : Below w5.heap.size w5 (w5.alloc (.cells #[.slice A5 n5 c5, .slice P5 m5 d5] 41)) := (Below.refl _ _).alloc (Nat.le_refl _) _
  have ha6 := ha5.up hxb
  have hd6 := hd5.up hxb
  have h6 := h5.up hxb
  have hbw6 := bt hbw5 hxb
  clear ha5 hd5 hbw5 h5 hxb
  generalize w5.alloc (.cells #[.slice A5 n5 c5, .slice P5 m5 d5] 41) = w6 at *
  refine (deskOk_c A5 P5 n5 c5 m5 d5 xs yss _ h6).mono ?_
  rintro e w7 ⟨rfl, hb7⟩
  have hx7 := hx6.up hb7
  have ha7 := ha6.up hb7
  have hd7 := hd6.up hb7
  have h7 := h6.up hb7
  have hbw7 := bd (bt hbw6 hb7) 1
  clear hx6 ha6 hd6 h6 hbw6 hb7
  have hd71 : RdD w7.drew w7.drew.heap.size A n c xs P m d yss := ⟨hd7.1.dn 1, hd7.2.dn 1⟩
  have h71 : RdD w7.drew w7.drew.heap.size A5 n5 c5 xs P5 m5 d5 yss := ⟨h7.1.dn 1, h7.2.dn 1⟩
  have hx71 : Two w7.drew w5.heap.size (.slice A5 n5 c5) (.slice P5 m5 d5) := hx7
  have ha71 : Two w7.drew w.heap.size (.slice A n c) (.slice P m d) := ha7
  have hbw71 : Below w.heap.size w w7.drew := hbw7
  clear hbw7 hx7 ha7 hd7 h7
  have hqq : (eqB xs xs && eqBB yss yss) = true := by rw [eqB_self, eqBB_self]; rfl
  go_wp2_with fail
  go_region_held3 (fun w' => w'.cell? ⟨w5.heap.size, 0, none⟩ = some (.slice A5 n5 c5) ∧ w'.cell? ⟨w5.heap.size, 1, none⟩ = some (.slice P5 m5 d5) ∧ w'.cell? ⟨w.heap.size, 0, none⟩ = some (.slice A n c) ∧ w'.cell? ⟨w.heap.size, 1, none⟩ = some (.slice P m d))
    (first
      | exact ⟨hx71.2.1, hx71.2.2.1, ha71.2.1, ha71.2.2.1⟩
      | exact ⟨hx8.2.1, hx8.2.2.1, ha8.2.1, ha8.2.2.1⟩
      | exact ⟨hx9.2.1, hx9.2.2.1, ha9.2.1, ha9.2.2.1⟩)
    (first
      | (go_at_call 34; refine (toDesk_c A P n c m d xs yss _ hd71 hx hy).mono ?_; rintro e w8 ⟨A8, n8, c8, P8, m8, d8, rfl, h8, hb8⟩; have hx8 := hx71.up hb8; have ha8 := ha71.up hb8; have h58 := h71.up hb8)
      | (go_at_call 36; refine (eqDesk_c A5 P5 A8 P8 n5 c5 m5 d5 n8 c8 m8 d8 xs xs yss yss _ h58 h8).mono ?_; rintro e w9 ⟨rfl, hb9⟩; have hx9 := hx8.up hb9; have ha9 := ha8.up hb9))
  all_goals
    go_wp2_with fail
    go_ret
    exact ⟨rfl, bt (bt hbw71 hb8) hb9⟩
end Go.Proofs.Ytpbpkdkjjbhjoaa
