/- Walks: heldDeedS, sameDeeds; the law FnExactReadJournal. -/
import Derived.Test.YtnpjelekpkgbpaaDoorW126
import Derived.Test.YtnpjelekpkgbpaaDoorW120
import Derived.Test.YtnpjelekpkgbpaaDoorV14
import Derived.Deep.RegionHeld3
namespace Go.Proofs.YtnpjelekpkgbpaaDoor
set_option linter.unusedVariables false
open Go.RowKit

set_option maxRecDepth 100000 in
set_option maxHeartbeats 1600000 in
theorem heldDeedS_c (A : Option Addr) (n c k0 : Nat) (w : World) (h : RdE w w.heap.size A n c (marksE k0 n)) (hk : 0 < k0) (hk0 : k0 + 4 * n ≤ 1000000000000) :
    Calls Tryd.prog 27 #[.slice A n c, .int .i64 (k0 : Int)] w fun e w' => e = .returned (.int .i64 ((k0 + 4 * n : Nat) : Int)) ∧ Below w.heap.size w w' := by
  have hm := h.max
  have hcp := h.cap
  unfold maxLen at hm
  go_enter Tryd.func27, Tryd.ntmps27
  go_wp2_with fail
  go_loopw [1, 5] (fun t i wr => ∃ j q : Nat, j ≤ n ∧ i = .int .i64 j ∧ t = .int .i64 (q : Int) ∧ q = k0 + 4 * j ∧ Below w.heap.size w wr) (fun _ i _ => n - (intOf i).toNat)
  case atStart => exact ⟨0, k0, Nat.zero_le _, rfl, rfl, rfl, Below.refl _ _⟩
  case round =>
    obtain ⟨j, q, hj, rfl, rfl, hq, hB⟩ := hrel
    have HQ := Lib.hid hq
    have hq9 : q + 4 ≤ 1000000000000 ∨ n ≤ j := by omega
    by_cases hlt : j < n
    · have hq1 : q + 4 ≤ 1000000000000 := by omega
      have hr := h.up hB
      obtain ⟨b, off, rfl, hbE, e0, e1, e2, e3⟩ := hr.at_ hlt
      have hdg : dG (marksE k0 n) j = mE k0 j := dG_marksE hlt
      have hk0i : (0 : Int) ≤ (j : Int) := Int.natCast_nonneg _
      have hk1i : (j : Int) < (n : Int) := by omega
      rw [show dK (marksE k0 n) j = (q : Int) from by unfold dK; rw [hdg]; show ((k0 + 4 * j : Nat) : Int) = _; rw [hq]] at e0
      rw [show dA (marksE k0 n) j = (q : Int) + 1 from by unfold dA; rw [hdg]; show ((k0 + 4 * j + 1 : Nat) : Int) = _; rw [hq]; rfl] at e1
      rw [show dB (marksE k0 n) j = (q : Int) + 1 + 1 from by unfold dB; rw [hdg]; show ((k0 + 4 * j + 2 : Nat) : Int) = _; rw [hq]; rfl] at e2
      rw [show dS (marksE k0 n) j = mkT (q + 3) from by unfold dS; rw [hdg]; show mkT (k0 + 4 * j + 3) = _; rw [hq]] at e3
      have KM := fun W => markText_c (q + 3) W (by omega) (by omega)
      rw [show ((q + 3 : Nat) : Int) = (q : Int) + 1 + 1 + 1 by omega] at KM
      generalize mkT (q + 3) = T at *
      clear hq hq9 hdg hr
      go_wp2_with fail
      have Y0 : Hid (World.cell? wr.drew ⟨b, off + j * 4 + 3, none⟩ = some (.string T)) := Lib.hid e3
      have HB : Hid (Below w.heap.size w wr.drew) := Lib.hid (bd hB 1)
      have hbd : b < wr.drew.heap.size := hbE
      clear e3 hB
      go_region_held3 (fun w' => World.cell? w' ⟨b, off + j * 4 + 3, none⟩ = some (.string T))
        (first | exact Y0.out | exact Y1.out)
        (first
          | (go_at_call 50; with_reducible refine (KM _).mono ?_; rintro e w2 ⟨rfl, hb2⟩; have hB2 : Below w.heap.size w w2 := bt HB.out hb2; have Y1 : Hid (World.cell? w2 ⟨b, off + j * 4 + 3, none⟩ = some (.string T)) := Lib.hid ((hb2.cell (p := ⟨b, off + j * 4 + 3, none⟩) hbd).trans Y0.out)))
      all_goals
        go_wp2_with fail
        go_roundw
        case rel => exact ⟨j + 1, q + 4, by omega, by go_num, by go_num, by have := HQ.out; omega, hB2⟩
        case measure => simp [intOf]; omega
    · have hjn : j = n := by omega
      have HN : Hid (q = k0 + 4 * n) := Lib.hid (by rw [HQ.out, hjn])
      clear hjn hq9 hq
      go_wp2_with fail
      go_ret
      exact ⟨intEnd (by rw [HN.out]), hB⟩
theorem neDd (d e : Dd) (w : World) : (binOp .neq 26 (.agg #[.int .i64 d.1, .int .i64 d.2.1, .int .i64 d.2.2.1, .string d.2.2.2]) (.agg #[.int .i64 e.1, .int .i64 e.2.1, .int .i64 e.2.2.1, .string e.2.2.2])).run Tryd.prog w = .ok (.bool (!eqD d e)) w := by
  rw [run_neq_struct, inDeed]
  obtain ⟨k, a, b, s⟩ := d
  obtain ⟨k', a', b', s'⟩ := e
  unfold eqD
  simp only [Result.andThen]
  congr 3
  by_cases h : (k, a, b, s) = (k', a', b', s')
  · rw [decide_eq_true h]
    cases h
    simp
  · rw [decide_eq_false h]
    by_cases h1 : k = k' <;> by_cases h2 : a = a' <;> by_cases h3 : b = b' <;> simp [h1, h2, h3]
    intro h4
    apply h
    rw [h1, h2, h3, show s = s' from by rw [← bl_of s, ← bl_of s', ← ByteArray.toList_eq, ← ByteArray.toList_eq, h4]]
set_option maxRecDepth 100000 in
set_option maxHeartbeats 1600000 in
/-- sameDeeds, of rows that are the same -/
theorem sameDeeds_c (A A' : Option Addr) (n c c' : Nat) (ds : List Dd) (w : World) (h : RdE w w.heap.size A n c ds) (h' : RdE w w.heap.size A' n c' ds) :
    Calls Tryd.prog 30 #[.slice A n c, .slice A' n c'] w fun e w' => e = .returned (.bool true) ∧ ∃ m, w' = w.drewN m := by
  have hm := h.max
  have hcp := h.cap
  have hm' := h'.max
  have hcp' := h'.cap
  unfold maxLen at hm hm'
  have hgu : Tryd.prog.eqGuardType Tryd.prog.depth 26 = false := by kernel_rfl
  go_enter Tryd.func30, Tryd.ntmps30
  go_wp2_with fail
  go_loopw [5] (fun i wr => ∃ k m : Nat, k ≤ n ∧ i = .int .i64 (k : Int) ∧ wr = w.drewN m) (fun i _ => n - (intOf i).toNat)
  case atStart => exact ⟨0, 0, Nat.zero_le _, rfl, rfl⟩
  case round =>
    obtain ⟨k, m, hk, rfl, rfl⟩ := hrel
    by_cases hlt : k < n
    · obtain ⟨b, off, rfl, hbE, e0, e1, e2, e3⟩ := h.at_ hlt
      obtain ⟨b', off', rfl, hbE', g0, g1, g2, g3⟩ := h'.at_ hlt
      have hne := fun W => neDdSame (dK ds k) (dA ds k) (dB ds k) (dS ds k) W
      have hk0 : (0 : Int) ≤ (k : Int) := Int.natCast_nonneg _
      have hk1 : (k : Int) < (n : Int) := by omega
      go_wp2_with fail
      go_quiet (fail)
      go_wp2_with fail
      go_roundw
      case rel => exact ⟨k + 1, _, by omega, by go_num, rfl⟩
      case measure => simp [intOf]; omega
    · have hkn : k = n := by omega
      go_wp2_with fail
      go_ret
      exact ⟨rfl, m, rfl⟩
end Go.Proofs.YtnpjelekpkgbpaaDoor
