/- Walks: heldDeedS, sameDeeds; the law FnExactReadJournal. -/
import Derived.Test.YtoinlkdmfclnbaaGreatDoorW126
import Derived.Test.YtoinlkdmfclnbaaGreatDoorW120
import Derived.Test.YtoinlkdmfclnbaaGreatDoorV14
import Derived.Deep.RegionHeld3
namespace Go.Proofs.YtoinlkdmfclnbaaGreatDoor
set_option linter.unusedVariables false
open Go.RowKit

theorem neDd (d e : Dd) (w : World) : (binOp .neq 55 (.agg #[.int .i64 d.1, .int .i64 d.2.1, .int .i64 d.2.2.1, .string d.2.2.2]) (.agg #[.int .i64 e.1, .int .i64 e.2.1, .int .i64 e.2.2.1, .string e.2.2.2])).run Tryz.prog w = .ok (.bool (!eqD d e)) w := by
  rw [run_neq_struct, inDeed]
  obtain ⟨k, a, b, s⟩ := d
  obtain ⟨k', a', b', s'⟩ := e
  unfold eqD
  simp only [Result.andThen]
  congr 3
  by_cases h : (k, a, b, s) = (k', a', b', s')
  · rw [decide_eq_true h]
    cases h
    simp
  · rw [decide_eq_false h]
    by_cases h1 : k = k' <;> by_cases h2 : a = a' <;> by_cases h3 : b = b' <;> simp [h1, h2, h3]
    intro h4
    apply h
    rw [h1, h2, h3, show s = s' from by rw [← bl_of s, ← bl_of s', ← ByteArray.toList_eq, ← ByteArray.toList_eq, h4]]
set_option maxRecDepth 100000 in
set_option maxHeartbeats 1600000 in
/-- sameDeeds, of rows that are the same -/
theorem sameDeeds_c (A A' : Option Addr) (n c c' : Nat) (ds : List Dd) (w : World) (h : RdE w w.heap.size A n c ds) (h' : RdE w w.heap.size A' n c' ds) :
    Calls Tryz.prog 33 #[.slice A n c, .slice A' n c'] w fun e w' => e = .returned (.bool true) ∧ ∃ m, w' = w.drewN m := by
  have hm := h.max
  have hcp := h.cap
  have hm' := h'.max
  have hcp' := h'.cap
  unfold maxLen at hm hm'
  have hgu : Tryz.prog.eqGuardType Tryz.prog.depth 55 = false := by kernel_rfl
  go_enter Tryz.func33, Tryz.ntmps33
  go_wp2_with fail
  go_loopw [5] (fun i wr => ∃ k m : Nat, k ≤ n ∧ i = .int .i64 (k : Int) ∧ wr = w.drewN m) (fun i _ => n - (intOf i).toNat)
  case atStart => exact ⟨0, 0, Nat.zero_le _, rfl, rfl⟩
  case round =>
    obtain ⟨k, m, hk, rfl, rfl⟩ := hrel
    by_cases hlt : k < n
    · obtain ⟨b, off, rfl, hbE, e0, e1, e2, e3⟩ := h.at_ hlt
      obtain ⟨b', off', rfl, hbE', g0, g1, g2, g3⟩ := h'.at_ hlt
      have hne := fun W => neDdSame (dK ds k) (dA ds k) (dB ds k) (dS ds k) W
      have hk0 : (0 : Int) ≤ (k : Int) := Int.natCast_nonneg _
      have hk1 : (k : Int) < (n : Int) := by omega
      go_wp2_with fail
      go_quiet (fail)
      go_wp2_with fail
      go_roundw
      case rel => exact ⟨k + 1, _, by omega, by go_num, rfl⟩
      case measure => simp [intOf]; omega
    · have hkn : k = n := by omega
      go_wp2_with fail
      go_ret
      exact ⟨rfl, m, rfl⟩
end Go.Proofs.YtoinlkdmfclnbaaGreatDoor
