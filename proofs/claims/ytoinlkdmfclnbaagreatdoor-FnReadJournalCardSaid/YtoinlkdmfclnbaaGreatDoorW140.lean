/- Walk: DrawReadJournal (spec). -/
import Derived.Test.YtoinlkdmfclnbaaGreatDoorV17
import Derived.Test.YtoinlkdmfclnbaaGreatDoorW121
namespace Go.Proofs.YtoinlkdmfclnbaaGreatDoor
set_option linter.unusedVariables false
open Go.RowKit

set_option maxRecDepth 100000 in
set_option maxHeartbeats 1600000 in
theorem drawReadJournal_c (A : Option Addr) (n c : Nat) (bs : List Nat) (w : World) (h : RdB w w.heap.size A n c bs) :
    Calls Tryz.prog 30 #[.slice A n c] w (DrawnT 200 w) := by
  go_enter Tryz.func30, Tryz.ntmps30
  go_wp2_with fail
  refine (open_c A n c bs _ h).mono ?_
  rintro e w2 ⟨rfl, hr2, hb2⟩
  have hz2 := hb2.size
  have hr2lt := hr2.lt
  go_wp2_with fail
  refine (written_c w.heap.size w.heap.size 0 _ hr2 (by omega)).mono ?_
  rintro e w3 ⟨v, ds, rfl, hO3, hS3, hl3, hne3, hr3, hc3⟩
  have hB3 := hb2.trans (hc3.belowLo (B := w.heap.size) (by omega) (by omega))
  have hz3 := hc3.size
  obtain ⟨A3, c3, rfl, hE3⟩ := hO3.slice_
  have hR3 := hE3.rd
  have hT : (jtX ds).size ≤ 105 := by
    rw [jtX_yes hne3, bl_size]
    have := lns_len (ds.map frDd)
    rw [List.length_map] at this
    omega
  clear hr2 hc3 hb2 hne3 hO3 hE3
  go_wp2_with fail
  refine (sJournalText_c A3 ds.length c3 ds _ hR3 (by omega) hS3).mono ?_
  rintro e w4 ⟨rfl, hb4⟩
  have hB4 := bt hB3 hb4
  have hr4 := hr3.up hb4
  have hz4 := hb4.size
  generalize jtX ds = T at *
  clear hR3 hr3 hB3 hb4 hS3
  go_wp2_with fail
  refine (pickP_c w.heap.size w.heap.size (0 + 30 + 1000) 3 _ hr4 (by omega) (by omega) (by omega)).mono ?_
  rintro e w5 ⟨x, rfl, hx, hr5, hc5⟩
  have hB5 := hB4.trans (hc5.belowLo (B := w.heap.size) (by omega) (by omega))
  have hz5 := hc5.size
  clear hr4 hc5 hB4
  by_cases hx0 : x = 0
  · subst hx0
    go_wp2_with fail
    refine (spoil_c w.heap.size w.heap.size (0 + 30 + 1000 + 1) T _ hr5 (by omega) (by omega)).mono ?_
    rintro e w6 ⟨t, rfl, ht, hr6, hc6⟩
    have hB6 := hB5.trans (hc6.belowLo (B := w.heap.size) (by omega) (by omega))
    go_wp2_with fail
    go_ret
    exact ⟨t, rfl, by omega, hB6⟩
  · have hq : ((x : Int) == 0) = false := by rw [beq_eq_false_iff_ne]; omega
    by_cases hx1 : x = 1
    · subst hx1
      go_wp2_with fail
      refine (pickP_c w.heap.size w.heap.size (0 + 30 + 1000 + 1) ((T.size : Int) + 1) _ hr5 (by omega) (by omega) (by omega)).mono ?_
      rintro e w6 ⟨k, rfl, hk, hr6, hc6⟩
      have hB6 := hB5.trans (hc6.belowLo (B := w.heap.size) (by omega) (by omega))
      have hs1 : ∀ W, (Instr.slice 9 (.string T) none (some (.int .i64 (k : Int))) none).run Tryz.prog W = .ok (.string (T.extract 0 k)) W := fun W => by
        rw [run_slice_string_to_if _ _ _ _ _ Tryz.underlying9, if_pos ⟨by omega, by omega⟩, Int.toNat_natCast]
      have hz : (T.extract 0 k).size ≤ 105 := by rw [ByteArray.size_extract]; omega
      go_wp2_with fail
      go_ret
      exact ⟨_, rfl, by omega, hB6⟩
    · have hq1 : ((x : Int) == 1) = false := by rw [beq_eq_false_iff_ne]; omega
      go_wp2_with fail
      go_ret
      exact ⟨T, rfl, by omega, hB5⟩
end Go.Proofs.YtoinlkdmfclnbaaGreatDoor
