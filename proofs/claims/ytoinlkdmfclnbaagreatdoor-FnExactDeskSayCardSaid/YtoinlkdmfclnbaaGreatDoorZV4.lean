/- Bundle V4. -/
import Derived.Test.YtoinlkdmfclnbaaGreatDoorRows
import Derived.Deep.QuietTactic
import Derived.BigQuiet
import Derived.Outline
import Derived.Deep.RegionWith
import Derived.Deep.RegionHeld3
import Derived.Test.YtoinlkdmfclnbaaGreatDoorZP
import Derived.Test.YtoinlkdmfclnbaaGreatDoorZQ
import Derived.Test.YtoinlkdmfclnbaaGreatDoorZV1
import Derived.Test.YtoinlkdmfclnbaaGreatDoorZV2
import Derived.Test.YtoinlkdmfclnbaaGreatDoorZV3
namespace Go.Proofs.YtoinlkdmfclnbaaGreatDoor
set_option linter.unusedVariables false
open Go.RowKit

end Go.Proofs.YtoinlkdmfclnbaaGreatDoor
namespace Go.Proofs.YtoinlkdmfclnbaaGreatDoor
set_option linter.unusedVariables false
open Go.RowKit

end Go.Proofs.YtoinlkdmfclnbaaGreatDoor
namespace Go.Proofs.YtoinlkdmfclnbaaGreatDoor
set_option linter.unusedVariables false
open Go.RowKit

end Go.Proofs.YtoinlkdmfclnbaaGreatDoor
namespace Go.Proofs.YtoinlkdmfclnbaaGreatDoor
set_option linter.unusedVariables false
open Go.RowKit

end Go.Proofs.YtoinlkdmfclnbaaGreatDoor
namespace Go.Proofs.YtoinlkdmfclnbaaGreatDoor
set_option linter.unusedVariables false
open Go.RowKit

/-! ### TurnedOf (impl) -/
theorem turn_start {w : World} {B n : Nat} (h : w.ownsRow B 3 1 (.slice (some ⟨B, 0, none⟩) n n) n (List.replicate n (Value.int .i64 0))) :
    OwnIn w B (B + 1) (some ⟨B, 0, none⟩) n n (ints (List.replicate n 0)) := by
  refine ⟨⟨by rw [ints_len]; simp, ?_⟩, fun k hk => by cases hk; exact Nat.lt_succ_self _⟩
  rw [ints_replicate, List.map_replicate]; exact h
set_option maxRecDepth 100000 in
set_option maxHeartbeats 1600000 in
theorem turnedOf_ok (A : Option Addr) (c : Nat) (f : List Nat) (w : World) (h : Rd w w.heap.size A f.length c (ints f)) (hf : MapN f) :
    Calls Tryz.prog 175 #[.slice A f.length c] w (RowBool w (if turned f then ints (backN f) else []) (turned f)) := by
  have h7 := hf.le7
  have h1 := hf.pos
  have hok := mapOk_ints hf
  obtain ⟨i0, hi, hz0, hz1, hz2⟩ := info_parts int_info
  obtain ⟨r, hr⟩ : ∃ r, r = (if turned f then ints (backN f) else []) := ⟨_, rfl⟩
  rw [← hr]
  have HR := Lib.hid hr
  clear hr
  go_enter Tryz.func175, Tryz.ntmps175
  go_wp2_with (first
    | (go_at_call 68; refine (mapOk_c _ _ _ _ _ h).mono ?_; rintro e w' ⟨rfl, rfl⟩)
    | (at_make; refine wpList_make_full _ rfl _ _ 23 rfl w.heap.size 3 i0 (.int .i64 0) 1 Tryz.underlying23 hi hz0 hz1 _ _ _ _ f.length rfl rfl rfl rfl (by rw [hz2]; omega) (by unfold maxLen; omega) (Nat.le_refl _) ?_))
  intro w1 hown1 hg1
  have hb1 : Below w.heap.size w w1 := (Below.refl _ _).grown hg1 (Nat.le_refl _) (fun k hk => by cases hk)
  have ho1 : OwnIn w1 w.heap.size (w.heap.size + 1) (some ⟨w.heap.size, 0, none⟩) f.length f.length (ints (backK f 0)) := turn_start (by simpa [toList_madeCells_one, Value.cells] using hown1)
  clear hown1 hg1
  go_wp2_with fail
  go_loopw [5, 16] (fun s i wr => ∃ k : Nat, k ≤ f.length ∧ i = .int .i64 k ∧ s = .int .i64 ((metK f k : Nat) : Int) ∧ (∀ j, j < k → (metK f j).testBit (nx f j) = false) ∧ OwnIn wr w.heap.size (w.heap.size + 1) (some ⟨w.heap.size, 0, none⟩) f.length f.length (ints (backK f k)) ∧ Below w.heap.size w wr) (fun s i _ => f.length - (intOf i).toNat)
  case atStart => exact ⟨0, Nat.zero_le _, rfl, rfl, fun j hj => absurd hj (Nat.not_lt_zero _), ho1, hb1⟩
  case round =>
    clear ho1 hb1
    obtain ⟨k, hk, rfl, rfl, hno, ho, hbw⟩ := hrel
    have HN := Lib.hid hno
    clear hno
    by_cases hlt : k < f.length
    · obtain ⟨b, off, rfl, hb, hcell0⟩ := h.at_ hlt
      have hcell : wr.cell? ⟨b, off + k, none⟩ = some (.int .i64 ((nx f k : Nat) : Int)) := by rw [hbw.cell (p := ⟨b, off + k, none⟩) hb, hcell0, gI_ints]
      have hx := hf.has k hlt
      have hm7 := metK_lt hf hk
      have h2 := two_le (k := nx f k) (by omega)
      have hi1 : (1 : Int) ≤ 2 ^ nx f k := by rw [castPow]; omega
      have hi2 : (2 : Int) ^ nx f k ≤ 128 := by rw [castPow]; omega
      have hand : (bits .and .i64 ((metK f k : Nat) : Int) (2 ^ nx f k) != 0) = (metK f k).testBit (nx f k) := by
        rw [castPow, bits_and _ _ (by omega) (by omega), ← and_two_ne, Bool.eq_iff_iff]; simp
      have hor : bits .or .i64 ((metK f k : Nat) : Int) (2 ^ nx f k) = ((metK f k ||| 2 ^ nx f k : Nat) : Int) := by
        rw [castPow]; exact bits_or _ _ (by omega) (by omega)
      have hold := ho.cell (j := nx f k) (by omega)
      have hfz := ho.frozen (nx f k)
      have HST := Lib.hid (ho.store (nx f k) (k : Int))
      have HB := Lib.hid hbw
      clear h2 hcell0 ho hbw
      rcases hbt : (metK f k).testBit (nx f k) with _ | _
      · have HT := Lib.hid hbt
        go_wp2_with fail
        go_roundw
        case rel => exact ⟨k + 1, by omega, by go_num, rfl, fun j hj => by
          rcases Nat.lt_or_ge j k with h' | h'
          · exact HN.out j h'
          · obtain rfl : j = k := by omega
            exact HT.out, by rw [backK, ints_set]; exact HST.out.1, HB.out.trans (HST.out.2.below (by have := HB.out.size; omega))⟩
        case measure => simp [intOf]; omega
      · have HT := Lib.hid (turned_not hlt hbt)
        go_wp2_with fail
        go_ret2
        have hr := HR.out
        rw [HT.out] at hr ⊢
        rw [if_neg (by decide)] at hr
        subst hr
        exact ⟨_, _, _, rfl, OwnIn.nil_ _ _ _, HB.out⟩
    · obtain rfl : k = f.length := by omega
      have HT := Lib.hid (turned_yes HN.out)
      have HO := Lib.hid ho
      clear ho
      go_wp2_with fail
      go_ret2
      have hr := HR.out
      rw [HT.out] at hr ⊢
      rw [if_pos rfl] at hr
      subst hr
      exact ⟨_, _, _, rfl, HO.out.wide (Nat.le_refl _) (by have := (HO.out.lt w.heap.size rfl).2.2; omega), hbw⟩

/-! ### drawings -/
end Go.Proofs.YtoinlkdmfclnbaaGreatDoor
namespace Go.Proofs.YtoinlkdmfclnbaaGreatDoor
set_option linter.unusedVariables false
open Go.RowKit

/-! ### laws -/
end Go.Proofs.YtoinlkdmfclnbaaGreatDoor
namespace Go.Proofs.YtoinlkdmfclnbaaGreatDoor
set_option linter.unusedVariables false
open Go.RowKit

/-! ### FnLedTo -/
end Go.Proofs.YtoinlkdmfclnbaaGreatDoor
