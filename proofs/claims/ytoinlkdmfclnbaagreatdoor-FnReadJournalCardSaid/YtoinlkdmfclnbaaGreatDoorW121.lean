/- Walks: l20Spoil, the drawing of a text for ReadDeed. -/
import Derived.Test.YtoinlkdmfclnbaaGreatDoorW114
import Derived.Test.YtoinlkdmfclnbaaGreatDoorV18
namespace Go.Proofs.YtoinlkdmfclnbaaGreatDoor
set_option linter.unusedVariables false
open Go.RowKit

def lit6 (x : Nat) : ByteArray := [(⟨#[]⟩ : ByteArray), ⟨#[48]⟩, ⟨#[32]⟩, ⟨#[10]⟩, ⟨#[45]⟩, ⟨#[98, 97, 99, 107]⟩].getD x ⟨#[]⟩
theorem lit6_size (x : Nat) : (lit6 x).size ≤ 4 := by
  unfold lit6
  match x with
  | 0 => decide
  | 1 => decide
  | 2 => decide
  | 3 => decide
  | 4 => decide
  | 5 => decide
  | x + 6 => exact Nat.zero_le _
def TextDrawn (m : Nat) (w : World) (lo g p : Nat) (e : Ending) (w' : World) : Prop := ∃ t : ByteArray, e = .returned (.string t) ∧ t.size ≤ m ∧ Rdr w' lo g p ∧ Chg g (g + 1) w w'
set_option maxRecDepth 100000 in
set_option maxHeartbeats 3200000 in
theorem spoil_c (g lo p : Nat) (s : ByteArray) (w : World) (h : Rdr w lo g p) (hp : p ≤ 100000) (hs : s.size ≤ 1000000) :
    Calls Tryz.prog 84 #[.pointer (some ⟨g, 0, none⟩), .string s] w (TextDrawn (s.size + 4) w lo g (p + 2)) := by
  have hgl := h.lt
  have hlog := h.lo
  by_cases h0 : s.size = 0
  · go_enter Tryz.func84, Tryz.ntmps84
    go_wp2_with fail
    go_ret
    exact ⟨⟨#[10]⟩, rfl, by rw [h0]; decide, h.more (by omega), Chg.refl _ _ _⟩
  have h0i : ((s.size : Int) == 0) = false := by rw [beq_eq_false_iff_ne]; omega
  clear h0
  go_enter Tryz.func84, Tryz.ntmps84
  go_wp2_with fail
  have h1 : (1 : Int) ≤ (s.size : Int) := by
    have : (s.size : Int) ≠ 0 := by simpa using h0i
    omega
  refine (pickP_c g lo p (s.size : Int) _ h (by omega) (by omega) h1).mono ?_
  rintro e w1 ⟨k, rfl, hk, hr1, hc1⟩
  have hks : k < s.size := by omega
  have hs1 : ∀ W, (Instr.slice 9 (.string s) none (some (.int .i64 (k : Int))) none).run Tryz.prog W = .ok (.string (s.extract 0 k)) W := fun W => by
    rw [run_slice_string_to_if _ _ _ _ _ Tryz.underlying9, if_pos ⟨by omega, by omega⟩, Int.toNat_natCast]
  have hs2 : ∀ W, (Instr.slice 9 (.string s) (some (.int .i64 ((k : Int) + 1))) none none).run Tryz.prog W = .ok (.string (s.extract (k + 1) s.size)) W := fun W => by
    rw [run_slice_string_from_if _ _ _ _ _ Tryz.underlying9, if_pos ⟨by omega, by omega⟩, show ((k : Int) + 1).toNat = k + 1 by omega]
  have hz : (s.extract 0 k).size + (s.extract (k + 1) s.size).size ≤ s.size := by rw [ByteArray.size_extract, ByteArray.size_extract]; omega
  have hw : IntKind.i64.wrap ((k : Int) + 1) = (k : Int) + 1 := IntWalk.i64_in _ (by omega)
  generalize s.extract 0 k = S1 at *
  generalize s.extract (k + 1) s.size = S2 at *
  have hgz : g < w1.heap.size := hr1.lt
  have hn0 : ¬ w1.heap.size = g := by omega
  clear h hgl
  go_wp2_with fail
  go_region_with (first
    | (go_at_call 69; refine (pickP_c g lo (p + 1) 6 _ (by repeat (first | with_reducible exact hr1 | with_reducible refine Rdr.dr ?_ | with_reducible refine Rdr.al ?_ _)) (by omega) (by omega) (by omega)).mono ?_; rintro e w2 ⟨x, rfl, hx, hr2, hc2⟩; have hk2 := hc2.cells; have hz2 := hc2.size; (try have hl2 : w1.heap.size < w2.heap.size := by (have := hc2.size; (try simp at this); omega)); have hxn : x < 6 := (by omega); have hx0 : (0 : Int) ≤ (x : Int) := Int.natCast_nonneg _; have hT := lit6_size x; have hel : ∀ h : x < [Value.string ⟨#[]⟩, Value.string ⟨#[48]⟩, Value.string ⟨#[32]⟩, Value.string ⟨#[10]⟩, Value.string ⟨#[45]⟩, Value.string ⟨#[98, 97, 99, 107]⟩].length, [Value.string ⟨#[]⟩, Value.string ⟨#[48]⟩, Value.string ⟨#[32]⟩, Value.string ⟨#[10]⟩, Value.string ⟨#[45]⟩, Value.string ⟨#[98, 97, 99, 107]⟩][x]'h = Value.string (lit6 x) := (fun h => by match x, hxn with | 0, _ => rfl | 1, _ => rfl | 2, _ => rfl | 3, _ => rfl | 4, _ => rfl | 5, _ => rfl); generalize lit6 x = T at *; have hna : ¬ (9223372036854775807 < S1.size + T.size) := (by omega); have hnb : ¬ (9223372036854775807 < S1.size + T.size + S2.size) := (by omega); have hnc : ¬ (9223372036854775807 < (S1 ++ T).size + S2.size) := (by rw [ByteArray.size_append]; omega); have hC2 : Chg g (g + 1) w1 w2 := (by refine Chg.chg_ (lo' := g) (hi' := g + 1) ?_ hc2 (.inr ⟨Nat.le_refl _, Nat.le_refl _⟩); repeat (first | with_reducible exact Chg.refl _ _ _ | with_reducible refine Chg.dr ?_ | with_reducible refine Chg.allocNew ?_ _))))
  all_goals
    go_wp2_with fail
    go_ret
    first
      | exact ⟨_, rfl, by rw [ByteArray.size_append, ByteArray.size_append]; omega, hr2.more (by omega), hc1.chg_ hC2 (.inr ⟨Nat.le_refl _, Nat.le_refl _⟩)⟩
      | exact ⟨_, rfl, by rw [ByteArray.size_append, ByteArray.size_append]; omega, (hr2.al _).more (by omega), (hc1.chg_ hC2 (.inr ⟨Nat.le_refl _, Nat.le_refl _⟩)).allocNew _⟩
def DrawnT (m : Nat) (w : World) (e : Ending) (w' : World) : Prop := ∃ t : ByteArray, e = .returned (.string t) ∧ t.size ≤ m ∧ Below w.heap.size w w'
theorem dtX_size (kd a b : Int) (s : ByteArray) : (dtX kd a b s).size ≤ 20 := by
  unfold dtX
  rw [bl_size]
  exact dtD_len (kd, a, b, s.data.toList)
end Go.Proofs.YtoinlkdmfclnbaaGreatDoor
