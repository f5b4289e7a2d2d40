/- Walks: small functions over sets (impl and spec), copying and comparing rows (laws). -/
import Derived.Test.YtlbiioncpeondaaW1
import Derived.Test.YtlbiioncpeondaaM2
import Derived.Test.YtlbiioncpeondaaApp
import Derived.Deep.QuietTactic
import Derived.BigQuiet
namespace Go.Proofs.Ytlbiioncpeondaa
set_option linter.unusedVariables false
open Go.RowKit



set_option maxHeartbeats 400000 in
theorem everything_c (A : Option Addr) (n c : Nat) (w : World) (hn : n ≤ 7) :
    Calls Try.prog 62 #[.slice A n c] w fun e w' => e = .returned (.int .i64 (((2 ^ n : Nat) : Int) - 1)) ∧ w = w' := by
  have h2 := two_le hn
  have hi1 : (1 : Int) ≤ 2 ^ n := by rw [castPow]; omega
  have hi2 : (2 : Int) ^ n ≤ 128 := by rw [castPow]; omega
  clear h2
  go_enter Try.func62, Try.ntmps62
  go_wp2
  go_ret
  exact ⟨intEnd (by rw [castPow]), rfl⟩

set_option maxHeartbeats 400000 in
theorem inSet_c (m t : Nat) (w : World) (hm : m < 128) (ht : t ≤ 7) :
    Calls Try.prog 66 #[.int .i64 m, .int .i64 t] w fun e w' => e = .returned (.bool (m.testBit t)) ∧ w = w' := by
  have h2 := two_le ht
  have hi1 : (1 : Int) ≤ 2 ^ t := by rw [castPow]; omega
  have hi2 : (2 : Int) ^ t ≤ 128 := by rw [castPow]; omega
  have hb : (bits .and .i64 (m : Int) (2 ^ t) != 0) = m.testBit t := by
    rw [castPow, bits_and _ _ (by omega) (by omega), ← and_two_ne]
    rw [Bool.eq_iff_iff]; simp
  clear h2
  go_enter Try.func66, Try.ntmps66
  go_wp2
  go_ret
  exact ⟨rfl, rfl⟩

set_option maxHeartbeats 400000 in
theorem setOk_c (A : Option Addr) (n c : Nat) (xs : List Int) (s : Int) (w : World) (h : Rd w w.heap.size A n c xs) :
    Calls Try.prog 65 #[.slice A n c, .int .i64 s] w fun e w' => e = .returned (.bool (setOk xs s)) ∧ w = w' := by
  have HL := Lib.hid h.len
  rcases hm : mapOk xs with _ | _
  · have HS : Hid (setOk xs s = false) := by unfold Hid setOk; rw [hm]; rfl
    go_enter Try.func65, Try.ntmps65
    go_wp2_with (go_at_call 61; refine (mapOk_c _ _ _ _ _ h).mono ?_; rintro e w' ⟨rfl, rfl⟩)
    go_ret
    exact ⟨boolEnd HS.out.symm, rfl⟩
  · have HS : Hid (setOk xs s = inB s 0 (((2 ^ n : Nat) : Int) - 1)) := by unfold Hid setOk; rw [hm, HL.out]; rfl
    have h7 : n ≤ 7 := by
      obtain ⟨f, rfl, hf⟩ := mapOk_ex hm
      rw [← HL.out, ints_len]; exact hf.le7
    go_enter Try.func65, Try.ntmps65
    go_wp2_with (first
      | (go_at_call 61; refine (mapOk_c _ _ _ _ _ h).mono ?_; rintro e w' ⟨rfl, rfl⟩)
      | (go_at_call 62; refine (everything_c _ _ _ _ h7).mono ?_; rintro e w' ⟨rfl, rfl⟩)
      | (go_at_call 71; refine (within_c _ _ _ _).mono ?_; rintro e w' ⟨rfl, rfl⟩))
    go_ret
    exact ⟨boolEnd HS.out.symm, rfl⟩

set_option maxHeartbeats 400000 in
theorem sSetOk_c (A : Option Addr) (n c : Nat) (xs : List Int) (s : Int) (w : World) (h : Rd w w.heap.size A n c xs) :
    Calls Try.prog 88 #[.slice A n c, .int .i64 s] w fun e w' => e = .returned (.bool (setOk xs s)) ∧ w = w' := by
  have HL := Lib.hid h.len
  rcases hm : mapOk xs with _ | _
  · have HS : Hid (setOk xs s = false) := by unfold Hid setOk; rw [hm]; rfl
    go_enter Try.func88, Try.ntmps88
    go_wp2_with (go_at_call 41; refine (sMapOk_c _ _ _ _ _ h).mono ?_; rintro e w' ⟨rfl, rfl⟩)
    go_ret
    exact ⟨boolEnd HS.out.symm, rfl⟩
  · have HS : Hid (setOk xs s = inB s 0 ((2 : Int) ^ n - 1)) := by unfold Hid setOk; rw [hm, HL.out, castPow]; rfl
    have h7 : n ≤ 7 := by
      obtain ⟨f, rfl, hf⟩ := mapOk_ex hm
      rw [← HL.out, ints_len]; exact hf.le7
    have h2 := two_le h7
    have hi1 : (1 : Int) ≤ 2 ^ n := by rw [castPow]; omega
    have hi2 : (2 : Int) ^ n ≤ 128 := by rw [castPow]; omega
    clear h2
    go_enter Try.func88, Try.ntmps88
    go_wp2_with (first
      | (go_at_call 41; refine (sMapOk_c _ _ _ _ _ h).mono ?_; rintro e w' ⟨rfl, rfl⟩)
      | (go_at_call 76; refine (l1In_c _ _ _ _).mono ?_; rintro e w' ⟨rfl, rfl⟩))
    go_ret
    exact ⟨boolEnd HS.out.symm, rfl⟩

/-! ### the laws' own helpers -/
set_option maxHeartbeats 400000 in
theorem toIntS_c (A : Option Addr) (n c : Nat) (xs : List Int) (w : World) (h : Rd w w.heap.size A n c xs) (hn : n ≤ 17592186044416) :
    Calls Try.prog 16 #[.slice A n c] w fun e w' => e = .returned (.slice (some ⟨w.heap.size, 0, none⟩) n n) ∧ Own w' w.heap.size (some ⟨w.heap.size, 0, none⟩) n n xs ∧ Below w.heap.size w w' := by
  have HL := Lib.hid h.len
  obtain ⟨i0, hi, hz0, hz1, hz2⟩ := info_parts int_info
  go_enter Try.func16, Try.ntmps16
  go_wp2_with (at_make; refine wpList_make_full _ rfl _ _ 22 rfl w.heap.size 3 i0 (.int .i64 0) 1 Try.underlying22 hi hz0 hz1 _ _ _ _ n rfl rfl rfl rfl (by rw [hz2]; omega) (by unfold maxLen; omega) (Nat.le_refl _) ?_; intro w1 hown1 hg1)
  have hb1 : Below w.heap.size w w1 := (Below.refl _ _).grown hg1 (Nat.le_refl _) (fun k hk => by cases hk)
  go_loopw [4] (fun i wr => ∃ k : Nat, k ≤ n ∧ i = .int .i64 k ∧ wr.ownsRow w.heap.size 3 1 (.slice (some ⟨w.heap.size, 0, none⟩) n n) n ((xs.take k).map (Value.int .i64) ++ List.replicate (n - k) (Value.int .i64 0)) ∧ Below w.heap.size w wr) (fun i _ => n - (intOf i).toNat)
  case atStart => exact ⟨0, Nat.zero_le _, rfl, by simpa [toList_madeCells_one, Value.cells] using hown1, hb1⟩
  case round =>
    obtain ⟨k, hk, rfl, hown, hbw⟩ := hrel
    by_cases hlt : k < n
    · obtain ⟨b, off, rfl, hb, hcell0⟩ := h.at_ hlt
      have hcell : wr.cell? ⟨b, off + k, none⟩ = some (.int .i64 (gI xs k)) := (hbw.cell (p := ⟨b, off + k, none⟩) hb).trans hcell0
      have hold : wr.cell? ⟨w.heap.size, k, none⟩ = some (.int .i64 0) := (hown.cellAt k (by omega)).trans (copy_old xs n k HL.out hlt)
      have hfz := hown.frozenAt k
      have hst := Lib.hid (hown.stored k (.int .i64 (gI xs k)))
      have HB := Lib.hid hbw
      clear hown hbw hcell0 hown1 hb1 hg1
      go_wp2
      go_roundw
      case rel => exact ⟨k + 1, by omega, by go_num, by rw [← copy_step xs n k HL.out hlt]; exact hst.out.1, HB.out.setCell (Nat.le_refl _) _⟩
      case measure => simp [intOf]; omega
    · have HO := Lib.hid hown
      clear hown hown1
      go_wp2
      go_ret
      exact ⟨rfl, ⟨HL.out, by
        have e : k = n := by omega
        subst e
        have := HO.out
        rwa [Nat.sub_self, List.replicate_zero, List.append_nil, List.take_of_length_le (by rw [HL.out]; exact Nat.le_refl _)] at this⟩, hbw⟩
def eqB (xs ys : List Int) : Bool := decide (xs = ys)
theorem eq_of_gI {xs ys : List Int} (hl : xs.length = ys.length) (h : ∀ k, k < xs.length → gI xs k = gI ys k) : xs = ys := by
  apply List.ext_getElem hl
  intro k h1 h2
  have := h k h1
  rwa [gI_get h1, gI_get h2] at this

set_option maxHeartbeats 400000 in
theorem eqIntS_c (A A' : Option Addr) (n c n' c' : Nat) (xs ys : List Int) (w : World) (h : Rd w w.heap.size A n c xs) (h' : Rd w w.heap.size A' n' c' ys) :
    Calls Try.prog 18 #[.slice A n c, .slice A' n' c'] w fun e w' => e = .returned (.bool (eqB xs ys)) ∧ ∃ m, w' = w.drewN m := by
  have HL := Lib.hid h.len
  have HL' := Lib.hid h'.len
  have hm := h.max
  have hc := h.cap
  have hm' := h'.max
  have hc' := h'.cap
  unfold maxLen at hm hm'
  by_cases hne : n = n'
  · subst hne
    go_enter Try.func18, Try.ntmps18
    go_wp2
    go_loopw [5] (fun i wr => ∃ k : Nat, k ≤ n ∧ i = .int .i64 k ∧ (∀ j, j < k → gI xs j = gI ys j) ∧ ∃ m, wr = w.drewN m) (fun i _ => n - (intOf i).toNat)
    case atStart => exact ⟨0, Nat.zero_le _, rfl, fun j hj => absurd hj (Nat.not_lt_zero _), 0, rfl⟩
    case round =>
      obtain ⟨k, hk, rfl, hall, m, rfl⟩ := hrel
      have HA := Lib.hid hall
      clear hall
      by_cases hlt : k < n
      · obtain ⟨b, off, rfl, hb, hcell⟩ := h.at_ hlt
        obtain ⟨b', off', rfl, hb', hcell'⟩ := h'.at_ hlt
        by_cases he : gI xs k = gI ys k
        · have hq : (gI xs k != gI ys k) = false := by simp [he]
          have HE := Lib.hid he
          clear he
          go_wp2
          go_quiet (fail)
          go_wp2
          go_roundw
          case rel => exact ⟨k + 1, by omega, by go_num, fun j hj => by
            rcases Nat.lt_or_ge j k with h' | h'
            · exact HA.out j h'
            · obtain rfl : j = k := by omega
              exact HE.out, _, rfl⟩
          case measure => simp [intOf]; omega
        · have hq : (gI xs k != gI ys k) = true := by simp [he]
          have HE := Lib.hid he
          clear he
          go_wp2
          go_quiet (fail)
          go_wp2
          go_ret
          exact ⟨boolEnd (decide_eq_false (fun e => HE.out (by rw [e]))).symm, _, World.drewN_drewN ..⟩
      · go_wp2
        go_ret
        exact ⟨boolEnd (decide_eq_true (eq_of_gI (by rw [HL.out, HL'.out]) (fun j hj => HA.out j (by have := HL.out; omega)))).symm, _, rfl⟩
  · have hq : ((n : Int) != (n' : Int)) = true := by simp; omega
    go_enter Try.func18, Try.ntmps18
    go_wp2
    go_ret
    exact ⟨boolEnd (decide_eq_false (fun e => hne (by rw [← HL.out, ← HL'.out, e]))).symm, 0, rfl⟩
end Go.Proofs.Ytlbiioncpeondaa
