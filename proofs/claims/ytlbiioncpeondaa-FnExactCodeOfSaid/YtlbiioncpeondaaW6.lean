/- Walks: marks in a row and their reading (laws); ClosedAround, LimitOf (impl and spec). -/
import Derived.Test.YtlbiioncpeondaaW4
import Derived.Test.YtlbiioncpeondaaMem
import Derived.Test.YtlbiioncpeondaaM5
namespace Go.Proofs.Ytlbiioncpeondaa
set_option linter.unusedVariables false
open Go.RowKit

set_option maxHeartbeats 400000 in
theorem markIntS_c (A : Option Addr) (n c k0 lo hi : Nat) (xs : List Int) (w : World) (h : OwnIn w lo hi A n c xs) (hk0 : k0 + n ≤ 1000000000000) :
    Calls Try.prog 29 #[.slice A n c, .int .i64 k0] w fun e w' => e = .returned (.int .i64 ((k0 + n : Nat) : Int)) ∧ OwnIn w' lo hi A n c (marks k0 n) ∧ Chg lo hi w w' := by
  have HL := Lib.hid h.len
  go_enter Try.func29, Try.ntmps29
  go_wp2
  go_loopw [1, 5] (fun k i wr => ∃ j : Nat, j ≤ n ∧ i = .int .i64 j ∧ k = .int .i64 ((k0 : Int) + (j : Int)) ∧ OwnIn wr lo hi A n c (marked xs k0 j) ∧ Chg lo hi w wr) (fun k i _ => n - (intOf i).toNat)
  case atStart => exact ⟨0, Nat.zero_le _, rfl, by simp, by rw [marked_zero]; exact h, Chg.refl _ _ _⟩
  case round =>
    obtain ⟨j, hj, rfl, rfl, ho, hc⟩ := hrel
    by_cases hlt : j < n
    · obtain ⟨g, rfl⟩ := ho.some_ (by omega)
      have hcell := ho.cell hlt
      have hfz := ho.frozen j
      have hst := Lib.hid (ho.store j ((k0 : Int) + (j : Int)))
      have HC := Lib.hid hc
      clear ho hc
      go_wp2
      go_roundw
      case rel => exact ⟨j + 1, by omega, by go_num, by go_num, by
        have e := marked_succ xs k0 j (by rw [HL.out]; exact hlt)
        rw [← e]
        have := hst.out.1
        rwa [← Int.natCast_add] at this, HC.out.trans (by have := hst.out.2; exact this)⟩
      case measure => simp [intOf]; omega
    · obtain rfl : j = n := by omega
      have HO := Lib.hid ho
      clear ho
      go_wp2
      go_ret
      exact ⟨intEnd (by omega), by rw [← marked_all xs k0 j HL.out]; exact HO.out, hc⟩

set_option maxHeartbeats 400000 in
theorem heldIntS_c (A : Option Addr) (n c k0 : Nat) (w : World) (h : Rd w w.heap.size A n c (marks k0 n)) (hk0 : k0 + n ≤ 1000000000000) :
    Calls Try.prog 30 #[.slice A n c, .int .i64 k0] w fun e w' => e = .returned (.int .i64 ((k0 + n : Nat) : Int)) ∧ w = w' := by
  go_enter Try.func30, Try.ntmps30
  go_wp2
  go_loop [1, 5] (fun k i => ∃ j : Nat, j ≤ n ∧ i = .int .i64 j ∧ k = .int .i64 ((k0 : Int) + (j : Int))) (fun k i => n - (intOf i).toNat)
  case atStart => exact ⟨0, Nat.zero_le _, rfl, by simp⟩
  case round =>
    obtain ⟨j, hj, rfl, rfl⟩ := hrel
    by_cases hlt : j < n
    · obtain ⟨b, off, rfl, hb, hcell0⟩ := h.at_ hlt
      have hcell : w.cell? ⟨b, off + j, none⟩ = some (.int .i64 ((k0 : Int) + (j : Int))) := by rw [hcell0, gI_marks hlt, Int.natCast_add]
      clear hcell0
      go_wp2
      go_round
      case rel => exact ⟨j + 1, by omega, by go_num, by go_num⟩
      case measure => simp [intOf]; omega
    · obtain rfl : j = n := by omega
      go_wp2
      go_ret
      exact ⟨intEnd (by omega), rfl⟩

/-! ### ClosedAround -/
def aroundI (xs : List Int) (s : Int) : Int := if setOk xs s then (aroundN (toN xs) s.toNat : Int) else -1
theorem aroundI_ok {f : List Nat} {m : Nat} (hf : MapN f) (hm : m < 2 ^ f.length) : aroundI (ints f) (m : Int) = (aroundN f m : Int) := by
  unfold aroundI; rw [if_pos (setOk_ints hf hm), toN_ints]; simp
theorem aroundI_no {xs : List Int} {s : Int} (h : setOk xs s = false) : aroundI xs s = -1 := by unfold aroundI; rw [h]; simp
/-- what holds at each round's head -/
def Ar (f : List Nat) (m x : Nat) : Prop := x < 2 ^ f.length ∧ sub m x ∧ sub x (aroundN f m)
theorem Ar.next {f : List Nat} {m x : Nat} (hf : MapN f) (h : Ar f m x) : Ar f m (x ||| led f x) :=
  ⟨or_lt h.1 (led_lt hf x), sub_trans h.2.1 (sub_or_left _ _), or_sub h.2.2 (sub_trans (led_mono h.2.2) (aroundN_closed hf m))⟩
theorem Ar.done {f : List Nat} {m x : Nat} (hf : MapN f) (h : Ar f m x) (hc : closedN f x = true) : x = aroundN f m :=
  sub_antisymm h.2.2 (aroundN_least hf h.2.1 (closedN_iff.1 hc))
theorem closed_not {f : List Nat} {x : Nat} (hc : closedN f x = false) : ¬ sub (led f x) x := fun h => by
  have := closedN_iff.2 h
  unfold closedN at hc
  rw [hc] at this; cases this

/-! ### LimitOf -/
def limitI (xs : List Int) : Int := if mapOk xs then (limitN (toN xs) : Int) else -1
theorem limitI_ok {f : List Nat} (hf : MapN f) : limitI (ints f) = (limitN f : Int) := by unfold limitI; rw [if_pos (mapOk_ints hf), toN_ints]
theorem limitI_no {xs : List Int} (h : mapOk xs = false) : limitI xs = -1 := by unfold limitI; rw [h]; simp
def Li (f : List Nat) (x : Nat) : Prop := x < 2 ^ f.length ∧ sub (limitN f) x ∧ sub (led f x) x
theorem Li.start {f : List Nat} (hf : MapN f) : Li f (allN f) := ⟨allN_lt f, sub_all.2 (limitN_lt f), sub_all.2 (led_lt hf _)⟩
theorem Li.next {f : List Nat} {x : Nat} (hf : MapN f) (h : Li f x) : Li f (led f x) :=
  ⟨led_lt hf x, by have := led_mono (f := f) h.2.1; rwa [limitN_led hf] at this, led_mono h.2.2⟩
theorem Li.done {f : List Nat} {x : Nat} (hf : MapN f) (h : Li f x) (e : led f x = x) : x = limitN f := limitN_of hf h.1 e h.2.1

set_option maxHeartbeats 400000 in
theorem limitOf_c (A : Option Addr) (n c : Nat) (xs : List Int) (w : World) (h : Rd w w.heap.size A n c xs) :
    Calls Try.prog 20 #[.slice A n c] w fun e w' => e = .returned (.int .i64 (limitI xs)) ∧ w = w' := by
  rcases hs : mapOk xs with _ | _
  · have HS := Lib.hid (limitI_no hs)
    go_enter Try.func20, Try.ntmps20
    go_wp2_with (go_at_call 61; refine (mapOk_c _ _ _ _ _ h).mono ?_; rintro e w' ⟨rfl, rfl⟩)
    go_ret
    exact ⟨intEnd HS.out.symm, rfl⟩
  · obtain ⟨f, rfl, hf⟩ := mapOk_ex hs
    obtain rfl : f.length = n := by rw [← h.len, ints_len]
    have HS := Lib.hid (limitI_ok hf)
    have hac := allN_cast f
    have h7 := hf.le7
    go_enter Try.func20, Try.ntmps20
    go_wp2_with (first
      | (go_at_call 61; refine (mapOk_c _ _ _ _ _ h).mono ?_; rintro e w' ⟨rfl, rfl⟩)
      | (go_at_call 62; refine (everything_c _ _ _ _ h7).mono ?_; rintro e w' ⟨rfl, rfl⟩; rw [hac]))
    go_loop [3] (fun t => ∃ x : Nat, t = .int .i64 x ∧ Li f x) (fun t => (intOf t).toNat)
    case atStart => exact ⟨_, rfl, Li.start hf⟩
    case round =>
      obtain ⟨x, rfl, hx⟩ := hrel
      have hl := ledI_ok (m := x) hf hx.1
      by_cases he : led f x = x
      · have hq : ((led f x : Int) != (x : Int)) = false := by simp [he]
        have HX := Lib.hid (hx.done hf he)
        clear he
        go_wp2_with (go_at_call 24; refine (ledTo_c _ _ _ _ _ _ h).mono ?_; rintro e w' ⟨rfl, rfl⟩)
        go_ret
        exact ⟨intEnd (by rw [HS.out, ← HX.out]), rfl⟩
      · have hq : ((led f x : Int) != (x : Int)) = true := by simp; omega
        have HX := Lib.hid (hx.next hf)
        have HG := Lib.hid (fall_of_ne hx.2.2 he)
        clear he
        go_wp2_with (go_at_call 24; refine (ledTo_c _ _ _ _ _ _ h).mono ?_; rintro e w' ⟨rfl, rfl⟩)
        go_round
        case rel => exact ⟨_, rfl, HX.out⟩
        case measure => have := HG.out; simp [intOf]; omega

set_option maxHeartbeats 400000 in
theorem sLimitOf_c (A : Option Addr) (n c : Nat) (xs : List Int) (w : World) (h : Rd w w.heap.size A n c xs) :
    Calls Try.prog 21 #[.slice A n c] w fun e w' => e = .returned (.int .i64 (limitI xs)) ∧ w = w' := by
  rcases hs : mapOk xs with _ | _
  · have HS := Lib.hid (limitI_no hs)
    go_enter Try.func21, Try.ntmps21
    go_wp2_with (go_at_call 41; refine (sMapOk_c _ _ _ _ _ h).mono ?_; rintro e w' ⟨rfl, rfl⟩)
    go_ret
    exact ⟨intEnd HS.out.symm, rfl⟩
  · obtain ⟨f, rfl, hf⟩ := mapOk_ex hs
    obtain rfl : f.length = n := by rw [← h.len, ints_len]
    have HS := Lib.hid (limitI_ok hf)
    have hac : (2 : Int) ^ f.length - 1 = (allN f : Int) := by rw [castPow]; exact allN_cast f
    have h7 := hf.le7
    have h2 := two_le hf.le7
    have hi1 : (1 : Int) ≤ 2 ^ f.length := by rw [castPow]; omega
    have hi2 : (2 : Int) ^ f.length ≤ 128 := by rw [castPow]; omega
    clear h2
    go_enter Try.func21, Try.ntmps21
    go_wp2_with (go_at_call 41; refine (sMapOk_c _ _ _ _ _ h).mono ?_; rintro e w' ⟨rfl, rfl⟩)
    go_loop [3] (fun t => ∃ x : Nat, t = .int .i64 x ∧ Li f x) (fun t => (intOf t).toNat)
    case atStart => exact ⟨_, rfl, Li.start hf⟩
    case round =>
      obtain ⟨x, rfl, hx⟩ := hrel
      have hl := ledI_ok (m := x) hf hx.1
      by_cases he : led f x = x
      · have hq : ((led f x : Int) != (x : Int)) = false := by simp [he]
        have HX := Lib.hid (hx.done hf he)
        clear he
        go_wp2_with (go_at_call 63; refine (sLedTo_c _ _ _ _ _ _ h).mono ?_; rintro e w' ⟨rfl, rfl⟩)
        go_ret
        exact ⟨intEnd (by rw [HS.out, ← HX.out]), rfl⟩
      · have hq : ((led f x : Int) != (x : Int)) = true := by simp; omega
        have HX := Lib.hid (hx.next hf)
        have HG := Lib.hid (fall_of_ne hx.2.2 he)
        clear he
        go_wp2_with (go_at_call 63; refine (sLedTo_c _ _ _ _ _ _ h).mono ?_; rintro e w' ⟨rfl, rfl⟩)
        go_round
        case rel => exact ⟨_, rfl, HX.out⟩
        case measure => have := HG.out; simp [intOf]; omega
end Go.Proofs.Ytlbiioncpeondaa
