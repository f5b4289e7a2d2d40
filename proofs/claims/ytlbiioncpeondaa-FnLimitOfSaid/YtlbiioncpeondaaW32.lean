/- Walks: the drawing and the law FnLimitOf (walk). -/
import Derived.Test.YtlbiioncpeondaaW31
import Derived.Test.YtlbiioncpeondaaW17
namespace Go.Proofs.Ytlbiioncpeondaa
set_option linter.unusedVariables false
open Go.RowKit

set_option maxHeartbeats 400000 in
theorem drawLimitOf_c (A : Option Addr) (n c : Nat) (bs : List Nat) (w : World) (h : RdB w w.heap.size A n c bs) :
    Calls Try.prog 19 #[.slice A n c] w (MapOut w) := by
  go_enter Try.func19, Try.ntmps19
  go_wp2_with (go_at_call 60; refine (open_c A n c bs _ h).mono ?_; rintro e w1 ⟨rfl, hr, hb⟩)
  refine (map_c w.heap.size w.heap.size 0 7 9 _ hr (by omega) (by omega) (by omega) (by omega)).mono ?_
  rintro e w2 ⟨A', n', c', xs, rfl, hO, hD, hr2, hC⟩
  have HS := drawn_set hb hO hC
  go_wp2_with fail
  go_ret
  exact ⟨A', n', c', xs, rfl, HS.1, hD, HS.2⟩
set_option maxRecDepth 100000 in
set_option maxHeartbeats 1600000 in
theorem walk_FnLimitOf (A : Option Addr) (n c : Nat) (bs : List Nat) (w : World) (h : RdB w w.heap.size A n c bs) :
    Calls Try.prog 4 #[.slice A n c] w fun e w' => e = .returned (.bool true) ∧ Below w.heap.size w w' := by
  have hcc := h.cap
  have hmm := h.max
  unfold maxLen at hmm
  by_cases hbig : 1048576 < n
  · go_enter Try.func4, Try.ntmps4
    go_wp2_with fail
    go_ret
    exact ⟨rfl, Below.refl _ _⟩
  go_enter Try.func4, Try.ntmps4
  go_wp2_with fail
  refine (drawLimitOf_c A n c bs _ h).mono ?_
  rintro e w1 ⟨A', n', c', xs, rfl, hO, hD, hb⟩
  have hrd := hO.rd
  have hl := hO.len
  rcases hs : mapOk xs with _ | _
  · have hcf := limitI_no hs
    go_wp2_with fail
    refine (limitOf_c _ _ _ _ _ hrd).mono ?_
    rintro e w' ⟨rfl, rfl⟩
    go_wp2_with fail
    refine (sLimitOf_c _ _ _ _ _ hrd).mono ?_
    rintro e w' ⟨rfl, rfl⟩
    go_wp2_with (go_at_call 22; refine (alive_c _).mono ?_; rintro e w2 ⟨rfl, hb2⟩)
    go_ret
    exact ⟨rfl, bt hb hb2⟩
  · obtain ⟨f, rfl, hf⟩ := mapOk_ex hs
    have h7 := hf.le7
    obtain rfl : n' = f.length := by rw [← hl, ints_len]
    have h2 := two_le h7
    have hgi := limitI_ok hf
    have hgl := limitN_lt f
    have hld : ledI (ints f) (limitN f : Int) = (limitN f : Int) := by rw [ledI_ok hf hgl, limitN_led hf]
    have hbit : ∀ j, j < f.length → (limitN f).testBit j = onL f j := fun j hj => by
      rw [Bool.eq_iff_iff, limitN_bit]; exact ⟨fun h => h.2, fun h => ⟨hj, h⟩⟩
    have HB := Lib.hid hbit
    have hg7 : limitN f < 128 := by omega
    clear hbit hgl
    generalize limitN f = G at *
    go_wp2_with fail
    refine (limitOf_c _ _ _ _ _ hrd).mono ?_
    rintro e w' ⟨rfl, rfl⟩
    go_wp2_with fail
    refine (sLimitOf_c _ _ _ _ _ hrd).mono ?_
    rintro e w' ⟨rfl, rfl⟩
    go_wp2_with fail
    go_loopw [5] (fun i wr => ∃ k : Nat, k ≤ f.length ∧ i = .int .i64 k ∧ Below w1.heap.size w1 wr) (fun i _ => f.length - (intOf i).toNat)
    case atStart => exact ⟨0, Nat.zero_le _, rfl, Below.refl _ _⟩
    case round =>
      obtain ⟨k, hk, rfl, hbw⟩ := hrel
      have hrd2 := hrd.up hbw
      have hrd3 := hrd2.dn 1
      by_cases hlt : k < f.length
      · have hod := odd_bit G k
        have hsr := shr_bit G k
        have htv := tailI_ok hf hlt
        rw [HB.out k hlt] at hod
        have hon : (tailI (ints f) (k : Int) == 0) = onL f k := by rw [htv, onL, Bool.eq_iff_iff, beq_iff_eq, beq_iff_eq]; omega
        clear htv
        rcases hq : onL f k with _ | _
        all_goals
          rw [hq] at hod hon
          go_wp2_with fail
          go_region_held3 (fun w' => Any w') (exact any_ _) (first
            | (go_at_call 23; refine (onLoop_c _ _ _ _ (k : Int) _ hrd3).mono ?_; rintro e w2 ⟨rfl, hb2⟩))
        all_goals
          go_wp2_with fail
          go_roundw
          case rel => exact ⟨k + 1, by omega, by go_num, bt (bd hbw 1) hb2⟩
          case measure => simp [intOf]; omega
      · go_wp2_with (go_at_call 24; refine (ledTo_c _ _ _ _ _ _ hrd2).mono ?_; rintro e w' ⟨rfl, rfl⟩)
        go_ret
        exact ⟨rfl, bt hb hbw⟩
end Go.Proofs.Ytlbiioncpeondaa
