/- Walks: the drawings of this round (spec), the laws FnSetOk, FnComesFrom, FnGardenOf, FnClosedOk (walks). -/
import Derived.Test.YtpbpkdkjjbhjoaaW18
import Derived.Test.YtpbpkdkjjbhjoaaW6
namespace Go.Proofs.Ytpbpkdkjjbhjoaa
set_option linter.unusedVariables false
open Go.RowKit

theorem drawn_set {w w1 w2 : World} {A : Option Addr} {n c : Nat} {xs : List Int} (hb : Below w.heap.size w w1) (hO : OwnIn w2 w1.heap.size w2.heap.size A n c xs) (hC : Chg w.heap.size (w.heap.size + 1) w1 w2) :
    OwnIn w2 w.heap.size w2.heap.size A n c xs ∧ Below w.heap.size w w2 :=
  ⟨hO.wide hb.size (Nat.le_refl _), hb.trans (hC.belowLo (Nat.le_refl _) hb.size)⟩
set_option maxHeartbeats 400000 in
theorem drawSetOk_c (A : Option Addr) (n c : Nat) (bs : List Nat) (w : World) (h : RdB w w.heap.size A n c bs) :
    Calls Try.prog 15 #[.slice A n c] w (SetOut w) := by
  go_enter Try.func15, Try.ntmps15
  go_wp2_with (go_at_call 60; refine (open_c A n c bs _ h).mono ?_; rintro e w1 ⟨rfl, hr, hb⟩)
  refine (set_c w.heap.size w.heap.size 0 6 _ hr (by omega) (by omega)).mono ?_
  rintro e w2 ⟨A', n', c', xs, s, rfl, hO, hD, hr2, hC⟩
  have HS := drawn_set hb hO hC
  go_wp2_with fail
  go_ret2
  exact ⟨A', n', c', xs, s, rfl, HS.1, hD, HS.2⟩
set_option maxHeartbeats 400000 in
theorem drawLedTo_c (A : Option Addr) (n c : Nat) (bs : List Nat) (w : World) (h : RdB w w.heap.size A n c bs) :
    Calls Try.prog 45 #[.slice A n c] w (SetOut w) := by
  go_enter Try.func45, Try.ntmps45
  go_wp2_with (go_at_call 60; refine (open_c A n c bs _ h).mono ?_; rintro e w1 ⟨rfl, hr, hb⟩)
  refine (set_c w.heap.size w.heap.size 0 12 _ hr (by omega) (by omega)).mono ?_
  rintro e w2 ⟨A', n', c', xs, s, rfl, hO, hD, hr2, hC⟩
  have HS := drawn_set hb hO hC
  go_wp2_with fail
  go_ret2
  exact ⟨A', n', c', xs, s, rfl, HS.1, hD, HS.2⟩
set_option maxHeartbeats 400000 in
theorem drawComesFrom_c (A : Option Addr) (n c : Nat) (bs : List Nat) (w : World) (h : RdB w w.heap.size A n c bs) :
    Calls Try.prog 41 #[.slice A n c] w (SetOut w) := by
  go_enter Try.func41, Try.ntmps41
  go_wp2_with (go_at_call 60; refine (open_c A n c bs _ h).mono ?_; rintro e w1 ⟨rfl, hr, hb⟩)
  refine (set_c w.heap.size w.heap.size 0 12 _ hr (by omega) (by omega)).mono ?_
  rintro e w2 ⟨A', n', c', xs, s, rfl, hO, hD, hr2, hC⟩
  have HS := drawn_set hb hO hC
  go_wp2_with fail
  go_ret2
  exact ⟨A', n', c', xs, s, rfl, HS.1, hD, HS.2⟩
set_option maxHeartbeats 400000 in
theorem drawGardenOf_c (A : Option Addr) (n c : Nat) (bs : List Nat) (w : World) (h : RdB w w.heap.size A n c bs) :
    Calls Try.prog 55 #[.slice A n c] w (MapOut w) := by
  go_enter Try.func55, Try.ntmps55
  go_wp2_with (go_at_call 60; refine (open_c A n c bs _ h).mono ?_; rintro e w1 ⟨rfl, hr, hb⟩)
  refine (map_c w.heap.size w.heap.size 0 7 9 _ hr (by omega) (by omega) (by omega) (by omega)).mono ?_
  rintro e w2 ⟨A', n', c', xs, rfl, hO, hD, hr2, hC⟩
  have HS := drawn_set hb hO hC
  go_wp2_with fail
  go_ret
  exact ⟨A', n', c', xs, rfl, HS.1, hD, HS.2⟩
set_option maxRecDepth 100000 in
set_option maxHeartbeats 800000 in
theorem drawClosedOk_c (A : Option Addr) (n c : Nat) (bs : List Nat) (w : World) (h : RdB w w.heap.size A n c bs) :
    Calls Try.prog 52 #[.slice A n c] w (SetOut w) := by
  go_enter Try.func52, Try.ntmps52
  go_wp2_with (go_at_call 60; refine (open_c A n c bs _ h).mono ?_; rintro e w1 ⟨rfl, hr, hb⟩)
  refine (set_c w.heap.size w.heap.size 0 12 _ hr (by omega) (by omega)).mono ?_
  rintro e w2 ⟨A', n', c', xs, s, rfl, hO, hD, hr2, hC⟩
  have HS := drawn_set hb hO hC
  have hgl := hr2.lt
  have hg1 := hr.lt
  have hrd := hO.rd
  rcases hs : setOk xs s with _ | _
  · go_wp2_with (go_at_call 17; refine (sSetOk_c _ _ _ _ _ _ hrd).mono ?_; rintro e w' ⟨rfl, rfl⟩)
    go_ret2
    exact ⟨A', n', c', xs, s, rfl, HS.1, hD, HS.2⟩
  · go_wp2_with fail
    refine (sSetOk_c _ _ _ _ _ _ hrd).mono ?_
    rintro e w' ⟨rfl, rfl⟩
    go_wp2_with fail
    refine (pickP_c w.heap.size w.heap.size 40 2 _ hr2 (by omega) (by omega) (by omega)).mono ?_
    rintro e w3 ⟨x, rfl, hx, hr3, hC3⟩
    have hO3 := (hO.chg hC3 (.inr (by omega))).wide (Nat.le_refl _) hC3.size
    have HS3 := drawn_set hb hO3 (hC.chg_ hC3 (.inr ⟨Nat.le_refl _, Nat.le_refl _⟩))
    have hrd3 := hO3.rd
    go_wp2_with (go_at_call 26; refine (sClosedAround_c _ _ _ _ _ _ hrd3).mono ?_; rintro e w' ⟨rfl, rfl⟩)
    all_goals
      go_ret2
      exact ⟨A', n', c', xs, _, rfl, HS3.1, hD, HS3.2⟩

/-! ### laws -/
set_option maxRecDepth 100000 in
set_option maxHeartbeats 800000 in
theorem walk_FnSetOk (A : Option Addr) (n c : Nat) (bs : List Nat) (w : World) (h : RdB w w.heap.size A n c bs) :
    Calls Try.prog 3 #[.slice A n c] w fun e w' => e = .returned (.bool true) ∧ Below w.heap.size w w' := by
  have hcc := h.cap
  have hmm := h.max
  unfold maxLen at hmm
  by_cases hbig : 1048576 < n
  · go_enter Try.func3, Try.ntmps3
    go_wp2_with fail
    go_ret
    exact ⟨rfl, Below.refl _ _⟩
  go_enter Try.func3, Try.ntmps3
  go_wp2_with fail
  refine (drawSetOk_c A n c bs _ h).mono ?_
  rintro e w1 ⟨A', n', c', xs, s, rfl, hO, hD, hb⟩
  have hrd := hO.rd
  have hl := hO.len
  rcases hm : mapOk xs with _ | _
  · have hs : setOk xs s = false := by simp [setOk, hm]
    go_wp2_with (first
      | (go_at_call 16; refine (setOk_c _ _ _ _ _ _ hrd).mono ?_; rintro e w' ⟨rfl, rfl⟩)
      | (go_at_call 17; refine (sSetOk_c _ _ _ _ _ _ hrd).mono ?_; rintro e w' ⟨rfl, rfl⟩)
      | (go_at_call 18; refine (sMapOk_c _ _ _ _ _ hrd).mono ?_; rintro e w' ⟨rfl, rfl⟩)
      | (go_at_call 19; refine (alive_c _).mono ?_; rintro e w2 ⟨rfl, hb2⟩))
    go_ret
    exact ⟨rfl, bt hb hb2⟩
  · obtain ⟨f, rfl, hf⟩ := mapOk_ex hm
    have h7 := hf.le7
    obtain rfl : n' = f.length := by rw [← hl, ints_len]
    have h2 := two_le h7
    have hpw : (2 : Int) ^ f.length = ((2 ^ f.length : Nat) : Int) := castPow _
    have hs0 : setOk (ints f) 0 = true := setOk_ints (m := 0) hf (by omega)
    have hsa : setOk (ints f) (((2 ^ f.length : Nat) : Int) - 1) = true := by
      have := setOk_ints (m := 2 ^ f.length - 1) hf (by omega)
      rwa [show ((2 ^ f.length - 1 : Nat) : Int) = ((2 ^ f.length : Nat) : Int) - 1 from by omega] at this
    have hsn : setOk (ints f) (-1) = false := by simp [setOk, inB]
    obtain ⟨D, hD2⟩ : ∃ D : Nat, D = 2 ^ f.length := ⟨_, rfl⟩
    rw [← hD2] at hpw hsa h2
    have hw1 : IntKind.i64.wrap ((D : Int) - 1) = (D : Int) - 1 := IntWalk.i64_in _ (by omega)
    have hD128 : D ≤ 128 := h2.2
    clear hD2 h2
    rcases hs : setOk (ints f) s with _ | _
    all_goals
      go_wp2_with (first
        | (go_at_call 16; refine (setOk_c _ _ _ _ _ _ hrd).mono ?_; rintro e w' ⟨rfl, rfl⟩)
        | (go_at_call 17; refine (sSetOk_c _ _ _ _ _ _ hrd).mono ?_; rintro e w' ⟨rfl, rfl⟩)
        | (go_at_call 18; refine (sMapOk_c _ _ _ _ _ hrd).mono ?_; rintro e w' ⟨rfl, rfl⟩))
      go_ret
      exact ⟨rfl, hb⟩
end Go.Proofs.Ytpbpkdkjjbhjoaa
