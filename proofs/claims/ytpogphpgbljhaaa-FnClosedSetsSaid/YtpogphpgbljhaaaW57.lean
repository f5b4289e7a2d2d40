/- Walks: the laws FnClosedWithin, FnClosedAround, FnClosedSets. Printed by gen_w57.py. -/
import Derived.Test.YtpogphpgbljhaaaM17
import Derived.Test.YtpogphpgbljhaaaV4
import Derived.Test.YtpogphpgbljhaaaW55
import Derived.Test.YtpogphpgbljhaaaV2
import Derived.Test.YtpogphpgbljhaaaV7
namespace Go.Proofs.Ytpogphpgbljhaaa
set_option linter.unusedVariables false
open Go.RowKit

set_option maxHeartbeats 400000 in
theorem drawClosedWithin_c (A : Option Addr) (n c : Nat) (bs : List Nat) (w : World) (h : RdB w w.heap.size A n c bs) :
    Calls Try.prog 13 #[.slice A n c] w (SetOut w) := by
  go_enter Try.func13, Try.ntmps13
  go_wp2_with (go_at_call 34; refine (open_c A n c bs _ h).mono ?_; rintro e w1 ⟨rfl, hr, hb⟩)
  refine (set_c w.heap.size w.heap.size 0 12 _ hr (by omega) (by omega)).mono ?_
  rintro e w2 ⟨A', n', c', xs, s, rfl, hO, hD, hr2, hC⟩
  have HS := drawn_set hb hO hC
  go_wp2_with fail
  go_ret2
  exact ⟨A', n', c', xs, s, rfl, HS.1, hD, HS.2⟩
set_option maxHeartbeats 400000 in
theorem drawClosedAround_c (A : Option Addr) (n c : Nat) (bs : List Nat) (w : World) (h : RdB w w.heap.size A n c bs) :
    Calls Try.prog 18 #[.slice A n c] w (SetOut w) := by
  go_enter Try.func18, Try.ntmps18
  go_wp2_with (go_at_call 34; refine (open_c A n c bs _ h).mono ?_; rintro e w1 ⟨rfl, hr, hb⟩)
  refine (set_c w.heap.size w.heap.size 0 12 _ hr (by omega) (by omega)).mono ?_
  rintro e w2 ⟨A', n', c', xs, s, rfl, hO, hD, hr2, hC⟩
  have HS := drawn_set hb hO hC
  go_wp2_with fail
  go_ret2
  exact ⟨A', n', c', xs, s, rfl, HS.1, hD, HS.2⟩
set_option maxHeartbeats 400000 in
theorem drawClosedSets_c (A : Option Addr) (n c : Nat) (bs : List Nat) (w : World) (h : RdB w w.heap.size A n c bs) :
    Calls Try.prog 22 #[.slice A n c] w (MapOut w) := by
  go_enter Try.func22, Try.ntmps22
  go_wp2_with (go_at_call 34; refine (open_c A n c bs _ h).mono ?_; rintro e w1 ⟨rfl, hr, hb⟩)
  refine (map_c w.heap.size w.heap.size 0 7 9 _ hr (by omega) (by omega) (by omega) (by omega)).mono ?_
  rintro e w2 ⟨A', n', c', xs, rfl, hO, hD, hr2, hC⟩
  have HS := drawn_set hb hO hC
  go_wp2_with fail
  go_ret
  exact ⟨A', n', c', xs, rfl, HS.1, hD, HS.2⟩
set_option maxRecDepth 100000 in
set_option maxHeartbeats 1600000 in
theorem walk_FnClosedWithin (A : Option Addr) (n c : Nat) (bs : List Nat) (w : World) (h : RdB w w.heap.size A n c bs) :
    Calls Try.prog 4 #[.slice A n c] w fun e w' => e = .returned (.bool true) ∧ Below w.heap.size w w' := by
  have hcc := h.cap
  have hmm := h.max
  unfold maxLen at hmm
  by_cases hbig : 1048576 < n
  · go_enter Try.func4, Try.ntmps4
    go_wp2_with fail
    go_ret
    exact ⟨rfl, Below.refl _ _⟩
  go_enter Try.func4, Try.ntmps4
  go_wp2_with fail
  refine (drawClosedWithin_c A n c bs _ h).mono ?_
  rintro e w1 ⟨A', n', c', xs, s, rfl, hO, hD, hb⟩
  have hrd := hO.rd
  have hl := hO.len
  clear hO hD
  rcases hs : setOk xs s with _ | _
  · have hcf := withinI_no hs
    have hq : ((withinI xs s) != (withinI xs s)) = false := by simp
    go_wp2_with fail
    refine (closedWithin_c _ _ _ _ _ _ hrd).mono ?_
    rintro e w' ⟨rfl, rfl⟩
    go_wp2_with fail
    refine (sClosedWithin_c _ _ _ _ _ _ hrd).mono ?_
    rintro e w2 ⟨rfl, hb2⟩
    have hB2 := bt hb hb2
    rw [hcf]
    clear hq hcf
    have hq2 : ((-1 : Int) != (-1 : Int)) = false := by simp
    go_wp2_with (go_at_call 16; refine (alive_c _).mono ?_; rintro e w3 ⟨rfl, hb3⟩)
    go_ret
    exact ⟨rfl, bt hB2 hb3⟩
  · obtain ⟨f, m, rfl, rfl, hf, hm⟩ := setOk_ex hs
    obtain rfl : n' = f.length := by rw [← hl, ints_len]
    have h7 := hf.le7
    have h2 := (two_le h7).2
    have hci := withinI_ok hf hm
    have hWl := withinN_lt f m
    have hcs := closedSetsI_ok hf
    have hcw : closedN f (withinN f m) = true := closedN_iff.2 (withinN_closed hf m)
    have hsw := sub_and.1 (withinN_sub hf m)
    have HG : Hid (∀ x, x < 2 ^ f.length → closedN f x = true → x &&& m = x → x &&& withinN f m = x) := fun x h1 h2 h3 => sub_and.1 (withinN_greatest hf h1 (sub_and.2 h3) (closedN_iff.1 h2))
    have hcl := closedI_ok hf hWl
    rw [hcw] at hcl
    obtain ⟨W, hW⟩ : ∃ W, W = withinN f m := ⟨_, rfl⟩
    rw [← hW] at hci hWl hsw HG hcl
    have hbw : bits .and .i64 (W : Int) (m : Int) = ((W &&& m : Nat) : Int) := bits_and _ _ (by omega) (by omega)
    rw [hsw] at hbw
    have hq : ((W : Int) != (W : Int)) = false := by simp
    have hqe : ((W : Int) == (W : Int)) = true := by simp
    have hqm : ((m : Int) == (m : Int)) = true := by simp
    have hWn : ¬ ((W : Int) < 0) := by omega
    clear hl hW hcw hsw hs
    go_wp2_with fail
    refine (closedWithin_c _ _ _ _ _ _ hrd).mono ?_
    rintro e w' ⟨rfl, rfl⟩
    rw [hci]
    go_wp2_with fail
    refine (sClosedWithin_c _ _ _ _ _ _ hrd).mono ?_
    rintro e w2 ⟨rfl, hb2⟩
    have hB2 := bt hb hb2
    have hrd2 := hrd.up hb2
    rw [hci]
    clear hci hrd hb
    go_wp2_with fail
    refine (closedSets_c _ _ _ _ _ hrd2).mono ?_
    rintro e w3 ⟨v, rfl, hO3, hb3⟩
    rw [hcs] at hO3
    obtain ⟨A3, c3, rfl, hI3⟩ := hO3.slice_
    have hrd3 := hrd2.up hb3
    have hB3 := bt hB2 hb3
    have hr3 := hI3.rd
    rw [ints_len] at hr3 ⊢
    have hcp := hr3.cap
    have hmx := hr3.max
    unfold maxLen at hmx
    have HX : Hid (∀ k, k < (clsN f).length → nx (clsN f) k < 2 ^ f.length ∧ closedN f (nx (clsN f) k) = true) := fun k hk => clsN_nx hk
    obtain ⟨L, hL⟩ : ∃ L, L = clsN f := ⟨_, rfl⟩
    rw [← hL] at hr3 hcp HX ⊢
    clear hO3 hI3 hb3 hrd2 hB2 hcs hL
    go_wp2_with fail
    go_loopw [7] (fun i wr => ∃ k q : Nat, k ≤ L.length ∧ i = .int .i64 k ∧ wr = w3.drewN q) (fun i _ => L.length - (intOf i).toNat)
    case atStart => exact ⟨0, 0, Nat.zero_le _, rfl, rfl⟩
    case round =>
      obtain ⟨k, q, hk, rfl, rfl⟩ := hrel
      by_cases hlt : k < L.length
      · obtain ⟨b, off, rfl, hbb, hcell⟩ := hr3.at_ hlt
        rw [gI_ints] at hcell
        obtain ⟨hx1, hx2⟩ := HX.out k hlt
        have hg := HG.out (nx L k) hx1 hx2
        generalize nx L k = x at *
        have hb1 : bits .and .i64 (x : Int) (m : Int) = ((x &&& m : Nat) : Int) := bits_and _ _ (by omega) (by omega)
        have hb2 : bits .and .i64 (x : Int) (W : Int) = ((x &&& W : Nat) : Int) := bits_and _ _ (by omega) (by omega)
        have hk0 : (0 : Int) ≤ (k : Int) := by omega
        have hk1 : (k : Int) < (L.length : Int) := by omega
        by_cases he : x &&& m = x
        · have hg2 := hg he
          rw [he] at hb1
          rw [hg2] at hb2
          have hqx : ((x : Int) == (x : Int)) = true := by simp
          have hqn : ((x : Int) != (x : Int)) = false := by simp
          clear he hg hg2 hx2
          go_wp2_with fail
          go_quiet (fail)
          go_wp2_with fail
          go_roundw
          case rel => exact ⟨k + 1, _, by omega, by go_num, by first | rfl | exact World.drewN_drewN ..⟩
          case measure => simp [intOf]; omega
        · have hqx : (((x &&& m : Nat) : Int) == (x : Int)) = false := by rw [beq_eq_false_iff_ne]; omega
          clear he hg hx2
          generalize x &&& m = y at *
          go_wp2_with fail
          go_quiet (fail)
          go_wp2_with fail
          go_roundw
          case rel => exact ⟨k + 1, _, by omega, by go_num, by first | rfl | exact World.drewN_drewN ..⟩
          case measure => simp [intOf]; omega
      · obtain rfl : k = L.length := by omega
        have hr4 := hrd3.dn q
        have hB4 := bd hB3 q
        generalize w3.drewN q = w4 at *
        go_wp2_with (go_at_call 17; refine (closedOk_c _ _ _ _ _ _ hr4).mono ?_; rintro e w' ⟨rfl, rfl⟩; rw [hcl])
        go_ret
        exact ⟨rfl, hB4⟩
set_option maxRecDepth 100000 in
set_option maxHeartbeats 1600000 in
theorem walk_FnClosedAround (A : Option Addr) (n c : Nat) (bs : List Nat) (w : World) (h : RdB w w.heap.size A n c bs) :
    Calls Try.prog 5 #[.slice A n c] w fun e w' => e = .returned (.bool true) ∧ Below w.heap.size w w' := by
  have hcc := h.cap
  have hmm := h.max
  unfold maxLen at hmm
  by_cases hbig : 1048576 < n
  · go_enter Try.func5, Try.ntmps5
    go_wp2_with fail
    go_ret
    exact ⟨rfl, Below.refl _ _⟩
  go_enter Try.func5, Try.ntmps5
  go_wp2_with fail
  refine (drawClosedAround_c A n c bs _ h).mono ?_
  rintro e w1 ⟨A', n', c', xs, s, rfl, hO, hD, hb⟩
  have hrd := hO.rd
  have hl := hO.len
  clear hO hD
  rcases hs : setOk xs s with _ | _
  · have hcf := aroundI_no hs
    have hq : ((aroundI xs s) != (aroundI xs s)) = false := by simp
    go_wp2_with fail
    refine (closedAround_c _ _ _ _ _ _ hrd).mono ?_
    rintro e w' ⟨rfl, rfl⟩
    go_wp2_with fail
    refine (sClosedAround_c _ _ _ _ _ _ hrd).mono ?_
    rintro e w' ⟨rfl, rfl⟩
    have hB2 := hb
    rw [hcf]
    clear hq hcf
    have hq2 : ((-1 : Int) != (-1 : Int)) = false := by simp
    go_wp2_with (go_at_call 16; refine (alive_c _).mono ?_; rintro e w3 ⟨rfl, hb3⟩)
    go_ret
    exact ⟨rfl, bt hB2 hb3⟩
  · obtain ⟨f, m, rfl, rfl, hf, hm⟩ := setOk_ex hs
    obtain rfl : n' = f.length := by rw [← hl, ints_len]
    have h7 := hf.le7
    have h2 := (two_le h7).2
    have hci := aroundI_ok hf hm
    have hWl := aroundN_lt f m
    have hcs := closedSetsI_ok hf
    have hcw : closedN f (aroundN f m) = true := closedN_iff.2 (aroundN_closed hf m)
    have hsw : aroundN f m &&& m = m := by rw [Nat.and_comm]; exact sub_and.1 (aroundN_has hf hm)
    have HG : Hid (∀ x, x < 2 ^ f.length → closedN f x = true → x &&& m = m → x &&& aroundN f m = aroundN f m) := fun x h1 h2 h3 => by
      rw [Nat.and_comm] at h3 ⊢
      exact sub_and.1 (aroundN_least hf (sub_and.2 h3) (closedN_iff.1 h2))
    have h10 : (1 : Nat) < 2 ^ f.length := by have := two_lt (f := f) (k := 0) hf.pos; simpa using this
    have hc1 := aroundI_ok (m := 1) hf h10
    have hsn := seen_around hf hf.pos
    rw [show (2 : Nat) ^ 0 = 1 from rfl] at hsn
    have hcl := closedI_ok hf hWl
    rw [hcw] at hcl
    obtain ⟨W, hW⟩ : ∃ W, W = aroundN f m := ⟨_, rfl⟩
    rw [← hW] at hci hWl hsw HG hcl
    have hbw : bits .and .i64 (W : Int) (m : Int) = ((W &&& m : Nat) : Int) := bits_and _ _ (by omega) (by omega)
    rw [hsw] at hbw
    have hq : ((W : Int) != (W : Int)) = false := by simp
    have hqe : ((W : Int) == (W : Int)) = true := by simp
    have hqm : ((m : Int) == (m : Int)) = true := by simp
    have hWn : ¬ ((W : Int) < 0) := by omega
    clear hl hW hcw hsw hs
    go_wp2_with fail
    refine (closedAround_c _ _ _ _ _ _ hrd).mono ?_
    rintro e w' ⟨rfl, rfl⟩
    rw [hci]
    go_wp2_with fail
    refine (sClosedAround_c _ _ _ _ _ _ hrd).mono ?_
    rintro e w2 ⟨rfl, hw2⟩
    subst hw2
    have hB2 := hb
    have hrd2 := hrd
    rw [hci]
    clear hci hrd hb
    go_wp2_with fail
    refine (closedSets_c _ _ _ _ _ hrd2).mono ?_
    rintro e w3 ⟨v, rfl, hO3, hb3⟩
    rw [hcs] at hO3
    obtain ⟨A3, c3, rfl, hI3⟩ := hO3.slice_
    have hrd3 := hrd2.up hb3
    have hB3 := bt hB2 hb3
    have hr3 := hI3.rd
    rw [ints_len] at hr3 ⊢
    have hcp := hr3.cap
    have hmx := hr3.max
    unfold maxLen at hmx
    have HX : Hid (∀ k, k < (clsN f).length → nx (clsN f) k < 2 ^ f.length ∧ closedN f (nx (clsN f) k) = true) := fun k hk => clsN_nx hk
    obtain ⟨L, hL⟩ : ∃ L, L = clsN f := ⟨_, rfl⟩
    rw [← hL] at hr3 hcp HX ⊢
    clear hO3 hI3 hb3 hrd2 hB2 hcs hL
    go_wp2_with fail
    go_loopw [7] (fun i wr => ∃ k q : Nat, k ≤ L.length ∧ i = .int .i64 k ∧ wr = w3.drewN q) (fun i _ => L.length - (intOf i).toNat)
    case atStart => exact ⟨0, 0, Nat.zero_le _, rfl, rfl⟩
    case round =>
      obtain ⟨k, q, hk, rfl, rfl⟩ := hrel
      by_cases hlt : k < L.length
      · obtain ⟨b, off, rfl, hbb, hcell⟩ := hr3.at_ hlt
        rw [gI_ints] at hcell
        obtain ⟨hx1, hx2⟩ := HX.out k hlt
        have hg := HG.out (nx L k) hx1 hx2
        generalize nx L k = x at *
        have hb1 : bits .and .i64 (x : Int) (m : Int) = ((x &&& m : Nat) : Int) := bits_and _ _ (by omega) (by omega)
        have hb2 : bits .and .i64 (x : Int) (W : Int) = ((x &&& W : Nat) : Int) := bits_and _ _ (by omega) (by omega)
        have hk0 : (0 : Int) ≤ (k : Int) := by omega
        have hk1 : (k : Int) < (L.length : Int) := by omega
        by_cases he : x &&& m = m
        · have hg2 := hg he
          rw [he] at hb1
          rw [hg2] at hb2
          clear he hg hg2 hx2
          go_wp2_with fail
          go_roundw
          case rel => exact ⟨k + 1, _, by omega, by go_num, by first | rfl | exact World.drewN_drewN ..⟩
          case measure => simp [intOf]; omega
        · have hqx : (((x &&& m : Nat) : Int) == (m : Int)) = false := by rw [beq_eq_false_iff_ne]; omega
          clear he hg hx2
          generalize x &&& m = y at *
          go_wp2_with fail
          go_roundw
          case rel => exact ⟨k + 1, _, by omega, by go_num, by first | rfl | exact World.drewN_drewN ..⟩
          case measure => simp [intOf]; omega
      · obtain rfl : k = L.length := by omega
        have hr4 := hrd3.dn q
        have hB4 := bd hB3 q
        have hwi := wayI_ok hf hf.pos
        have hlw : (ints (way f 0)).length = wl f 0 := by rw [ints_len, way, orb_len]
        have hwl := wl_le hf hf.pos
        have HSA : Hid (∀ i, i < wl f 0 → seenK f 0 i + 2 ^ it f i 0 = seenK f 0 (i + 1)) := fun i hi => seenK_add hf hf.pos hi
        have HIL : Hid (∀ i, it f i 0 < f.length) := fun i => it_lt hf hf.pos i
        have HSL : Hid (∀ i, seenK f 0 i < 2 ^ f.length) := fun i => seenK_lt hf hf.pos i
        have hq1 : ((aroundN f 1 : Int) == (aroundN f 1 : Int)) = true := by simp
        generalize w3.drewN q = w4 at *
        clear hr3 hrd3 hB3 HX
        go_wp2_with fail
        refine (sWayFrom_c _ _ _ _ 0 _ hr4).mono ?_
        rintro e w5 ⟨v5, rfl, hO5, hb5⟩
        rw [show (0 : Int) = ((0 : Nat) : Int) from rfl, hwi] at hO5
        obtain ⟨A5, c5, rfl, hI5⟩ := hO5.slice_
        have hr5 := hI5.rd
        have hr6 := hr4.up hb5
        have hB5 := bt hB4 hb5
        rw [hlw] at hr5 ⊢
        have hcp5 := hr5.cap
        have hmx5 := hr5.max
        unfold maxLen at hmx5
        clear hO5 hI5 hr4 hB4 hb5
        go_wp2_with fail
        go_loopw [8, 10] (fun s i wr => ∃ k : Nat, k ≤ wl f 0 ∧ i = .int .i64 k ∧ s = .int .i64 ((seenK f 0 k : Nat) : Int) ∧ wr = w5) (fun s i _ => wl f 0 - (intOf i).toNat)
        case atStart => exact ⟨0, Nat.zero_le _, rfl, rfl, rfl⟩
        case round =>
          obtain ⟨k, hk, rfl, rfl, rfl⟩ := hrel
          by_cases hlt : k < wl f 0
          · obtain ⟨b, off, rfl, hbb, hcell⟩ := hr5.at_ hlt
            rw [gI_ints, nx_get (by rw [way, orb_len]; exact hlt)] at hcell
            simp only [way] at hcell
            rw [orb_get] at hcell
            have ha := HSA.out k hlt
            have hit := HIL.out k
            have hsl := HSL.out k
            have hsl2 := HSL.out (k + 1)
            generalize it f k 0 = t at *
            have ht2 := two_le (k := t) (by omega)
            have hi1 : (1 : Int) ≤ 2 ^ t := by rw [castPow]; omega
            have hi2 : (2 : Int) ^ t ≤ 128 := by rw [castPow]; omega
            have hsum : ((seenK f 0 k : Nat) : Int) + 2 ^ t = ((seenK f 0 (k + 1) : Nat) : Int) := by rw [castPow]; omega
            have HSM := Lib.hid hsum
            have hw1 : IntKind.i64.wrap (((seenK f 0 k : Nat) : Int) + 2 ^ t) = ((seenK f 0 k : Nat) : Int) + 2 ^ t := IntWalk.i64_in _ (by omega)
            clear ha hsum ht2
            go_wp2_with fail
            go_roundw
            case rel => exact ⟨k + 1, by omega, by go_num, by first | exact congrArg _ HSM.out | rfl, by first | rfl | trivial⟩
            case measure => simp [intOf]; omega
          · obtain rfl : k = wl f 0 := by omega
            rw [hsn]
            go_wp2_with (first
              | (go_at_call 17; refine (closedOk_c _ _ _ _ _ _ hr6).mono ?_; rintro e w' ⟨rfl, rfl⟩; rw [hcl])
              | (go_at_call 19; refine (closedAround_c _ _ _ _ _ _ hr6).mono ?_; rintro e w' ⟨rfl, rfl⟩; rw [show (1 : Int) = ((1 : Nat) : Int) from rfl, hc1]))
            go_ret
            exact ⟨rfl, hB5⟩
end Go.Proofs.Ytpogphpgbljhaaa
