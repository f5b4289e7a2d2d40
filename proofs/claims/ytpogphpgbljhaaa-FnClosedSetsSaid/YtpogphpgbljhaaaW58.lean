/- Walks: the law FnClosedSets. -/
import Derived.Test.YtpogphpgbljhaaaW57
import Derived.Test.YtpogphpgbljhaaaW56
namespace Go.Proofs.Ytpogphpgbljhaaa
set_option linter.unusedVariables false
open Go.RowKit

set_option maxRecDepth 100000 in
set_option maxHeartbeats 1600000 in
theorem walk_FnClosedSets (A : Option Addr) (n c : Nat) (bs : List Nat) (w : World) (h : RdB w w.heap.size A n c bs) :
    Calls Try.prog 6 #[.slice A n c] w fun e w' => e = .returned (.bool true) ∧ Below w.heap.size w w' := by
  have hcc := h.cap
  have hmm := h.max
  unfold maxLen at hmm
  by_cases hbig : 1048576 < n
  · go_enter Try.func6, Try.ntmps6
    go_wp2_with fail
    go_ret
    exact ⟨rfl, Below.refl _ _⟩
  go_enter Try.func6, Try.ntmps6
  go_wp2_with fail
  refine (drawClosedSets_c A n c bs _ h).mono ?_
  rintro e w1 ⟨A', n', c', xs, rfl, hO, hD, hb⟩
  have hrd := hO.rd
  have hl := hO.len
  have hself := eqB_self (closedSetsI xs)
  clear hO hD
  go_wp2_with fail
  refine (closedSets_r _ _ _ _ _ hrd).mono ?_
  rintro e w2 ⟨A2, n2, c2, rfl, hO2, hb2⟩
  have hrd2 := hrd.up hb2
  have hB2 := bt hb hb2
  clear hrd hb hb2
  go_wp2_with fail
  refine (sClosedSets_r _ _ _ _ _ hrd2).mono ?_
  rintro e w3 ⟨A3, n3, c3, rfl, hO3, hb3⟩
  have hr3 := hO2.rd.up hb3
  have hr4 := hO3.rd
  have hrd3 := hrd2.up hb3
  have hB3 := bt hB2 hb3
  have hl2 := hO2.len
  clear hrd2 hB2 hb3 hO2 hO3
  go_wp2_with fail
  refine (sameInts_c _ _ _ _ _ _ _ _ _ hr3 hr4).mono ?_
  rintro e w4 ⟨rfl, m, rfl⟩
  rw [hself]
  have hr5 := hr3.dn m
  have hrd5 := hrd3.dn m
  have hB5 := bd hB3 m
  generalize w3.drewN m = w5 at *
  clear hr3 hr4 hrd3 hB3 hself
  rcases hm : mapOk xs with _ | _
  · rw [closedSetsI_no hm] at hl2
    obtain rfl : n2 = 0 := by simpa using hl2.symm
    clear hl2
    go_wp2_with (first
      | (go_at_call 24; refine (mapOk_c _ _ _ _ _ hrd5).mono ?_; rintro e w' ⟨rfl, rfl⟩; rw [hm])
      | (go_at_call 16; refine (alive_c _).mono ?_; rintro e w7 ⟨rfl, hb7⟩))
    go_ret
    exact ⟨rfl, bt hB5 hb7⟩
  · obtain ⟨f, rfl, hf⟩ := mapOk_ex hm
    obtain rfl : n' = f.length := by rw [← hl, ints_len]
    have h7 := hf.le7
    have h2 := two_le h7
    rw [closedSetsI_ok hf] at hl2 hr5
    rw [ints_len] at hl2
    have hpos := clsN_pos hf
    have hln := clsN_len f
    have hfst := clsN_first hf
    have hlst := clsN_last hf
    have hlo := loops_lt hf
    have HA := Lib.hid (clsN_asc f)
    have HX : Hid (∀ k, k < (clsN f).length → nx (clsN f) k < 2 ^ f.length ∧ closedN f (nx (clsN f) k) = true) := fun k hk => clsN_nx hk
    have HO : Hid (∀ x y, x < 2 ^ f.length → y < 2 ^ f.length → closedN f x = true → closedN f y = true → hasI (ints (clsN f)) ((x ||| y : Nat) : Int) = true) := fun x y hx hy cx cy => clsN_has (Nat.or_lt_two_pow hx hy) (closed_or cx cy)
    have HN : Hid (∀ x y, x < 2 ^ f.length → y < 2 ^ f.length → closedN f x = true → closedN f y = true → hasI (ints (clsN f)) ((x &&& y : Nat) : Int) = true) := fun x y hx hy cx cy => clsN_has (Nat.and_lt_two_pow _ hy) (closed_and cx cy)
    obtain ⟨L, hL⟩ : ∃ L, L = clsN f := ⟨_, rfl⟩
    rw [← hL] at hl2 hr5 hpos hln hfst hlst hlo HA HX HO HN
    obtain rfl : n2 = L.length := hl2.symm
    have hcp := hr5.cap
    have hmx := hr5.max
    unfold maxLen at hmx
    have hne : ((L.length : Int) == 0) = false := by rw [beq_eq_false_iff_ne]; omega
    have HL := Lib.hid hfst
    have HLL := Lib.hid hlst
    clear hl hl2 hL hfst hlst hm
    go_wp2_with fail
    go_loopw [5] (fun i wr => ∃ k q : Nat, k ≤ L.length ∧ i = .int .i64 k ∧ wr = w5.drewN q) (fun i _ => L.length - (intOf i).toNat)
    case atStart => exact ⟨0, 0, Nat.zero_le _, rfl, rfl⟩
    case round =>
      obtain ⟨k, q, hk, rfl, rfl⟩ := hrel
      have hstop : (k < L.length ∧ k < 20) ∨ ¬ (k < L.length ∧ k < 20) := by omega
      rcases hstop with ⟨hlt, h20⟩ | hno
      · have hd1 : decide ((k : Int) < (L.length : Int)) = true := decide_eq_true (by omega)
        have hd2 : decide ((k : Int) < 20) = true := decide_eq_true (by omega)
        obtain ⟨b, off, rfl, hbb, hcell⟩ := hr5.at_ hlt
        rw [gI_ints] at hcell
        obtain ⟨hx1, hx2⟩ := HX.out k hlt
        obtain ⟨x, hxe⟩ : ∃ x, x = nx L k := ⟨_, rfl⟩
        rw [← hxe] at hcell hx1 hx2
        clear hxe hne
        go_wp2_with fail
        go_loopw [6] (fun i wr => ∃ j p : Nat, j ≤ k ∧ i = .int .i64 j ∧ wr = w5.drewN p) (fun i _ => k - (intOf i).toNat)
        case atStart => exact ⟨0, q, Nat.zero_le _, rfl, rfl⟩
        case round =>
          obtain ⟨j, p, hj, rfl, rfl⟩ := hrel
          by_cases hjk : j < k
          · obtain ⟨b', off', heq, _, hcell2⟩ := hr5.at_ (k := j) (by omega)
            cases heq
            rw [gI_ints] at hcell2
            obtain ⟨hy1, hy2⟩ := HX.out j (by omega)
            have ho := HO.out x (nx L j) hx1 hy1 hx2 hy2
            have hn := HN.out x (nx L j) hx1 hy1 hx2 hy2
            generalize nx L j = y at *
            have hb1 : bits .or .i64 (x : Int) (y : Int) = ((x ||| y : Nat) : Int) := bits_or _ _ (by omega) (by omega)
            have hb2 : bits .and .i64 (x : Int) (y : Int) = ((x &&& y : Nat) : Int) := bits_and _ _ (by omega) (by omega)
            have hr6 := hr5.dn p
            obtain ⟨W, hW⟩ : ∃ W, W = w5.drewN p := ⟨_, rfl⟩
            rw [← hW] at hr6 ⊢
            have hcw1 : W.cell? ⟨b, off + k, none⟩ = some (.int .i64 (x : Int)) := by rw [hW]; exact hcell
            have hcw2 : W.cell? ⟨b, off + j, none⟩ = some (.int .i64 (y : Int)) := by rw [hW]; exact hcell2
            have K1 : ∀ n, Calls Try.prog 25 #[.slice (some ⟨b, off, none⟩) L.length c2, .int .i64 ((x ||| y : Nat) : Int)] (W.drewN n) fun e w' => e = .returned (.bool true) ∧ ∃ m, w' = W.drewN m := fun n => by
              have := qS (hasInt_c _ _ _ _ ((x ||| y : Nat) : Int) _ (hr6.dn n))
              rwa [ho] at this
            have K2 : ∀ n, Calls Try.prog 25 #[.slice (some ⟨b, off, none⟩) L.length c2, .int .i64 ((x &&& y : Nat) : Int)] (W.drewN n) fun e w' => e = .returned (.bool true) ∧ ∃ m, w' = W.drewN m := fun n => by
              have := qS (hasInt_c _ _ _ _ ((x &&& y : Nat) : Int) _ (hr6.dn n))
              rwa [hn] at this
            generalize x ||| y = o at *
            generalize x &&& y = a at *
            have HW := Lib.hid hW
            have hk0 : (0 : Int) ≤ (k : Int) := by omega
            have hk1 : (k : Int) < (L.length : Int) := by omega
            have hj0 : (0 : Int) ≤ (j : Int) := by omega
            have hj1 : (j : Int) < (L.length : Int) := by omega
            have hdj : decide ((j : Int) < (k : Int)) = true := decide_eq_true (by omega)
            clear hW ho hn hcell2 hr6 hy2
            go_wp2_with fail
            go_quiet ((first
              | (go_at_call_of 25 (Value.int IntKind.i64 (o : Int)); with_reducible exact K1 _)
              | (go_at_call_of 25 (Value.int IntKind.i64 (a : Int)); with_reducible exact K2 _)))
            go_wp2_with fail
            go_roundw
            case rel => exact ⟨j + 1, _, by omega, by go_num, by rw [HW.out]; exact World.drewN_drewN ..⟩
            case measure => simp [intOf]; omega
          · obtain rfl : j = k := by omega
            have hdj : decide ((j : Int) < (j : Int)) = false := decide_eq_false (by omega)
            go_wp2_with fail
            go_roundw
            case rel => exact ⟨j + 1, _, by omega, by go_num, by first | rfl | exact World.drewN_drewN ..⟩
            case measure => simp [intOf]; omega
      · have hcase : (k < L.length ∧ 20 ≤ k) ∨ k = L.length := by omega
        have hr6 := (hr5.dn q).dn 1
        have hrdW := hrd5.dn q
        have hBW := bd hB5 q
        obtain ⟨t, ht⟩ : ∃ t, t + 1 = L.length := ⟨L.length - 1, by omega⟩
        obtain ⟨b, off, rfl, hbb, hcell0⟩ := hr6.at_ hpos
        obtain ⟨b', off', heq, _, hcell1⟩ := hr6.at_ (k := t) (by omega)
        cases heq
        rw [gI_ints, HL.out, Nat.add_zero] at hcell0
        have hlst : nx L t = 2 ^ f.length - 1 := by have := HLL.out; rwa [show L.length - 1 = t by omega] at this
        obtain ⟨D, hD⟩ : ∃ D, D = 2 ^ f.length := ⟨_, rfl⟩
        have hpw : (2 : Int) ^ f.length = (D : Int) := by rw [castPow, hD]
        rw [← hD] at hlst h2
        rw [gI_ints, hlst, show ((D - 1 : Nat) : Int) = (D : Int) - 1 by omega] at hcell1
        have hw1 : IntKind.i64.wrap ((D : Int) - 1) = (D : Int) - 1 := IntWalk.i64_in _ (by omega)
        have hwD : IntKind.i64.wrap (D : Int) = (D : Int) := IntWalk.i64_in _ (by omega)
        have hw2 : IntKind.i64.wrap ((L.length : Int) - 1) = (t : Int) := by rw [show (L.length : Int) - 1 = (t : Int) by omega]; exact IntWalk.i64_in _ (by omega)
        have ht0 : (0 : Int) ≤ (t : Int) := by omega
        have ht1 : (t : Int) < (L.length : Int) := by omega
        have hl0 : (0 : Int) < (L.length : Int) := by omega
        have hqd : ((D : Int) - 1 == (D : Int) - 1) = true := by simp
        have hi1 : (1 : Int) ≤ (D : Int) := by omega
        have hi2 : (D : Int) ≤ 128 := by omega
        have hg1 : decide ((loopsN f).length < L.length) = true := decide_eq_true (by omega)
        have hg2 : decide (((loopsN f).length : Int) < (L.length : Int)) = true := decide_eq_true (by omega)
        have hli := loopsI_ok hf
        have hc0 : ((w5.drewN q).drewN 1).cell? ⟨b, off, none⟩ = some (.int .i64 0) := hcell0
        have hc1 : ((w5.drewN q).drewN 1).cell? ⟨b, off + t, none⟩ = some (.int .i64 ((D : Int) - 1)) := hcell1
        clear hno hlst ht hD hcell0 hcell1 hne
        rcases hcase with ⟨h1, h20⟩ | rfl
        · have hd1 : decide ((k : Int) < (L.length : Int)) = true := decide_eq_true (by omega)
          have hd2 : decide ((k : Int) < 20) = false := decide_eq_false (by omega)
          clear hr5 hrd5 hB5
          go_wp2_with fail
          generalize w5.drewN q = W at *
          go_region_held3 (fun w' => w'.cell? ⟨b, off, none⟩ = some (.int .i64 0) ∧ w'.cell? ⟨b, off + t, none⟩ = some (.int .i64 ((D : Int) - 1))) (first | exact ⟨hc0, hc1⟩ | exact ⟨hc2, hc3⟩ | exact ⟨hc4, hc5⟩) (first
            | (go_at_call 26; refine (ascend_c _ _ _ _ _ hr6 HA.out).mono ?_; rintro e w7 ⟨rfl, m7, rfl⟩; have hrd7 := hrdW.dn (1 + m7); have hB7 := bd hBW (1 + m7); have hc2 := hc0; have hc3 := hc1; change World.cell? (World.drewN W (1 + m7)) _ = _ at hc2; change World.cell? (World.drewN W (1 + m7)) _ = _ at hc3)
            | (go_at_call 27; refine (loopsOf_c _ _ _ _ _ hrd7).mono ?_; rintro e w8 ⟨v8, rfl, hO8, hb8⟩; rw [hli] at hO8; obtain ⟨A8, c8, rfl, hr8⟩ := hO8.form; have hB8 := bt hB7 hb8; have hc4 := (hb8.cell (p := ⟨b, off, none⟩) hbb).trans hc2; have hc5 := (hb8.cell (p := ⟨b, off + t, none⟩) hbb).trans hc3; clear hO8 hr8))
          all_goals
            go_wp2
            go_ret
            exact ⟨rfl, hB8⟩
        · have hd1 : decide ((L.length : Int) < (L.length : Int)) = false := decide_eq_false (by omega)
          clear hr5 hrd5 hB5
          go_wp2_with fail
          generalize w5.drewN q = W at *
          go_region_held3 (fun w' => w'.cell? ⟨b, off, none⟩ = some (.int .i64 0) ∧ w'.cell? ⟨b, off + t, none⟩ = some (.int .i64 ((D : Int) - 1))) (first | exact ⟨hc0, hc1⟩ | exact ⟨hc2, hc3⟩ | exact ⟨hc4, hc5⟩) (first
            | (go_at_call 26; refine (ascend_c _ _ _ _ _ hr6 HA.out).mono ?_; rintro e w7 ⟨rfl, m7, rfl⟩; have hrd7 := hrdW.dn (1 + m7); have hB7 := bd hBW (1 + m7); have hc2 := hc0; have hc3 := hc1; change World.cell? (World.drewN W (1 + m7)) _ = _ at hc2; change World.cell? (World.drewN W (1 + m7)) _ = _ at hc3)
            | (go_at_call 27; refine (loopsOf_c _ _ _ _ _ hrd7).mono ?_; rintro e w8 ⟨v8, rfl, hO8, hb8⟩; rw [hli] at hO8; obtain ⟨A8, c8, rfl, hr8⟩ := hO8.form; have hB8 := bt hB7 hb8; have hc4 := (hb8.cell (p := ⟨b, off, none⟩) hbb).trans hc2; have hc5 := (hb8.cell (p := ⟨b, off + t, none⟩) hbb).trans hc3; clear hO8 hr8))
          all_goals
            go_wp2
            go_ret
            exact ⟨rfl, hB8⟩
end Go.Proofs.Ytpogphpgbljhaaa
