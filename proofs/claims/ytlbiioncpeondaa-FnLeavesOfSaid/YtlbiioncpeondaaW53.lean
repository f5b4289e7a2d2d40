/- Walks: the law FnLeavesOf. -/
import Derived.Test.YtlbiioncpeondaaW52
namespace Go.Proofs.Ytlbiioncpeondaa
set_option linter.unusedVariables false
open Go.RowKit

set_option maxRecDepth 100000 in
set_option maxHeartbeats 1600000 in
theorem walk_FnLeavesOf (A : Option Addr) (n c : Nat) (bs : List Nat) (w : World) (h : RdB w w.heap.size A n c bs) :
    Calls Try.prog 13 #[.slice A n c] w fun e w' => e = .returned (.bool true) ∧ Below w.heap.size w w' := by
  have hcc := h.cap
  have hmm := h.max
  unfold maxLen at hmm
  by_cases hbig : 1048576 < n
  · go_enter Try.func13, Try.ntmps13
    go_wp2_with fail
    go_ret
    exact ⟨rfl, Below.refl _ _⟩
  go_enter Try.func13, Try.ntmps13
  go_wp2_with fail
  refine (drawLeavesOf_c A n c bs _ h).mono ?_
  rintro e w1 ⟨A', n', c', xs, rfl, hO, hb⟩
  have hrd := hO.rd
  have hl := hO.len
  have hself := eqB_self (leavesI xs)
  clear hO
  go_wp2_with fail
  refine (leavesOf_r _ _ _ _ _ hrd).mono ?_
  rintro e w2 ⟨A2, n2, c2, rfl, hO2, hb2⟩
  have hrd2 := hrd.up hb2
  have hB2 := bt hb hb2
  clear hrd hb hb2
  go_wp2_with fail
  refine (sLeavesOf_r _ _ _ _ _ hrd2).mono ?_
  rintro e w3 ⟨A3, n3, c3, rfl, hO3, hb3⟩
  have hr3 := hO2.rd.up hb3
  have hr4 := hO3.rd
  have hrd3 := hrd2.up hb3
  have hB3 := bt hB2 hb3
  have hl2 := hO2.len
  clear hrd2 hB2 hb3 hO2 hO3
  go_wp2_with fail
  refine (sameInts_c _ _ _ _ _ _ _ _ _ hr3 hr4).mono ?_
  rintro e w4 ⟨rfl, m, rfl⟩
  rw [hself]
  have hr5 := hr3.dn m
  have hrd5 := hrd3.dn m
  have hB5 := bd hB3 m
  generalize w3.drewN m = w5 at *
  clear hr3 hr4 hrd3 hB3 hself
  rcases hs : treeOkI xs with _ | _
  · rw [leavesI_no hs] at hl2
    obtain rfl : n2 = 0 := by simpa using hl2.symm
    clear hl2
    go_wp2_with fail
    refine (sTreeOk_c _ _ _ _ _ hrd5).mono ?_
    rintro e w6 ⟨rfl, hb6⟩
    rw [hs]
    have hB6 := bt hB5 hb6
    go_wp2_with (go_at_call 22; refine (alive_c _).mono ?_; rintro e w7 ⟨rfl, hb7⟩)
    go_ret
    exact ⟨rfl, bt hB6 hb7⟩
  · obtain ⟨f, rfl, hf, h1, h2⟩ := tree_ex hs
    obtain rfl : n' = f.length := by rw [← hl, ints_len]
    have hT := treeN_of hf h1 h2
    have h7 := hf.le7
    have hlv : leavesI (ints f) = ints (parts (fun j => !f.contains j) f.length) := by rw [leavesI_ok hs, ints_len, lvX_parts hf]
    have him := imageI_ok hf
    rw [hlv, ints_len] at hl2
    rw [hlv] at hr5
    have hboth := parts_both (fun j => f.contains j) f.length
    have hlf := leaf_ex hT
    have HA := Lib.hid (parts_asc (fun j => !f.contains j) f.length)
    have HH1 : Hid (∀ k, k < f.length → hasI (ints (parts (fun j => !f.contains j) f.length)) (k : Int) = !f.contains k) := fun k hk => by rw [hasI_ints, parts_has _ hk]
    have HH2 : Hid (∀ k, k < f.length → hasI (ints (imgN f)) (k : Int) = f.contains k) := fun k hk => by rw [hasI_ints, imgN, parts_has _ hk]
    have hil : (imgN f).length = (parts (fun j => f.contains j) f.length).length := rfl
    rw [← hil] at hboth
    obtain ⟨L, hL⟩ : ∃ L, L = parts (fun j => !f.contains j) f.length := ⟨_, rfl⟩
    rw [← hL] at hr5 hl2 hboth hlf HA HH1
    obtain ⟨I, hI⟩ : ∃ I, I = imgN f := ⟨_, rfl⟩
    rw [← hI] at him hboth HH2
    have hn2 : n2 ≤ f.length := by omega
    clear hL hI hil hlv h1 h2 hl
    go_wp2_with fail
    refine (sTreeOk_c _ _ _ _ _ hrd5).mono ?_
    rintro e w6 ⟨rfl, hb6⟩
    rw [hs]
    have hr6 := hr5.up hb6
    have hrd6 := hrd5.up hb6
    have hB6 := bt hB5 hb6
    clear hr5 hrd5 hB5 hb6 hs
    go_wp2_with fail
    refine (imageOf_c _ _ _ _ _ hrd6).mono ?_
    rintro e w7 ⟨A7, n7, c7, rfl, hO7, hb7⟩
    rw [him] at hO7
    have hl7 := hO7.len
    rw [ints_len] at hl7
    have hr7 := hr6.up hb7
    have hi7 := hO7.rd
    have hB7 := bt hB6 hb7
    have hsum : (n2 : Int) + (n7 : Int) = (f.length : Int) := by omega
    have hlf2 : (decide ((f.length : Int) < 2) || decide (0 < n2)) = true := by
      by_cases h2 : f.length < 2
      · rw [decide_eq_true (by omega : (f.length : Int) < 2)]; rfl
      · have := hlf (by omega)
        rw [decide_eq_true (by omega : 0 < n2), Bool.or_true]
    have hn2p : (n2 : Int) ≤ 7 := by omega
    have hn7p : (n7 : Int) ≤ 7 := by omega
    have HS := Lib.hid hsum
    have HLF := Lib.hid hlf2
    clear hr6 hrd6 hB6 hb7 hO7 hl7 hl2 him hboth hlf hsum hlf2
    go_wp2_with fail
    go_loopw [6] (fun i wr => ∃ k : Nat, k ≤ f.length ∧ i = .int .i64 k ∧ wr = w7) (fun i _ => f.length - (intOf i).toNat)
    case atStart => exact ⟨0, Nat.zero_le _, rfl, rfl⟩
    case round =>
      obtain ⟨k, hk, rfl, rfl⟩ := hrel
      by_cases hlt : k < f.length
      · have h1 := HH1.out k hlt
        have h2 := HH2.out k hlt
        have hq : ((!f.contains k) == f.contains k) = false := by cases f.contains k <;> rfl
        generalize f.contains k = b at *
        go_wp2_with fail
        refine (hasInt_c _ _ _ _ _ _ hr7).mono ?_
        rintro e w' ⟨rfl, rfl⟩
        rw [h1]
        go_wp2_with fail
        refine (hasInt_c _ _ _ _ _ _ hi7).mono ?_
        rintro e w' ⟨rfl, rfl⟩
        rw [h2]
        go_wp2_with fail
        go_roundw
        case rel => exact ⟨k + 1, by omega, by go_num, by first | rfl | trivial⟩
        case measure => simp [intOf]; omega
      · obtain rfl : k = f.length := by omega
        have hq : ((n2 : Int) + (n7 : Int) == (f.length : Int)) = true := by rw [beq_iff_eq]; exact HS.out
        have hw : IntKind.i64.wrap ((n2 : Int) + (n7 : Int)) = (n2 : Int) + (n7 : Int) := IntWalk.i64_in _ (by omega)
        go_wp2_with fail
        refine (ascend_c _ _ _ _ _ hr7 HA.out).mono ?_
        rintro e w8 ⟨rfl, m8, rfl⟩
        go_wp2_with fail
        all_goals
          go_ret
          exact ⟨by first | rfl | exact boolEnd HLF.out, bd hB7 m8⟩
end Go.Proofs.Ytlbiioncpeondaa
