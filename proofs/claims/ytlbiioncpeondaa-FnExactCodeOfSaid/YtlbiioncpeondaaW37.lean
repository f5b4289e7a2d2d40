/- Walks: LoopsOf, TreeOk (spec). Printed by gen_w37.py. -/
import Derived.Test.YtlbiioncpeondaaW36
namespace Go.Proofs.Ytlbiioncpeondaa
set_option linter.unusedVariables false
open Go.RowKit

set_option maxRecDepth 100000 in
set_option maxHeartbeats 800000 in
theorem sLoopsOf_c (A : Option Addr) (n c : Nat) (xs : List Int) (w : World) (h : Rd w w.heap.size A n c xs) :
    Calls Try.prog 57 #[.slice A n c] w (Rows (loopsI xs) w) := by
  have hB0 : Below w.heap.size w (w.alloc (Obj.cells #[] 22)) := (Below.refl _ _).alloc (Nat.le_refl _) _
  have hO0 := OwnRR.made w w.heap.size (Nat.le_refl _)
  have h0 := h.up hB0
  have hcp := h.cap
  have hmx := h.max
  unfold maxLen at hmx
  rcases hs : mapOk xs with _ | _
  · have HW := Lib.hid (loopsI_no hs)
    go_enter Try.func57, Try.ntmps57
    go_wp2_with fail
    generalize w.alloc (Obj.cells #[] 22) = w1 at hB0 hO0 h0 ⊢
    go_loopw [3, 4] (fun v i wr => v = .slice (some ⟨w.heap.size, 0, none⟩) 0 0 ∧ i = .int .i64 0 ∧ wr = w1) (fun _ i _ => 0)
    case atStart => exact ⟨rfl, rfl, rfl⟩
    case round =>
      obtain ⟨rfl, rfl, rfl⟩ := hrel
      by_cases hn : 0 < n
      · go_wp2_with (go_at_call 41; refine (sMapOk_c _ _ _ _ _ h0).mono ?_; rintro e w' ⟨rfl, rfl⟩)
        go_ret
        exact ⟨_, rfl, by rw [HW.out]; exact hO0, hB0⟩
      · go_wp2_with (go_at_call 41; refine (sMapOk_c _ _ _ _ _ h0).mono ?_; rintro e w' ⟨rfl, rfl⟩)
        go_ret
        exact ⟨_, rfl, by rw [HW.out]; exact hO0, hB0⟩
  · obtain ⟨f, rfl, hf⟩ := mapOk_ex hs
    obtain rfl : n = f.length := by rw [← h.len, ints_len]
    have HW := Lib.hid (loopsI_ok hf)
    have h7 := hf.le7
    go_enter Try.func57, Try.ntmps57
    go_wp2_with fail
    generalize w.alloc (Obj.cells #[] 22) = w0 at hB0 hO0 h0 ⊢
    go_loopw [3, 4] (fun v i wr => ∃ k : Nat, k ≤ f.length ∧ i = .int .i64 k ∧ OwnRR wr w.heap.size v (loopsK f k) ∧ Below w.heap.size w wr) (fun _ i _ => f.length - (intOf i).toNat)
    case atStart => exact ⟨0, Nat.zero_le _, rfl, hO0, hB0⟩
    case round =>
      obtain ⟨k, hk, rfl, hown, hbw⟩ := hrel
      by_cases hlt : k < f.length
      · have hli := loopI_ok hf hlt
        have hwi := wayI_ok hf hlt
        have hti := tailI_ok hf hlt
        have hrd := h.up hbw
        go_wp2_with fail
        refine (sMapOk_c _ _ _ _ _ hrd).mono ?_
        rintro e w' ⟨rfl, rfl⟩
        go_wp2_with fail
        refine (sOnLoop_c _ _ _ _ _ _ hrd).mono ?_
        rintro e w1 ⟨rfl, hb1⟩
        have hon : (tailI (ints f) (k : Int) == 0) = onL f k := by rw [hti, onL, Bool.eq_iff_iff, beq_iff_eq, beq_iff_eq]; omega
        rw [hon]
        have hown1 := hown.up hb1
        have hrd1 := hrd.up hb1
        have hbw1 := bt hbw hb1
        clear hown hrd hbw hb1 hti hon
        rcases hol : onL f k with _ | _
        · have HT := Lib.hid (loopsK_f (f := f) (k := k) (fun e => by rw [onL_of_lo hf hlt e] at hol; cases hol))
          go_wp2_with fail
          go_roundw
          case rel => exact ⟨k + 1, by omega, by go_num, by rw [HT.out]; exact hown1, hbw1⟩
          case measure => simp [intOf]; omega
        · go_wp2_with fail
          refine (sLoopOf_c _ _ _ _ _ _ hrd1).mono ?_
          rintro e w2 ⟨rfl, hb2⟩
          rw [hli]
          have hown2 := hown1.up hb2
          have hrd2 := hrd1.up hb2
          have hbw2 := bt hbw1 hb2
          clear hown1 hrd1 hbw1 hb2 hli
          by_cases he : lo f k = k
          · have HT := Lib.hid (loopsK_t he)
            rw [he]
            clear he
            go_wp2_with fail
            refine (sWayFrom_c _ _ _ _ _ _ hrd2).mono ?_
            rintro e w3 ⟨v, rfl, hO, hb3⟩
            rw [hwi] at hO
            obtain ⟨A2, c2, rfl, hO2⟩ := hO.form
            have hown3 := hown2.up hb3
            have hbw3 := bt hbw2 hb3
            have hy := (hO2.inn).wide (lo' := w.heap.size) hbw2.size (Nat.le_refl _)
            have hln : (loopsK f k).length ≤ 1000000000 := by have := loopsK_len f k; omega
            have hsz := hbw3.size
            clear hown2 hrd2 hbw2 hb3 hO hO2 hwi
            go_wp2_with (at_builtin; refine app_rr w3 A2 _ c2 rfl _ _ rfl w.heap.size _ (loopsK f k) rfl hown3 rfl _ hy hln hsz ?_; intro v' w4 hown4 hb4)
            go_roundw
            case rel => exact ⟨k + 1, by omega, by go_num, by rw [HT.out]; exact hown4, hbw3.trans hb4⟩
            case measure => simp [intOf]; omega
          · have HT := Lib.hid (loopsK_f he)
            have hq : ((lo f k : Int) == (k : Int)) = false := by rw [beq_eq_false_iff_ne]; omega
            clear he
            go_wp2_with fail
            go_roundw
            case rel => exact ⟨k + 1, by omega, by go_num, by rw [HT.out]; exact hown2, hbw2⟩
            case measure => simp [intOf]; omega
      · obtain rfl : k = f.length := by omega
        go_wp2_with fail
        go_ret
        exact ⟨_, rfl, by rw [HW.out]; exact hown, hbw⟩

set_option maxRecDepth 100000 in
set_option maxHeartbeats 800000 in
theorem sTreeOk_c (A : Option Addr) (n c : Nat) (xs : List Int) (w : World) (h : Rd w w.heap.size A n c xs) :
    Calls Try.prog 15 #[.slice A n c] w fun e w' => e = .returned (.bool (treeOkI xs)) ∧ Below w.heap.size w w' := by
  go_enter Try.func15, Try.ntmps15
  go_wp2_with fail
  refine (sLoopsOf_c _ _ _ _ _ h).mono ?_
  rintro e w1 ⟨v, rfl, hO, hb⟩
  obtain ⟨A1, c1, rfl, hr⟩ := hO.form
  have hcp := hr.cap
  have hmx := hr.max
  unfold maxLen at hmx
  by_cases h1 : (loopsI xs).length = 1
  · obtain ⟨b, off, A2, n2, c2, rfl, hbb, hcell, hr2⟩ := hr.at_ (k := 0) (by omega)
    rw [Nat.add_zero] at hcell
    have hl2 := hr2.len
    have HE : Hid (treeOkI xs = decide (n2 = 1)) := by unfold Hid treeOkI; rw [hl2]; simp [h1]
    rw [h1] at hcp ⊢
    by_cases h2 : n2 = 1
    · have HE2 : Hid (treeOkI xs = true) := HE.out.trans (decide_eq_true h2)
      subst h2
      go_wp2_with fail
      go_ret
      exact ⟨boolEnd HE2.out.symm, hb⟩
    · have HE2 : Hid (treeOkI xs = false) := HE.out.trans (decide_eq_false h2)
      have hq : ((n2 : Int) == 1) = false := by rw [beq_eq_false_iff_ne]; omega
      go_wp2_with fail
      go_ret
      exact ⟨boolEnd HE2.out.symm, hb⟩
  · have HE2 : Hid (treeOkI xs = false) := by unfold Hid treeOkI; simp [h1]
    have hq : (((loopsI xs).length : Int) == 1) = false := by rw [beq_eq_false_iff_ne]; omega
    go_wp2_with fail
    go_ret
    exact ⟨boolEnd HE2.out.symm, hb⟩

end Go.Proofs.Ytlbiioncpeondaa
