/- Bundle V7. -/
import Derived.Test.YtoinlkdmfclnbaaGreatDoorYP
import Derived.Test.YtoinlkdmfclnbaaGreatDoorYV1
import Derived.Test.YtoinlkdmfclnbaaGreatDoorYV5
import Derived.Test.YtoinlkdmfclnbaaGreatDoorYV6
namespace Go.Proofs.YtoinlkdmfclnbaaGreatDoor
set_option linter.unusedVariables false
section
open Go.RowKit
def treeOkI (xs : List Int) : Bool := decide ((loopsI xs).length = 1 ∧ (gR (loopsI xs) 0).length = 1)
set_option maxRecDepth 100000 in
set_option maxHeartbeats 800000 in
theorem treeOk_c (A : Option Addr) (n c : Nat) (xs : List Int) (w : World) (h : Rd w w.heap.size A n c xs) :
    Calls Tryz.prog 191 #[.slice A n c] w fun e w' => e = .returned (.bool (treeOkI xs)) ∧ Below w.heap.size w w' := by
 go_enter Tryz.func191, Tryz.ntmps191
 go_wp2_with fail
 refine (loopsOf_c _ _ _ _ _ h).mono ?_
 rintro e w1 ⟨v, rfl, hO, hb⟩
 obtain ⟨A1, c1, rfl, hr⟩ := hO.form
 have hcp := hr.cap
 have hmx := hr.max
 unfold maxLen at hmx
 by_cases h1 : (loopsI xs).length = 1
 · obtain ⟨b, off, A2, n2, c2, rfl, hbb, hcell, hr2⟩ := hr.at_ (k := 0) (by omega)
   rw [Nat.add_zero] at hcell
   have hl2 := hr2.len
   have HE : Hid (treeOkI xs = decide (n2 = 1)) := by unfold Hid treeOkI; rw [hl2]; simp [h1]
   rw [h1] at hcp ⊢
   by_cases h2 : n2 = 1
   · have HE2 : Hid (treeOkI xs = true) := HE.out.trans (decide_eq_true h2)
     subst h2
     go_wp2_with fail
     go_ret
     exact ⟨boolEnd HE2.out.symm, hb⟩
   · have HE2 : Hid (treeOkI xs = false) := HE.out.trans (decide_eq_false h2)
     have hq : ((n2 : Int) == 1) = false := by rw [beq_eq_false_iff_ne]; omega
     go_wp2_with fail
     go_ret
     exact ⟨boolEnd HE2.out.symm, hb⟩
 · have HE2 : Hid (treeOkI xs = false) := by unfold Hid treeOkI; simp [h1]
   have hq : (((loopsI xs).length : Int) == 1) = false := by rw [beq_eq_false_iff_ne]; omega
   go_wp2_with fail
   go_ret
   exact ⟨boolEnd HE2.out.symm, hb⟩
set_option maxHeartbeats 800000 in
theorem sWayFrom_c (A : Option Addr) (n c : Nat) (xs : List Int) (t : Int) (w : World) (h : Rd w w.heap.size A n c xs) :
    Calls Tryz.prog 64 #[.slice A n c, .int .i64 t] w (Way xs t w) := by
 rcases hs : atOk xs t with _ | _
 · have HW := Lib.hid (wayI_no hs)
   have hl := h.len
   have hB0 : Below w.heap.size w (w.alloc (Obj.cells #[] 3)) := (Below.refl _ _).alloc (Nat.le_refl _) _
   have hO0 := OwnV.made w w.heap.size #[] (Nat.le_refl _) rfl
   have h0 := h.up hB0
   rcases hm : mapOk xs with _ | _
   · go_enter Tryz.func64, Tryz.ntmps64
     go_wp2_with (go_at_call 67; refine (sMapOk_c _ _ _ _ _ h0).mono ?_; rintro e w' ⟨rfl, rfl⟩)
     go_ret
     exact ⟨_, rfl, by rw [HW.out]; exact hO0, hB0⟩
   · have hbd := mapOk_bounds hm
     have hin : inB t 0 ((n : Int) - 1) = false := by
      rw [hasB_inB]; unfold atOk at hs; rw [hm, Bool.true_and, hl] at hs; exact hs
     go_enter Tryz.func64, Tryz.ntmps64
     go_wp2_with (first
      | (go_at_call 67; refine (sMapOk_c _ _ _ _ _ h0).mono ?_; rintro e w' ⟨rfl, rfl⟩)
      | (go_at_call 129; refine (l1In_c _ _ _ _).mono ?_; rintro e w' ⟨rfl, rfl⟩))
     go_ret
     exact ⟨_, rfl, by rw [HW.out]; exact hO0, hB0⟩
 · obtain ⟨f, k, rfl, rfl, hf, hk⟩ := atOk_ex hs
   obtain rfl : n = f.length := by rw [← h.len, ints_len]
   have HW := Lib.hid (wayI_ok hf hk)
   refine (sWayFrom_ok A c f k w h hf hk).mono ?_
   rintro e w' ⟨v, rfl, hO, hb⟩
   exact ⟨v, rfl, by rw [HW.out]; exact hO, hb⟩
set_option maxRecDepth 100000 in
set_option maxHeartbeats 800000 in
theorem sTailOf_c (A : Option Addr) (n c : Nat) (xs : List Int) (t : Int) (w : World) (h : Rd w w.heap.size A n c xs) :
    Calls Tryz.prog 162 #[.slice A n c, .int .i64 t] w fun e w' => e = .returned (.int .i64 (tailI xs t)) ∧ Below w.heap.size w w' := by
 rcases hs : atOk xs t with _ | _
 · have HW := Lib.hid (tailI_no hs)
   have hwi := wayI_no hs
   go_enter Tryz.func162, Tryz.ntmps162
   go_wp2_with fail
   refine (sWayFrom_c _ _ _ _ _ _ h).mono ?_
   rintro e w1 ⟨v, rfl, hO, hb⟩
   rw [hwi] at hO
   obtain ⟨A1, c1, rfl, hO1⟩ := hO.form
   go_wp2_with fail
   go_loopw [6] (fun i wr => i = .int .i64 0 ∧ wr = w1) (fun i _ => 0)
   case atStart => exact ⟨rfl, rfl⟩
   case round =>
    obtain ⟨rfl, rfl⟩ := hrel
    go_wp2_with fail
    go_ret
    exact ⟨intEnd HW.out.symm, hb⟩
 · obtain ⟨f, k, rfl, rfl, hf, hk⟩ := atOk_ex hs
   obtain rfl : n = f.length := by rw [← h.len, ints_len]
   have HW := Lib.hid (tailI_ok hf hk)
   have hwi := wayI_ok hf hk
   have hlw : (ints (way f k)).length = wl f k := by rw [ints_len, way, orb_len]
   have htl := tl_is hf hk
   have hwl := wl_le hf hk
   have h7 := hf.le7
   have hway := wl_isWay hf hk
   have hg : ∀ j, j < wl f k → gI (ints (way f k)) j = (it f j k : Int) := fun j hj => by
    rw [gI_ints, nx_get (by rw [way, orb_len]; exact hj)]; simp only [way]; rw [orb_get]
   have HG := Lib.hid hg
   have HI := Lib.hid hway
   have hpos := hway.pos
   clear hg hway
   go_enter Tryz.func162, Tryz.ntmps162
   go_wp2_with fail
   refine (sWayFrom_c _ _ _ _ _ _ h).mono ?_
   rintro e w1 ⟨v, rfl, hO, hb⟩
   rw [hwi] at hO
   obtain ⟨g, c1, rfl, hr⟩ := hO.some_ (by omega)
   rw [hlw] at hr ⊢
   obtain ⟨b, off, rfl, hbb, hcells⟩ := (h.up hb).2.2.2 (by have := hf.pos; omega)
   have hcp := hr.cap
   have hmx := hr.max
   unfold maxLen at hmx
   have hlast : (wl f k - 1 : Nat) < wl f k := by omega
   obtain ⟨g', off', heq, _, hcw⟩ := hr.2.2.2 (by omega)
   cases heq
   have hx := it_lt hf hk (wl f k - 1)
   have hc2 := hcw (wl f k - 1) hlast
   rw [HG.out _ hlast, Nat.zero_add] at hc2
   have hc3 := hcells _ hx
   have e3 : nx f (it f (wl f k - 1) k) = it f (wl f k) k := by rw [← it_succ, show wl f k - 1 + 1 = wl f k by omega]
   rw [gI_ints, e3] at hc3
   have CW := Lib.hid hcw
   have hw1 : IntKind.i64.wrap ((wl f k : Int) - 1) = ((wl f k - 1 : Nat) : Int) := by rw [show ((wl f k - 1 : Nat) : Int) = (wl f k : Int) - 1 by omega]; exact IntWalk.i64_in _ (by omega)
   obtain ⟨x, hxe⟩ : ∃ x, x = it f (wl f k - 1) k := ⟨_, rfl⟩
   rw [← hxe] at hc2 hc3 hx
   obtain ⟨L, hL⟩ : ∃ L, L = wl f k - 1 := ⟨_, rfl⟩
   rw [← hL] at hc2 hw1
   have hL2 : L < wl f k := by omega
   have HT := Lib.hid htl
   have htl1 := htl.1
   clear hcw hcells hwi hlast hO e3 hL hxe htl
   go_wp2_with fail
   go_loopw [6] (fun i wr => ∃ j : Nat, j ≤ tl f k ∧ i = .int .i64 j ∧ ∃ m, wr = w1.drewN m) (fun i _ => tl f k - (intOf i).toNat)
   case atStart => exact ⟨0, Nat.zero_le _, rfl, 0, rfl⟩
   case round =>
    obtain ⟨j, hj, rfl, m, rfl⟩ := hrel
    have hjw : j < wl f k := by omega
    have hcj := CW.out j hjw
    rw [HG.out j hjw, Nat.zero_add] at hcj
    rcases Nat.lt_or_ge j (tl f k) with h1 | h1
    · have hne : it f j k ≠ it f (wl f k) k := fun e => by have := tl_eq HI.out hjw e; omega
      have hq : ((it f j k : Int) == (it f (wl f k) k : Int)) = false := by rw [beq_eq_false_iff_ne]; omega
      clear hne
      go_wp2_with fail
      go_quiet (fail)
      go_wp2_with fail
      go_roundw
      case rel => exact ⟨j + 1, by omega, by go_num, _, rfl⟩
      case measure => simp [intOf]; omega
    · obtain rfl : j = tl f k := by omega
      rw [HT.out.2] at hcj
      go_wp2_with fail
      go_quiet (fail)
      go_wp2_with fail
      go_ret
      exact ⟨intEnd HW.out.symm, bd (bd hb m) _⟩
set_option maxHeartbeats 400000 in
theorem sOnLoop_c (A : Option Addr) (n c : Nat) (xs : List Int) (t : Int) (w : World) (h : Rd w w.heap.size A n c xs) :
    Calls Tryz.prog 123 #[.slice A n c, .int .i64 t] w fun e w' => e = .returned (.bool (tailI xs t == 0)) ∧ Below w.heap.size w w' := by
 go_enter Tryz.func123, Tryz.ntmps123
 go_wp2_with (go_at_call 162; refine (sTailOf_c _ _ _ _ _ _ h).mono ?_; rintro e w' ⟨rfl, hb⟩)
 go_ret
 exact ⟨rfl, hb⟩
end
section
open Go.RowKit
def bst (f : List Nat) (k j : Nat) : Int := if j ≤ tl f k then -1 else (loGo f k (tl f k) (j - tl f k) : Int)
theorem bst_lo {f : List Nat} {k j : Nat} (h : j ≤ tl f k) : bst f k j = -1 := by unfold bst; rw [if_pos h]
theorem bst_at (f : List Nat) (k : Nat) : bst f k (tl f k + 1) = (it f (tl f k) k : Int) := by
 unfold bst; rw [if_neg (by omega), show tl f k + 1 - tl f k = 1 by omega]; simp [loGo]
theorem bst_hi {f : List Nat} {k j : Nat} (h : tl f k < j) : bst f k j = (loGo f k (tl f k) (j - tl f k) : Int) := by unfold bst; rw [if_neg (by omega)]
theorem bst_next {f : List Nat} {k j : Nat} (h : tl f k < j) : bst f k (j + 1) = (min (loGo f k (tl f k) (j - tl f k)) (it f j k) : Nat) := by
 rw [bst_hi (by omega), show j + 1 - tl f k = (j - tl f k) + 1 by omega, loGo, show tl f k + (j - tl f k) = j by omega]
set_option maxRecDepth 100000 in
set_option maxHeartbeats 800000 in
theorem sLoopOf_c (A : Option Addr) (n c : Nat) (xs : List Int) (t : Int) (w : World) (h : Rd w w.heap.size A n c xs) :
    Calls Tryz.prog 124 #[.slice A n c, .int .i64 t] w fun e w' => e = .returned (.int .i64 (loopI xs t)) ∧ Below w.heap.size w w' := by
 rcases hs : atOk xs t with _ | _
 · have HW := Lib.hid (loopI_no hs)
   have hwi := wayI_no hs
   go_enter Tryz.func124, Tryz.ntmps124
   go_wp2_with fail
   refine (sWayFrom_c _ _ _ _ _ _ h).mono ?_
   rintro e w1 ⟨v, rfl, hO, hb⟩
   rw [hwi] at hO
   obtain ⟨A1, c1, rfl, hO1⟩ := hO.form
   go_wp2_with fail
   go_loopw [6, 7] (fun b i wr => b = .int .i64 (-1) ∧ i = .int .i64 0 ∧ wr = w1) (fun _ i _ => 0)
   case atStart => exact ⟨rfl, rfl, rfl⟩
   case round =>
    obtain ⟨rfl, rfl, rfl⟩ := hrel
    go_wp2_with fail
    go_ret
    exact ⟨intEnd HW.out.symm, hb⟩
 · obtain ⟨f, k, rfl, rfl, hf, hk⟩ := atOk_ex hs
   obtain rfl : n = f.length := by rw [← h.len, ints_len]
   have HW := Lib.hid (loopI_ok hf hk)
   have hti := tailI_ok hf hk
   have hwi := wayI_ok hf hk
   have hlw : (ints (way f k)).length = wl f k := by rw [ints_len, way, orb_len]
   have htl1 := (tl_is hf hk).1
   have hwl := wl_le hf hk
   have h7 := hf.le7
   have hg : ∀ j, j < wl f k → gI (ints (way f k)) j = (it f j k : Int) := fun j hj => by
    rw [gI_ints, nx_get (by rw [way, orb_len]; exact hj)]; simp only [way]; rw [orb_get]
   have HG := Lib.hid hg
   clear hg
   go_enter Tryz.func124, Tryz.ntmps124
   go_wp2_with fail
   refine (sWayFrom_c _ _ _ _ _ _ h).mono ?_
   rintro e w1 ⟨v, rfl, hO, hb⟩
   rw [hwi] at hO
   obtain ⟨g, c1, rfl, hr⟩ := hO.some_ (by omega)
   rw [hlw] at hr ⊢
   have hrd := h.up hb
   have hcp := hr.cap
   have hmx := hr.max
   unfold maxLen at hmx
   clear hO hwi
   go_wp2_with fail
   go_loopw [6, 7] (fun b i wr => ∃ j : Nat, j ≤ wl f k ∧ i = .int .i64 j ∧ b = .int .i64 (bst f k j) ∧ Below w1.heap.size w1 wr) (fun _ i _ => wl f k - (intOf i).toNat)
   case atStart => exact ⟨0, Nat.zero_le _, rfl, by rw [bst_lo (Nat.zero_le _)], Below.refl _ _⟩
   case round =>
    obtain ⟨j, hj, rfl, rfl, hbw⟩ := hrel
    by_cases hjw : j < wl f k
    · have hrd2 := hrd.up hbw
      have hr2 := hr.up hbw
      go_wp2_with fail
      refine (sTailOf_c _ _ _ _ _ _ hrd2).mono ?_
      rintro e w2 ⟨rfl, hb2⟩
      rw [hti]
      obtain ⟨g', off', heq, hgb, hcell⟩ := (hr2.up hb2).2.2.2 (by omega)
      cases heq
      have hcj := hcell j hjw
      rw [HG.out j hjw, Nat.zero_add] at hcj
      have hbw2 := bt hbw hb2
      clear hcell hbw hb2 hrd2 hr2
      rcases Nat.lt_trichotomy j (tl f k) with h1 | h1 | h1
      · have hn1 := bst_lo (f := f) (k := k) (j := j) (by omega)
        have HN := Lib.hid (bst_lo (f := f) (k := k) (j := j + 1) (by omega))
        have hq : ¬ ((tl f k : Int) ≤ (j : Int)) := by omega
        rw [hn1]
        go_wp2_with fail
        go_roundw
        case rel => exact ⟨j + 1, by omega, by go_num, by rw [HN.out], hbw2⟩
        case measure => simp [intOf]; omega
      · have hn1 := bst_lo (f := f) (k := k) (j := j) (by omega)
        have HN : Hid (bst f k (j + 1) = (it f j k : Int)) := by unfold Hid; rw [h1]; exact bst_at f k
        have hq : (tl f k : Int) ≤ (j : Int) := by omega
        rw [hn1]
        clear h1
        go_wp2_with fail
        go_roundw
        case rel => exact ⟨j + 1, by omega, by go_num, by rw [HN.out], hbw2⟩
        case measure => simp [intOf]; omega
      · have hn1 := bst_hi h1
        have HN := Lib.hid (bst_next h1)
        have hq : (tl f k : Int) ≤ (j : Int) := by omega
        rw [hn1]
        generalize loGo f k (tl f k) (j - tl f k) = B at HN
        have hB0 : ¬ ((B : Int) < 0) := by omega
        by_cases hlt : it f j k < B
        · have HE : Hid (bst f k (j + 1) = (it f j k : Int)) := by unfold Hid; rw [HN.out]; omega
          have hlt2 : (it f j k : Int) < (B : Int) := by omega
          go_wp2_with fail
          go_roundw
          case rel => exact ⟨j + 1, by omega, by go_num, by rw [HE.out], hbw2⟩
          case measure => simp [intOf]; omega
        · have HE : Hid (bst f k (j + 1) = (B : Int)) := by unfold Hid; rw [HN.out]; omega
          have hlt2 : ¬ ((it f j k : Int) < (B : Int)) := by omega
          go_wp2_with fail
          go_roundw
          case rel => exact ⟨j + 1, by omega, by go_num, by rw [HE.out], hbw2⟩
          case measure => simp [intOf]; omega
    · obtain rfl : j = wl f k := by omega
      have HB := Lib.hid (bst_hi htl1)
      go_wp2_with fail
      go_ret
      exact ⟨intEnd (by rw [HB.out, HW.out]; rfl), bt hb hbw⟩
end
section
open Go.RowKit
set_option maxRecDepth 100000 in
set_option maxHeartbeats 800000 in
theorem sLoopsOf_c (A : Option Addr) (n c : Nat) (xs : List Int) (w : World) (h : Rd w w.heap.size A n c xs) :
    Calls Tryz.prog 54 #[.slice A n c] w (Rows (loopsI xs) w) := by
 have hB0 : Below w.heap.size w (w.alloc (Obj.cells #[] 23)) := (Below.refl _ _).alloc (Nat.le_refl _) _
 have hO0 := OwnRR.made w w.heap.size (Nat.le_refl _)
 have h0 := h.up hB0
 have hcp := h.cap
 have hmx := h.max
 unfold maxLen at hmx
 rcases hs : mapOk xs with _ | _
 · have HW := Lib.hid (loopsI_no hs)
   go_enter Tryz.func54, Tryz.ntmps54
   go_wp2_with fail
   generalize w.alloc (Obj.cells #[] 23) = w1 at hB0 hO0 h0 ⊢
   go_loopw [3, 4] (fun v i wr => v = .slice (some ⟨w.heap.size, 0, none⟩) 0 0 ∧ i = .int .i64 0 ∧ wr = w1) (fun _ i _ => 0)
   case atStart => exact ⟨rfl, rfl, rfl⟩
   case round =>
    obtain ⟨rfl, rfl, rfl⟩ := hrel
    by_cases hn : 0 < n
    · go_wp2_with (go_at_call 67; refine (sMapOk_c _ _ _ _ _ h0).mono ?_; rintro e w' ⟨rfl, rfl⟩)
      go_ret
      exact ⟨_, rfl, by rw [HW.out]; exact hO0, hB0⟩
    · go_wp2_with (go_at_call 67; refine (sMapOk_c _ _ _ _ _ h0).mono ?_; rintro e w' ⟨rfl, rfl⟩)
      go_ret
      exact ⟨_, rfl, by rw [HW.out]; exact hO0, hB0⟩
 · obtain ⟨f, rfl, hf⟩ := mapOk_ex hs
   obtain rfl : n = f.length := by rw [← h.len, ints_len]
   have HW := Lib.hid (loopsI_ok hf)
   have h7 := hf.le7
   go_enter Tryz.func54, Tryz.ntmps54
   go_wp2_with fail
   generalize w.alloc (Obj.cells #[] 23) = w0 at hB0 hO0 h0 ⊢
   go_loopw [3, 4] (fun v i wr => ∃ k : Nat, k ≤ f.length ∧ i = .int .i64 k ∧ OwnRR wr w.heap.size v (loopsK f k) ∧ Below w.heap.size w wr) (fun _ i _ => f.length - (intOf i).toNat)
   case atStart => exact ⟨0, Nat.zero_le _, rfl, hO0, hB0⟩
   case round =>
    obtain ⟨k, hk, rfl, hown, hbw⟩ := hrel
    by_cases hlt : k < f.length
    · have hli := loopI_ok hf hlt
      have hwi := wayI_ok hf hlt
      have hti := tailI_ok hf hlt
      have hrd := h.up hbw
      go_wp2_with fail
      refine (sMapOk_c _ _ _ _ _ hrd).mono ?_
      rintro e w' ⟨rfl, rfl⟩
      go_wp2_with fail
      refine (sOnLoop_c _ _ _ _ _ _ hrd).mono ?_
      rintro e w1 ⟨rfl, hb1⟩
      have hon : (tailI (ints f) (k : Int) == 0) = onL f k := by rw [hti, onL, Bool.eq_iff_iff, beq_iff_eq, beq_iff_eq]; omega
      rw [hon]
      have hown1 := hown.up hb1
      have hrd1 := hrd.up hb1
      have hbw1 := bt hbw hb1
      clear hown hrd hbw hb1 hti hon
      rcases hol : onL f k with _ | _
      · have HT := Lib.hid (loopsK_f (f := f) (k := k) (fun e => by rw [onL_of_lo hf hlt e] at hol; cases hol))
        go_wp2_with fail
        go_roundw
        case rel => exact ⟨k + 1, by omega, by go_num, by rw [HT.out]; exact hown1, hbw1⟩
        case measure => simp [intOf]; omega
      · go_wp2_with fail
        refine (sLoopOf_c _ _ _ _ _ _ hrd1).mono ?_
        rintro e w2 ⟨rfl, hb2⟩
        rw [hli]
        have hown2 := hown1.up hb2
        have hrd2 := hrd1.up hb2
        have hbw2 := bt hbw1 hb2
        clear hown1 hrd1 hbw1 hb2 hli
        by_cases he : lo f k = k
        · have HT := Lib.hid (loopsK_t he)
          rw [he]
          clear he
          go_wp2_with fail
          refine (sWayFrom_c _ _ _ _ _ _ hrd2).mono ?_
          rintro e w3 ⟨v, rfl, hO, hb3⟩
          rw [hwi] at hO
          obtain ⟨A2, c2, rfl, hO2⟩ := hO.form
          have hown3 := hown2.up hb3
          have hbw3 := bt hbw2 hb3
          have hy := (hO2.inn).wide (lo' := w.heap.size) hbw2.size (Nat.le_refl _)
          have hln : (loopsK f k).length ≤ 1000000000 := by have := loopsK_len f k; omega
          have hsz := hbw3.size
          clear hown2 hrd2 hbw2 hb3 hO hO2 hwi
          go_wp2_with (at_builtin; refine app_rr w3 A2 _ c2 rfl _ _ rfl w.heap.size _ (loopsK f k) rfl hown3 rfl _ hy hln hsz ?_; intro v' w4 hown4 hb4)
          go_roundw
          case rel => exact ⟨k + 1, by omega, by go_num, by rw [HT.out]; exact hown4, hbw3.trans hb4⟩
          case measure => simp [intOf]; omega
        · have HT := Lib.hid (loopsK_f he)
          have hq : ((lo f k : Int) == (k : Int)) = false := by rw [beq_eq_false_iff_ne]; omega
          clear he
          go_wp2_with fail
          go_roundw
          case rel => exact ⟨k + 1, by omega, by go_num, by rw [HT.out]; exact hown2, hbw2⟩
          case measure => simp [intOf]; omega
    · obtain rfl : k = f.length := by omega
      go_wp2_with fail
      go_ret
      exact ⟨_, rfl, by rw [HW.out]; exact hown, hbw⟩
set_option maxRecDepth 100000 in
set_option maxHeartbeats 800000 in
theorem sTreeOk_c (A : Option Addr) (n c : Nat) (xs : List Int) (w : World) (h : Rd w w.heap.size A n c xs) :
    Calls Tryz.prog 131 #[.slice A n c] w fun e w' => e = .returned (.bool (treeOkI xs)) ∧ Below w.heap.size w w' := by
 go_enter Tryz.func131, Tryz.ntmps131
 go_wp2_with fail
 refine (sLoopsOf_c _ _ _ _ _ h).mono ?_
 rintro e w1 ⟨v, rfl, hO, hb⟩
 obtain ⟨A1, c1, rfl, hr⟩ := hO.form
 have hcp := hr.cap
 have hmx := hr.max
 unfold maxLen at hmx
 by_cases h1 : (loopsI xs).length = 1
 · obtain ⟨b, off, A2, n2, c2, rfl, hbb, hcell, hr2⟩ := hr.at_ (k := 0) (by omega)
   rw [Nat.add_zero] at hcell
   have hl2 := hr2.len
   have HE : Hid (treeOkI xs = decide (n2 = 1)) := by unfold Hid treeOkI; rw [hl2]; simp [h1]
   rw [h1] at hcp ⊢
   by_cases h2 : n2 = 1
   · have HE2 : Hid (treeOkI xs = true) := HE.out.trans (decide_eq_true h2)
     subst h2
     go_wp2_with fail
     go_ret
     exact ⟨boolEnd HE2.out.symm, hb⟩
   · have HE2 : Hid (treeOkI xs = false) := HE.out.trans (decide_eq_false h2)
     have hq : ((n2 : Int) == 1) = false := by rw [beq_eq_false_iff_ne]; omega
     go_wp2_with fail
     go_ret
     exact ⟨boolEnd HE2.out.symm, hb⟩
 · have HE2 : Hid (treeOkI xs = false) := by unfold Hid treeOkI; simp [h1]
   have hq : (((loopsI xs).length : Int) == 1) = false := by rw [beq_eq_false_iff_ne]; omega
   go_wp2_with fail
   go_ret
   exact ⟨boolEnd HE2.out.symm, hb⟩
end
section
open Go.RowKit
end
section
open Go.RowKit
def rootI (xs : List Int) : Int := if treeOkI xs then loopI xs 0 else -1
theorem rootI_no {xs : List Int} (h : treeOkI xs = false) : rootI xs = -1 := by unfold rootI; rw [h]; simp
theorem rootI_yes {xs : List Int} (h : treeOkI xs = true) : rootI xs = loopI xs 0 := by unfold rootI; rw [h]; simp
theorem tree_ex {xs : List Int} (h : treeOkI xs = true) : ∃ f, xs = ints f ∧ MapN f ∧ (loopsN f).length = 1 ∧ ((loopsN f).getD 0 []).length = 1 := by
 unfold treeOkI at h
 simp only [decide_eq_true_eq] at h
 rcases hm : mapOk xs with _ | _
 · rw [loopsI_no hm] at h; simp at h
 · obtain ⟨f, rfl, hf⟩ := mapOk_ex hm
   rw [loopsI_ok hf] at h
   exact ⟨f, rfl, hf, h.1, h.2⟩
set_option maxHeartbeats 400000 in
theorem rootOf_c (A : Option Addr) (n c : Nat) (xs : List Int) (w : World) (h : Rd w w.heap.size A n c xs) :
    Calls Tryz.prog 192 #[.slice A n c] w fun e w' => e = .returned (.int .i64 (rootI xs)) ∧ Below w.heap.size w w' := by
 go_enter Tryz.func192, Tryz.ntmps192
 go_wp2_with fail
 refine (treeOk_c _ _ _ _ _ h).mono ?_
 rintro e w1 ⟨rfl, hb⟩
 rcases ht : treeOkI xs with _ | _
 · have HR := Lib.hid (rootI_no ht)
   go_wp2_with fail
   go_ret
   exact ⟨intEnd HR.out.symm, hb⟩
 · have HR := Lib.hid (rootI_yes ht)
   go_wp2_with fail
   refine (loopOf_c _ _ _ _ _ _ (h.up hb)).mono ?_
   rintro e w2 ⟨rfl, hb2⟩
   go_wp2_with fail
   go_ret
   exact ⟨intEnd HR.out.symm, bt hb hb2⟩
set_option maxHeartbeats 800000 in
theorem sRootOf_c (A : Option Addr) (n c : Nat) (xs : List Int) (w : World) (h : Rd w w.heap.size A n c xs) :
    Calls Tryz.prog 132 #[.slice A n c] w fun e w' => e = .returned (.int .i64 (rootI xs)) ∧ Below w.heap.size w w' := by
 go_enter Tryz.func132, Tryz.ntmps132
 go_wp2_with fail
 refine (sTreeOk_c _ _ _ _ _ h).mono ?_
 rintro e w1 ⟨rfl, hb⟩
 rcases ht : treeOkI xs with _ | _
 · have HR := Lib.hid (rootI_no ht)
   go_wp2_with fail
   go_ret
   exact ⟨intEnd HR.out.symm, hb⟩
 · have HR := Lib.hid (rootI_yes ht)
   obtain ⟨f, rfl, hf, h1, h2⟩ := tree_ex ht
   have hli := loopI_ok hf hf.pos
   have hlo := loopsI_ok hf
   have htr := tree_root hf h1
   go_wp2_with fail
   refine (sLoopsOf_c _ _ _ _ _ (h.up hb)).mono ?_
   rintro e w2 ⟨v, rfl, hO, hb2⟩
   rw [hlo] at hO
   obtain ⟨A1, c1, rfl, hr⟩ := hO.form
   obtain ⟨b, off, A2, n2, c2, rfl, hbb, hcell, hr2⟩ := hr.at_ (k := 0) (by omega)
   rw [Nat.add_zero] at hcell
   have hl2 := hr2.len
   obtain rfl : n2 = 1 := by rw [← hl2]; exact h2
   obtain ⟨b2, off2, rfl, hbb2, hcell2⟩ := hr2.at_ (k := 0) (by omega)
   have hgr : gR (loopsN f) 0 = ints (way f (lo f 0)) := htr
   have hpos := (wl_isWay hf (lo_lt hf (k := 0) hf.pos)).pos
   have hv : gI (gR (loopsN f) 0) 0 = loopI (ints f) 0 := by
    rw [hgr, gI_ints, nx_get (by rw [way, orb_len]; omega)]
    simp only [way]; rw [orb_get]; exact hli.symm
   rw [hv, Nat.add_zero] at hcell2
   rw [h1]
   clear hO hr hr2 hlo hli htr hgr hv
   go_wp2_with fail
   go_ret
   exact ⟨intEnd HR.out.symm, bt hb hb2⟩
end
end Go.Proofs.YtoinlkdmfclnbaaGreatDoor
