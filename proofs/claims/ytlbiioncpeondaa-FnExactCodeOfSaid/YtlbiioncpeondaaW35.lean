/- Walks: TailOf, OnLoop, LoopOf, LoopsOf (spec), TreeOk (impl and spec). Printed by gen_w35.py. -/
import Derived.Test.YtlbiioncpeondaaW34
import Derived.Test.YtlbiioncpeondaaW23
namespace Go.Proofs.Ytlbiioncpeondaa
set_option linter.unusedVariables false
open Go.RowKit

def treeOkI (xs : List Int) : Bool := decide ((loopsI xs).length = 1 ∧ (gR (loopsI xs) 0).length = 1)
set_option maxRecDepth 100000 in
set_option maxHeartbeats 800000 in
theorem treeOk_c (A : Option Addr) (n c : Nat) (xs : List Int) (w : World) (h : Rd w w.heap.size A n c xs) :
    Calls Try.prog 17 #[.slice A n c] w fun e w' => e = .returned (.bool (treeOkI xs)) ∧ Below w.heap.size w w' := by
  go_enter Try.func17, Try.ntmps17
  go_wp2_with fail
  refine (loopsOf_c _ _ _ _ _ h).mono ?_
  rintro e w1 ⟨v, rfl, hO, hb⟩
  obtain ⟨A1, c1, rfl, hr⟩ := hO.form
  have hcp := hr.cap
  have hmx := hr.max
  unfold maxLen at hmx
  by_cases h1 : (loopsI xs).length = 1
  · obtain ⟨b, off, A2, n2, c2, rfl, hbb, hcell, hr2⟩ := hr.at_ (k := 0) (by omega)
    rw [Nat.add_zero] at hcell
    have hl2 := hr2.len
    have HE : Hid (treeOkI xs = decide (n2 = 1)) := by unfold Hid treeOkI; rw [hl2]; simp [h1]
    rw [h1] at hcp ⊢
    by_cases h2 : n2 = 1
    · have HE2 : Hid (treeOkI xs = true) := HE.out.trans (decide_eq_true h2)
      subst h2
      go_wp2_with fail
      go_ret
      exact ⟨boolEnd HE2.out.symm, hb⟩
    · have HE2 : Hid (treeOkI xs = false) := HE.out.trans (decide_eq_false h2)
      have hq : ((n2 : Int) == 1) = false := by rw [beq_eq_false_iff_ne]; omega
      go_wp2_with fail
      go_ret
      exact ⟨boolEnd HE2.out.symm, hb⟩
  · have HE2 : Hid (treeOkI xs = false) := by unfold Hid treeOkI; simp [h1]
    have hq : (((loopsI xs).length : Int) == 1) = false := by rw [beq_eq_false_iff_ne]; omega
    go_wp2_with fail
    go_ret
    exact ⟨boolEnd HE2.out.symm, hb⟩


set_option maxHeartbeats 800000 in
theorem sWayFrom_c (A : Option Addr) (n c : Nat) (xs : List Int) (t : Int) (w : World) (h : Rd w w.heap.size A n c xs) :
    Calls Try.prog 77 #[.slice A n c, .int .i64 t] w (Way xs t w) := by
  rcases hs : atOk xs t with _ | _
  · have HW := Lib.hid (wayI_no hs)
    have hl := h.len
    have hB0 : Below w.heap.size w (w.alloc (Obj.cells #[] 3)) := (Below.refl _ _).alloc (Nat.le_refl _) _
    have hO0 := OwnV.made w w.heap.size #[] (Nat.le_refl _) rfl
    have h0 := h.up hB0
    rcases hm : mapOk xs with _ | _
    · go_enter Try.func77, Try.ntmps77
      go_wp2_with (go_at_call 41; refine (sMapOk_c _ _ _ _ _ h0).mono ?_; rintro e w' ⟨rfl, rfl⟩)
      go_ret
      exact ⟨_, rfl, by rw [HW.out]; exact hO0, hB0⟩
    · have hbd := mapOk_bounds hm
      have hin : inB t 0 ((n : Int) - 1) = false := by
        rw [hasB_inB]; unfold atOk at hs; rw [hm, Bool.true_and, hl] at hs; exact hs
      go_enter Try.func77, Try.ntmps77
      go_wp2_with (first
        | (go_at_call 41; refine (sMapOk_c _ _ _ _ _ h0).mono ?_; rintro e w' ⟨rfl, rfl⟩)
        | (go_at_call 76; refine (l1In_c _ _ _ _).mono ?_; rintro e w' ⟨rfl, rfl⟩))
      go_ret
      exact ⟨_, rfl, by rw [HW.out]; exact hO0, hB0⟩
  · obtain ⟨f, k, rfl, rfl, hf, hk⟩ := atOk_ex hs
    obtain rfl : n = f.length := by rw [← h.len, ints_len]
    have HW := Lib.hid (wayI_ok hf hk)
    refine (sWayFrom_ok A c f k w h hf hk).mono ?_
    rintro e w' ⟨v, rfl, hO, hb⟩
    exact ⟨v, rfl, by rw [HW.out]; exact hO, hb⟩
set_option maxRecDepth 100000 in
set_option maxHeartbeats 800000 in
theorem sTailOf_c (A : Option Addr) (n c : Nat) (xs : List Int) (t : Int) (w : World) (h : Rd w w.heap.size A n c xs) :
    Calls Try.prog 78 #[.slice A n c, .int .i64 t] w fun e w' => e = .returned (.int .i64 (tailI xs t)) ∧ Below w.heap.size w w' := by
  rcases hs : atOk xs t with _ | _
  · have HW := Lib.hid (tailI_no hs)
    have hwi := wayI_no hs
    go_enter Try.func78, Try.ntmps78
    go_wp2_with fail
    refine (sWayFrom_c _ _ _ _ _ _ h).mono ?_
    rintro e w1 ⟨v, rfl, hO, hb⟩
    rw [hwi] at hO
    obtain ⟨A1, c1, rfl, hO1⟩ := hO.form
    go_wp2_with fail
    go_loopw [6] (fun i wr => i = .int .i64 0 ∧ wr = w1) (fun i _ => 0)
    case atStart => exact ⟨rfl, rfl⟩
    case round =>
      obtain ⟨rfl, rfl⟩ := hrel
      go_wp2_with fail
      go_ret
      exact ⟨intEnd HW.out.symm, hb⟩
  · obtain ⟨f, k, rfl, rfl, hf, hk⟩ := atOk_ex hs
    obtain rfl : n = f.length := by rw [← h.len, ints_len]
    have HW := Lib.hid (tailI_ok hf hk)
    have hwi := wayI_ok hf hk
    have hlw : (ints (way f k)).length = wl f k := by rw [ints_len, way, orb_len]
    have htl := tl_is hf hk
    have hwl := wl_le hf hk
    have h7 := hf.le7
    have hway := wl_isWay hf hk
    have hg : ∀ j, j < wl f k → gI (ints (way f k)) j = (it f j k : Int) := fun j hj => by
      rw [gI_ints, nx_get (by rw [way, orb_len]; exact hj)]; simp only [way]; rw [orb_get]
    have HG := Lib.hid hg
    have HI := Lib.hid hway
    have hpos := hway.pos
    clear hg hway
    go_enter Try.func78, Try.ntmps78
    go_wp2_with fail
    refine (sWayFrom_c _ _ _ _ _ _ h).mono ?_
    rintro e w1 ⟨v, rfl, hO, hb⟩
    rw [hwi] at hO
    obtain ⟨g, c1, rfl, hr⟩ := hO.some_ (by omega)
    rw [hlw] at hr ⊢
    obtain ⟨b, off, rfl, hbb, hcells⟩ := (h.up hb).2.2.2 (by have := hf.pos; omega)
    have hcp := hr.cap
    have hmx := hr.max
    unfold maxLen at hmx
    have hlast : (wl f k - 1 : Nat) < wl f k := by omega
    obtain ⟨g', off', heq, _, hcw⟩ := hr.2.2.2 (by omega)
    cases heq
    have hx := it_lt hf hk (wl f k - 1)
    have hc2 := hcw (wl f k - 1) hlast
    rw [HG.out _ hlast, Nat.zero_add] at hc2
    have hc3 := hcells _ hx
    have e3 : nx f (it f (wl f k - 1) k) = it f (wl f k) k := by rw [← it_succ, show wl f k - 1 + 1 = wl f k by omega]
    rw [gI_ints, e3] at hc3
    have CW := Lib.hid hcw
    have hw1 : IntKind.i64.wrap ((wl f k : Int) - 1) = ((wl f k - 1 : Nat) : Int) := by rw [show ((wl f k - 1 : Nat) : Int) = (wl f k : Int) - 1 by omega]; exact IntWalk.i64_in _ (by omega)
    obtain ⟨x, hxe⟩ : ∃ x, x = it f (wl f k - 1) k := ⟨_, rfl⟩
    rw [← hxe] at hc2 hc3 hx
    obtain ⟨L, hL⟩ : ∃ L, L = wl f k - 1 := ⟨_, rfl⟩
    rw [← hL] at hc2 hw1
    have hL2 : L < wl f k := by omega
    have HT := Lib.hid htl
    have htl1 := htl.1
    clear hcw hcells hwi hlast hO e3 hL hxe htl
    go_wp2_with fail
    go_loopw [6] (fun i wr => ∃ j : Nat, j ≤ tl f k ∧ i = .int .i64 j ∧ ∃ m, wr = w1.drewN m) (fun i _ => tl f k - (intOf i).toNat)
    case atStart => exact ⟨0, Nat.zero_le _, rfl, 0, rfl⟩
    case round =>
      obtain ⟨j, hj, rfl, m, rfl⟩ := hrel
      have hjw : j < wl f k := by omega
      have hcj := CW.out j hjw
      rw [HG.out j hjw, Nat.zero_add] at hcj
      rcases Nat.lt_or_ge j (tl f k) with h1 | h1
      · have hne : it f j k ≠ it f (wl f k) k := fun e => by have := tl_eq HI.out hjw e; omega
        have hq : ((it f j k : Int) == (it f (wl f k) k : Int)) = false := by rw [beq_eq_false_iff_ne]; omega
        clear hne
        go_wp2_with fail
        go_quiet (fail)
        go_wp2_with fail
        go_roundw
        case rel => exact ⟨j + 1, by omega, by go_num, _, rfl⟩
        case measure => simp [intOf]; omega
      · obtain rfl : j = tl f k := by omega
        rw [HT.out.2] at hcj
        go_wp2_with fail
        go_quiet (fail)
        go_wp2_with fail
        go_ret
        exact ⟨intEnd HW.out.symm, bd (bd hb m) _⟩
set_option maxHeartbeats 400000 in
theorem sOnLoop_c (A : Option Addr) (n c : Nat) (xs : List Int) (t : Int) (w : World) (h : Rd w w.heap.size A n c xs) :
    Calls Try.prog 83 #[.slice A n c, .int .i64 t] w fun e w' => e = .returned (.bool (tailI xs t == 0)) ∧ Below w.heap.size w w' := by
  go_enter Try.func83, Try.ntmps83
  go_wp2_with (go_at_call 78; refine (sTailOf_c _ _ _ _ _ _ h).mono ?_; rintro e w' ⟨rfl, hb⟩)
  go_ret
  exact ⟨rfl, hb⟩
end Go.Proofs.Ytlbiioncpeondaa
