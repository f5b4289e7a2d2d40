/- Walks: LoopOf (spec). -/
import Derived.Test.YtlbiioncpeondaaW35
namespace Go.Proofs.Ytlbiioncpeondaa
set_option linter.unusedVariables false
open Go.RowKit

def bst (f : List Nat) (k j : Nat) : Int := if j ≤ tl f k then -1 else (loGo f k (tl f k) (j - tl f k) : Int)
theorem bst_lo {f : List Nat} {k j : Nat} (h : j ≤ tl f k) : bst f k j = -1 := by unfold bst; rw [if_pos h]
theorem bst_at (f : List Nat) (k : Nat) : bst f k (tl f k + 1) = (it f (tl f k) k : Int) := by
  unfold bst; rw [if_neg (by omega), show tl f k + 1 - tl f k = 1 by omega]; simp [loGo]
theorem bst_hi {f : List Nat} {k j : Nat} (h : tl f k < j) : bst f k j = (loGo f k (tl f k) (j - tl f k) : Int) := by unfold bst; rw [if_neg (by omega)]
theorem bst_next {f : List Nat} {k j : Nat} (h : tl f k < j) : bst f k (j + 1) = (min (loGo f k (tl f k) (j - tl f k)) (it f j k) : Nat) := by
  rw [bst_hi (by omega), show j + 1 - tl f k = (j - tl f k) + 1 by omega, loGo, show tl f k + (j - tl f k) = j by omega]
set_option maxRecDepth 100000 in
set_option maxHeartbeats 800000 in
theorem sLoopOf_c (A : Option Addr) (n c : Nat) (xs : List Int) (t : Int) (w : World) (h : Rd w w.heap.size A n c xs) :
    Calls Try.prog 43 #[.slice A n c, .int .i64 t] w fun e w' => e = .returned (.int .i64 (loopI xs t)) ∧ Below w.heap.size w w' := by
  rcases hs : atOk xs t with _ | _
  · have HW := Lib.hid (loopI_no hs)
    have hwi := wayI_no hs
    go_enter Try.func43, Try.ntmps43
    go_wp2_with fail
    refine (sWayFrom_c _ _ _ _ _ _ h).mono ?_
    rintro e w1 ⟨v, rfl, hO, hb⟩
    rw [hwi] at hO
    obtain ⟨A1, c1, rfl, hO1⟩ := hO.form
    go_wp2_with fail
    go_loopw [6, 7] (fun b i wr => b = .int .i64 (-1) ∧ i = .int .i64 0 ∧ wr = w1) (fun _ i _ => 0)
    case atStart => exact ⟨rfl, rfl, rfl⟩
    case round =>
      obtain ⟨rfl, rfl, rfl⟩ := hrel
      go_wp2_with fail
      go_ret
      exact ⟨intEnd HW.out.symm, hb⟩
  · obtain ⟨f, k, rfl, rfl, hf, hk⟩ := atOk_ex hs
    obtain rfl : n = f.length := by rw [← h.len, ints_len]
    have HW := Lib.hid (loopI_ok hf hk)
    have hti := tailI_ok hf hk
    have hwi := wayI_ok hf hk
    have hlw : (ints (way f k)).length = wl f k := by rw [ints_len, way, orb_len]
    have htl1 := (tl_is hf hk).1
    have hwl := wl_le hf hk
    have h7 := hf.le7
    have hg : ∀ j, j < wl f k → gI (ints (way f k)) j = (it f j k : Int) := fun j hj => by
      rw [gI_ints, nx_get (by rw [way, orb_len]; exact hj)]; simp only [way]; rw [orb_get]
    have HG := Lib.hid hg
    clear hg
    go_enter Try.func43, Try.ntmps43
    go_wp2_with fail
    refine (sWayFrom_c _ _ _ _ _ _ h).mono ?_
    rintro e w1 ⟨v, rfl, hO, hb⟩
    rw [hwi] at hO
    obtain ⟨g, c1, rfl, hr⟩ := hO.some_ (by omega)
    rw [hlw] at hr ⊢
    have hrd := h.up hb
    have hcp := hr.cap
    have hmx := hr.max
    unfold maxLen at hmx
    clear hO hwi
    go_wp2_with fail
    go_loopw [6, 7] (fun b i wr => ∃ j : Nat, j ≤ wl f k ∧ i = .int .i64 j ∧ b = .int .i64 (bst f k j) ∧ Below w1.heap.size w1 wr) (fun _ i _ => wl f k - (intOf i).toNat)
    case atStart => exact ⟨0, Nat.zero_le _, rfl, by rw [bst_lo (Nat.zero_le _)], Below.refl _ _⟩
    case round =>
      obtain ⟨j, hj, rfl, rfl, hbw⟩ := hrel
      by_cases hjw : j < wl f k
      · have hrd2 := hrd.up hbw
        have hr2 := hr.up hbw
        go_wp2_with fail
        refine (sTailOf_c _ _ _ _ _ _ hrd2).mono ?_
        rintro e w2 ⟨rfl, hb2⟩
        rw [hti]
        obtain ⟨g', off', heq, hgb, hcell⟩ := (hr2.up hb2).2.2.2 (by omega)
        cases heq
        have hcj := hcell j hjw
        rw [HG.out j hjw, Nat.zero_add] at hcj
        have hbw2 := bt hbw hb2
        clear hcell hbw hb2 hrd2 hr2
        rcases Nat.lt_trichotomy j (tl f k) with h1 | h1 | h1
        · have hn1 := bst_lo (f := f) (k := k) (j := j) (by omega)
          have HN := Lib.hid (bst_lo (f := f) (k := k) (j := j + 1) (by omega))
          have hq : ¬ ((tl f k : Int) ≤ (j : Int)) := by omega
          rw [hn1]
          go_wp2_with fail
          go_roundw
          case rel => exact ⟨j + 1, by omega, by go_num, by rw [HN.out], hbw2⟩
          case measure => simp [intOf]; omega
        · have hn1 := bst_lo (f := f) (k := k) (j := j) (by omega)
          have HN : Hid (bst f k (j + 1) = (it f j k : Int)) := by unfold Hid; rw [h1]; exact bst_at f k
          have hq : (tl f k : Int) ≤ (j : Int) := by omega
          rw [hn1]
          clear h1
          go_wp2_with fail
          go_roundw
          case rel => exact ⟨j + 1, by omega, by go_num, by rw [HN.out], hbw2⟩
          case measure => simp [intOf]; omega
        · have hn1 := bst_hi h1
          have HN := Lib.hid (bst_next h1)
          have hq : (tl f k : Int) ≤ (j : Int) := by omega
          rw [hn1]
          generalize loGo f k (tl f k) (j - tl f k) = B at HN
          have hB0 : ¬ ((B : Int) < 0) := by omega
          by_cases hlt : it f j k < B
          · have HE : Hid (bst f k (j + 1) = (it f j k : Int)) := by unfold Hid; rw [HN.out]; omega
            have hlt2 : (it f j k : Int) < (B : Int) := by omega
            go_wp2_with fail
            go_roundw
            case rel => exact ⟨j + 1, by omega, by go_num, by rw [HE.out], hbw2⟩
            case measure => simp [intOf]; omega
          · have HE : Hid (bst f k (j + 1) = (B : Int)) := by unfold Hid; rw [HN.out]; omega
            have hlt2 : ¬ ((it f j k : Int) < (B : Int)) := by omega
            go_wp2_with fail
            go_roundw
            case rel => exact ⟨j + 1, by omega, by go_num, by rw [HE.out], hbw2⟩
            case measure => simp [intOf]; omega
      · obtain rfl : j = wl f k := by omega
        have HB := Lib.hid (bst_hi htl1)
        go_wp2_with fail
        go_ret
        exact ⟨intEnd (by rw [HB.out, HW.out]; rfl), bt hb hbw⟩
end Go.Proofs.Ytlbiioncpeondaa
