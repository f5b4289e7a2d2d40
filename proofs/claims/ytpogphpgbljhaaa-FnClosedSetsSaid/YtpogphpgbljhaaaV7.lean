/- Walks: TailOf, OnLoop, LoopOf, LoopsOf (spec), TreeOk (impl and spec). Printed by gen_w35.py. · Walks: LoopOf (spec). · Walks: LoopsOf, TreeOk (spec). Printed by gen_w37.py. · Walks: the exact laws over one number or one truth. Printed by gen_w5.py. · Walks: RootOf (impl and spec); the law FnExactRootOf (walk). Printed by gen_w39.py. -/
import Derived.Test.YtpogphpgbljhaaaV6
import Derived.Test.YtpogphpgbljhaaaV5
import Derived.Test.YtpogphpgbljhaaaV1
import Derived.Test.YtpogphpgbljhaaaP
namespace Go.Proofs.Ytpogphpgbljhaaa
set_option linter.unusedVariables false
open Go.RowKit

def treeOkI (xs : List Int) : Bool := decide ((loopsI xs).length = 1 ∧ (gR (loopsI xs) 0).length = 1)
set_option maxHeartbeats 800000 in
theorem sWayFrom_c (A : Option Addr) (n c : Nat) (xs : List Int) (t : Int) (w : World) (h : Rd w w.heap.size A n c xs) :
    Calls Try.prog 21 #[.slice A n c, .int .i64 t] w (Way xs t w) := by
  rcases hs : atOk xs t with _ | _
  · have HW := Lib.hid (wayI_no hs)
    have hl := h.len
    have hB0 : Below w.heap.size w (w.alloc (Obj.cells #[] 3)) := (Below.refl _ _).alloc (Nat.le_refl _) _
    have hO0 := OwnV.made w w.heap.size #[] (Nat.le_refl _) rfl
    have h0 := h.up hB0
    rcases hm : mapOk xs with _ | _
    · go_enter Try.func21, Try.ntmps21
      go_wp2_with (go_at_call 28; refine (sMapOk_c _ _ _ _ _ h0).mono ?_; rintro e w' ⟨rfl, rfl⟩)
      go_ret
      exact ⟨_, rfl, by rw [HW.out]; exact hO0, hB0⟩
    · have hbd := mapOk_bounds hm
      have hin : inB t 0 ((n : Int) - 1) = false := by
        rw [hasB_inB]; unfold atOk at hs; rw [hm, Bool.true_and, hl] at hs; exact hs
      go_enter Try.func21, Try.ntmps21
      go_wp2_with (first
        | (go_at_call 28; refine (sMapOk_c _ _ _ _ _ h0).mono ?_; rintro e w' ⟨rfl, rfl⟩)
        | (go_at_call 40; refine (l1In_c _ _ _ _).mono ?_; rintro e w' ⟨rfl, rfl⟩))
      go_ret
      exact ⟨_, rfl, by rw [HW.out]; exact hO0, hB0⟩
  · obtain ⟨f, k, rfl, rfl, hf, hk⟩ := atOk_ex hs
    obtain rfl : n = f.length := by rw [← h.len, ints_len]
    have HW := Lib.hid (wayI_ok hf hk)
    refine (sWayFrom_ok A c f k w h hf hk).mono ?_
    rintro e w' ⟨v, rfl, hO, hb⟩
    exact ⟨v, rfl, by rw [HW.out]; exact hO, hb⟩
end Go.Proofs.Ytpogphpgbljhaaa
namespace Go.Proofs.Ytpogphpgbljhaaa
set_option linter.unusedVariables false
open Go.RowKit

def bst (f : List Nat) (k j : Nat) : Int := if j ≤ tl f k then -1 else (loGo f k (tl f k) (j - tl f k) : Int)
theorem bst_lo {f : List Nat} {k j : Nat} (h : j ≤ tl f k) : bst f k j = -1 := by unfold bst; rw [if_pos h]
theorem bst_at (f : List Nat) (k : Nat) : bst f k (tl f k + 1) = (it f (tl f k) k : Int) := by
  unfold bst; rw [if_neg (by omega), show tl f k + 1 - tl f k = 1 by omega]; simp [loGo]
theorem bst_hi {f : List Nat} {k j : Nat} (h : tl f k < j) : bst f k j = (loGo f k (tl f k) (j - tl f k) : Int) := by unfold bst; rw [if_neg (by omega)]
theorem bst_next {f : List Nat} {k j : Nat} (h : tl f k < j) : bst f k (j + 1) = (min (loGo f k (tl f k) (j - tl f k)) (it f j k) : Nat) := by
  rw [bst_hi (by omega), show j + 1 - tl f k = (j - tl f k) + 1 by omega, loGo, show tl f k + (j - tl f k) = j by omega]
end Go.Proofs.Ytpogphpgbljhaaa
namespace Go.Proofs.Ytpogphpgbljhaaa
set_option linter.unusedVariables false
open Go.RowKit

end Go.Proofs.Ytpogphpgbljhaaa
namespace Go.Proofs.Ytpogphpgbljhaaa
set_option linter.unusedVariables false
open Go.RowKit

end Go.Proofs.Ytpogphpgbljhaaa
namespace Go.Proofs.Ytpogphpgbljhaaa
set_option linter.unusedVariables false
open Go.RowKit

def rootI (xs : List Int) : Int := if treeOkI xs then loopI xs 0 else -1
theorem rootI_no {xs : List Int} (h : treeOkI xs = false) : rootI xs = -1 := by unfold rootI; rw [h]; simp
theorem rootI_yes {xs : List Int} (h : treeOkI xs = true) : rootI xs = loopI xs 0 := by unfold rootI; rw [h]; simp
theorem tree_ex {xs : List Int} (h : treeOkI xs = true) : ∃ f, xs = ints f ∧ MapN f ∧ (loopsN f).length = 1 ∧ ((loopsN f).getD 0 []).length = 1 := by
  unfold treeOkI at h
  simp only [decide_eq_true_eq] at h
  rcases hm : mapOk xs with _ | _
  · rw [loopsI_no hm] at h; simp at h
  · obtain ⟨f, rfl, hf⟩ := mapOk_ex hm
    rw [loopsI_ok hf] at h
    exact ⟨f, rfl, hf, h.1, h.2⟩
end Go.Proofs.Ytpogphpgbljhaaa
