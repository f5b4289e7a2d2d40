/- Walks: TailOf, OnLoop, LoopOf, LoopsOf (spec), TreeOk (impl and spec). Printed by gen_w35.py. · Walks: LoopOf (spec). · Walks: LoopsOf, TreeOk (spec). Printed by gen_w37.py. · Walks: the exact laws over one number or one truth. Printed by gen_w5.py. · Walks: RootOf (impl and spec); the law FnExactRootOf (walk). Printed by gen_w39.py. -/
import Derived.Test.YtnpjelekpkgbpaaV6
import Derived.Test.YtnpjelekpkgbpaaV5
import Derived.Test.YtnpjelekpkgbpaaV1
import Derived.Test.YtnpjelekpkgbpaaP
namespace Go.Proofs.Ytnpjelekpkgbpaa
set_option linter.unusedVariables false
open Go.RowKit

def treeOkI (xs : List Int) : Bool := decide ((loopsI xs).length = 1 ∧ (gR (loopsI xs) 0).length = 1)
end Go.Proofs.Ytnpjelekpkgbpaa
namespace Go.Proofs.Ytnpjelekpkgbpaa
set_option linter.unusedVariables false
open Go.RowKit

def bst (f : List Nat) (k j : Nat) : Int := if j ≤ tl f k then -1 else (loGo f k (tl f k) (j - tl f k) : Int)
theorem bst_lo {f : List Nat} {k j : Nat} (h : j ≤ tl f k) : bst f k j = -1 := by unfold bst; rw [if_pos h]
theorem bst_at (f : List Nat) (k : Nat) : bst f k (tl f k + 1) = (it f (tl f k) k : Int) := by
  unfold bst; rw [if_neg (by omega), show tl f k + 1 - tl f k = 1 by omega]; simp [loGo]
theorem bst_hi {f : List Nat} {k j : Nat} (h : tl f k < j) : bst f k j = (loGo f k (tl f k) (j - tl f k) : Int) := by unfold bst; rw [if_neg (by omega)]
theorem bst_next {f : List Nat} {k j : Nat} (h : tl f k < j) : bst f k (j + 1) = (min (loGo f k (tl f k) (j - tl f k)) (it f j k) : Nat) := by
  rw [bst_hi (by omega), show j + 1 - tl f k = (j - tl f k) + 1 by omega, loGo, show tl f k + (j - tl f k) = j by omega]
end Go.Proofs.Ytnpjelekpkgbpaa
namespace Go.Proofs.Ytnpjelekpkgbpaa
set_option linter.unusedVariables false
open Go.RowKit

end Go.Proofs.Ytnpjelekpkgbpaa
namespace Go.Proofs.Ytnpjelekpkgbpaa
set_option linter.unusedVariables false
open Go.RowKit

end Go.Proofs.Ytnpjelekpkgbpaa
namespace Go.Proofs.Ytnpjelekpkgbpaa
set_option linter.unusedVariables false
open Go.RowKit

def rootI (xs : List Int) : Int := if treeOkI xs then loopI xs 0 else -1
theorem rootI_no {xs : List Int} (h : treeOkI xs = false) : rootI xs = -1 := by unfold rootI; rw [h]; simp
theorem rootI_yes {xs : List Int} (h : treeOkI xs = true) : rootI xs = loopI xs 0 := by unfold rootI; rw [h]; simp
theorem tree_ex {xs : List Int} (h : treeOkI xs = true) : ∃ f, xs = ints f ∧ MapN f ∧ (loopsN f).length = 1 ∧ ((loopsN f).getD 0 []).length = 1 := by
  unfold treeOkI at h
  simp only [decide_eq_true_eq] at h
  rcases hm : mapOk xs with _ | _
  · rw [loopsI_no hm] at h; simp at h
  · obtain ⟨f, rfl, hf⟩ := mapOk_ex hm
    rw [loopsI_ok hf] at h
    exact ⟨f, rfl, hf, h.1, h.2⟩
end Go.Proofs.Ytnpjelekpkgbpaa
