/- Walk: the law FnReadDeed. -/
import Derived.Test.YtoinlkdmfclnbaaGreatDoorW120
import Derived.Test.YtoinlkdmfclnbaaGreatDoorW121
namespace Go.Proofs.YtoinlkdmfclnbaaGreatDoor
set_option linter.unusedVariables false
open Go.RowKit

theorem rdV_cases (l : List UInt8) : (∃ kd a b x, rdV l = ((kd, a, b, x), true) ∧ dtL kd a b x = l ∧ l ≠ []) ∨ rdV l = ((0, 0, 0, []), false) := by
  cases h : (rdV l).2 with
  | true =>
    obtain ⟨h0, h1⟩ := rdV_text h
    generalize hr : rdV l = r at *
    obtain ⟨⟨kd, a, b, x⟩, ok⟩ := r
    simp only at h
    subst h
    exact .inl ⟨kd, a, b, x, rfl, h1, h0⟩
  | false =>
    right
    unfold rdV at h ⊢
    cases hw : rdW l with
    | none => rfl
    | some d =>
      obtain ⟨kd, a, b, x⟩ := d
      rw [hw] at h
      simp only at h ⊢
      split at h
      · cases h
      · rename_i h1
        rw [if_neg h1]
end Go.Proofs.YtoinlkdmfclnbaaGreatDoor
