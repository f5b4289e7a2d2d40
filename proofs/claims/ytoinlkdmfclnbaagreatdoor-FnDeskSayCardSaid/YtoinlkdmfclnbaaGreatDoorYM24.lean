/- Bundle M24. -/
import Derived.Test.YtoinlkdmfclnbaaGreatDoorYV10
import Derived.Test.YtoinlkdmfclnbaaGreatDoorYVC
namespace Go.Proofs.YtoinlkdmfclnbaaGreatDoor
set_option linter.unusedVariables false
section
variable {xs : List Int} {yss : List (List Int)} {kd a b : Int} {s : ByteArray}
theorem doX_false (h : (doX xs yss kd a b s).2.2 = false) : ((doX xs yss kd a b s).1 = xs ∧ (doX xs yss kd a b s).2.1 = yss) ∨ deskOkB xs yss = false := by
 rcases hok : deskOkB xs yss with _ | _
 · exact .inr rfl
 · refine .inl ?_
   rcases hb : backB yss kd a b s with _ | _
   · rcases hs : stayB xs kd a b s with _ | _
     · rw [do_go hok hb hs] at h; cases h
     · rw [do_stay hok hb hs]; exact ⟨rfl, rfl⟩
   · rw [do_back hok hb] at h; cases h
end
end Go.Proofs.YtoinlkdmfclnbaaGreatDoor
