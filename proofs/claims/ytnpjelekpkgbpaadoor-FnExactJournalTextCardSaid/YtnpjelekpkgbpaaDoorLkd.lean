/- The frame's words for an argument that is a desk by value. -/
import Derived.Test.YtnpjelekpkgbpaaDoorLk
import Derived.Test.YtnpjelekpkgbpaaDoorV5
import Derived.Deep.Matrix
import Derived.Lib.SmallJoins
namespace Go.Proofs.YtnpjelekpkgbpaaDoor
open Go.ChangeShapes Go.WideShapes Go.ChangeAt Go.RowKit Go.Joins
set_option linter.unusedVariables false

theorem rd_of_cells {H : Type} {enc : TypeId × Value → H} {W : World} {c0 : Value} {y : DataW H × List MemPlace} {fuel : Nat} {held : Bool}
    (h : DataW.trod enc Tryd.prog W 0 (fun _ => true) held fuel 49 [c0] = some y) : ∃ A n c xs, c0 = .slice A n c ∧ Rd W W.heap.size A n c xs := by
  rcases open_ints Tryd.underlying49 Tryd.underlying3 (by kernel_rfl) h with ⟨hcs, _⟩ | ⟨x, l, c, zs, hcs, _⟩
  · obtain rfl : c0 = .slice none 0 0 := by simpa using hcs
    exact ⟨none, 0, 0, [], rfl, Rd.nil_ _ _⟩
  · obtain rfl : c0 = .slice (some x) l c := by simpa using hcs
    obtain ⟨xs, hx⟩ := rd_of_trod (held := held) (a := some x) (len := l) (cap := c) (d := y.1) (p := y.2) ⟨fuel, by simpa [Value.cells] using h⟩
    exact ⟨_, _, _, xs, rfl, hx⟩
end Go.Proofs.YtnpjelekpkgbpaaDoor
