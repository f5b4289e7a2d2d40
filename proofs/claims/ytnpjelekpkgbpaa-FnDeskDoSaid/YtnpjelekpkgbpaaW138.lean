/- Walk: SameShape (impl). -/
import Derived.Test.YtnpjelekpkgbpaaW137
namespace Go.Proofs.Ytnpjelekpkgbpaa
set_option linter.unusedVariables false
open Go.RowKit

theorem sameShape_c {f g : List Nat} (hf : MapN f) (hg : MapN g) (he : shapeT f = shapeT g) (A A2 : Option Addr) (c c2 : Nat) (w : World) (h : Rd w w.heap.size A f.length c (ints f)) (h2 : Rd w w.heap.size A2 g.length c2 (ints g)) :
    Calls Try.prog 30 #[.slice A f.length c, .slice A2 g.length c2] w fun e w' => e = .returned (.bool true) ∧ Below w.heap.size w w' := by
  have K1 := mapOk_c A f.length c (ints f) w h
  have K2 := mapOk_c A2 g.length c2 (ints g) w h2
  rw [mapOk_ints hf] at K1
  rw [mapOk_ints hg] at K2
  go_enter Try.func30, Try.ntmps30
  go_wp2_with fail
  refine K1.mono ?_
  rintro e w1 ⟨rfl, rfl⟩
  go_wp2_with fail
  refine K2.mono ?_
  rintro e w1 ⟨rfl, rfl⟩
  clear K1 K2
  go_wp2_with fail
  refine (shapeText_c hf A c _ h).mono ?_
  rintro e w2 ⟨rfl, hb2⟩
  rw [he]
  have h3 := h2.up hb2
  clear h h2
  go_wp2_with fail
  refine (shapeText_c hg A2 c2 _ h3).mono ?_
  rintro e w3 ⟨rfl, hb3⟩
  have hB := bt hb2 hb3
  go_wp2_with fail
  go_ret
  exact ⟨rfl, hB⟩
/-- behind other names the shape is the same -/
theorem shape_nam {f p : List Nat} (hf : MapN f) (hp : MapN p) (hl : f.length = p.length) (ht : turned p = true) : shapeT (behN (behN (backN p) f) p) = shapeT f := shape_named hf hp hl ht
end Go.Proofs.Ytnpjelekpkgbpaa
