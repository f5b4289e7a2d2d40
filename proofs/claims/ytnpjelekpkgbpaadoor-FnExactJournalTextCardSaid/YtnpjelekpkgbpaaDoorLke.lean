/- The frame's words for an argument that is a deed by value. -/
import Derived.Test.YtnpjelekpkgbpaaDoorLkd
import Derived.ChangeArms
namespace Go.Proofs.YtnpjelekpkgbpaaDoor
open Go.ChangeShapes Go.WideShapes Go.ChangeAt Go.RowKit Go.Joins
set_option linter.unusedVariables false
set_option maxRecDepth 100000 in
theorem deed_of_trod {H : Type} {enc : TypeId × Value → H} {W : World} {v : Value} {d : DataW H} {p : List MemPlace} {held : Bool} {base : Nat}
    (hval : Value.okWide Tryd.prog W .any base 23 v) (h : DataW.Trod enc Tryd.prog W 0 (fun _ => true) held 23 v d p) :
    ∃ (kd a b : Int) (s : ByteArray), v = .agg #[.int .i64 kd, .int .i64 a, .int .i64 b, .string s] ∧ s.size ≤ maxLen := by
  obtain ⟨c0, c1, c2, c3, y0, y1, y2, y3, m, rfl, _, _, hy0, hy1, hy2, hy3⟩ := open_agg4 Tryd.underlying23 (by kernel_rfl) (by kernel_rfl) hval h
  obtain ⟨n0, e0, _, _⟩ := DataW.trod_int Tryd.underlying3 hy0
  obtain ⟨n1, e1, _, _⟩ := DataW.trod_int Tryd.underlying3 hy1
  obtain ⟨n2, e2, _, _⟩ := DataW.trod_int Tryd.underlying3 hy2
  obtain ⟨s, e3, _, hs⟩ := DataW.trod_string Tryd.underlying9 hy3
  simp only [List.cons.injEq, and_true] at e0 e1 e2 e3
  subst e0 e1 e2 e3
  exact ⟨n0, n1, n2, s, rfl, hs⟩
end Go.Proofs.YtnpjelekpkgbpaaDoor
