/- The frame's words for an argument that is a desk by value. -/
import Derived.Test.YtnpjelekpkgbpaaLk
import Derived.Test.YtnpjelekpkgbpaaV5
import Derived.Deep.Matrix
import Derived.Lib.SmallJoins
namespace Go.Proofs.Ytnpjelekpkgbpaa
open Go.ChangeShapes Go.WideShapes Go.ChangeAt Go.RowKit Go.Joins
set_option linter.unusedVariables false

theorem rd_of_cells {H : Type} {enc : TypeId × Value → H} {W : World} {c0 : Value} {y : DataW H × List MemPlace} {fuel : Nat} {held : Bool}
    (h : DataW.trod enc Try.prog W 0 (fun _ => true) held fuel 22 [c0] = some y) : ∃ A n c xs, c0 = .slice A n c ∧ Rd W W.heap.size A n c xs := by
  rcases open_ints Try.underlying22 Try.underlying3 (by kernel_rfl) h with ⟨hcs, _⟩ | ⟨x, l, c, zs, hcs, _⟩
  · obtain rfl : c0 = .slice none 0 0 := by simpa using hcs
    exact ⟨none, 0, 0, [], rfl, Rd.nil_ _ _⟩
  · obtain rfl : c0 = .slice (some x) l c := by simpa using hcs
    obtain ⟨xs, hx⟩ := rd_of_trod (held := held) (a := some x) (len := l) (cap := c) (d := y.1) (p := y.2) ⟨fuel, by simpa [Value.cells] using h⟩
    exact ⟨_, _, _, xs, rfl, hx⟩
theorem rdr_of_cells {H : Type} {enc : TypeId × Value → H} {W : World} {c0 : Value} {y : DataW H × List MemPlace} {fuel : Nat} {held : Bool}
    (h : DataW.trod enc Try.prog W 0 (fun _ => true) held fuel 23 [c0] = some y) : ∃ A n c xss, c0 = .slice A n c ∧ RdR W W.heap.size A n c xss := by
  rcases Go.Deep.open_int_rows Try.underlying23 Try.underlying22 Try.underlying3 (by kernel_rfl) (by kernel_rfl) h with ⟨hcs, _⟩ | ⟨x, l, c, A, L, C, Z, hcs, _, hl, hm, _, hr⟩
  · obtain rfl : c0 = .slice none 0 0 := by simpa using hcs
    exact ⟨none, 0, 0, [], rfl, RdR.nil_ _ _⟩
  · obtain rfl : c0 = .slice (some x) l c := by simpa using hcs
    refine ⟨_, _, _, (List.range l).map (fun r => (Z r).take (L r)), rfl, by simp, hl, hm, fun hn => ?_⟩
    obtain ⟨b, off, spot⟩ := x
    have hc := (hr 0 (by omega)).1
    have hspot : spot = none := by simpa [Addr.add] using World.cell?_spot hc
    subst hspot
    have hb : b < W.heap.size := by
      have := World.block_lt_of_cell? W _ hc
      simpa [Addr.add] using this
    refine ⟨b, off, rfl, hb, fun k hk => ?_⟩
    obtain ⟨h1, h2, h3, h4, _, h6, h7⟩ := hr k (by omega)
    rw [Addr.add_lit] at h1
    have hg : gR ((List.range l).map (fun r => (Z r).take (L r))) k = (Z k).take (L k) := by
      rw [gR_get (by simpa using hk)]; simp
    refine ⟨A k, L k, C k, h1, ?_⟩
    rw [hg]
    refine ⟨by rw [List.length_take]; omega, h2, h3, fun hp => ?_⟩
    rcases hA : A k with _ | ⟨b', off', spot'⟩
    · have := h6 hA; omega
    · have h8 := (h7 _ hA).2
      have hc' := h8 0 (by omega)
      have hspot' : spot' = none := by simpa [Addr.add] using World.cell?_spot hc'
      subst hspot'
      have hb' : b' < W.heap.size := by
        have := World.block_lt_of_cell? W _ hc'
        simpa [Addr.add] using this
      refine ⟨b', off', rfl, hb', fun j hj => ?_⟩
      have hck := h8 j (by omega)
      rw [Addr.add_lit] at hck
      rw [hck]
      simp [gI, List.getD, hj]
set_option maxRecDepth 100000 in
/-- A desk that came in. -/
theorem rdd_of_trod {H : Type} {enc : TypeId × Value → H} {W : World} {v : Value} {d : DataW H} {p : List MemPlace} {held : Bool} {base : Nat}
    (hval : Value.okWide Try.prog W .any base 25 v) (h : DataW.Trod enc Try.prog W 0 (fun _ => true) held 25 v d p) :
    ∃ A n c P m k xs yss, v = .agg #[.slice A n c, .slice P m k] ∧ RdD W W.heap.size A n c xs P m k yss := by
  obtain ⟨c0, c1, y0, y1, m, rfl, _, _, hy0, hy1⟩ := open_agg2 Try.underlying25 (by kernel_rfl) (by kernel_rfl) hval h
  obtain ⟨A, n, c, xs, rfl, h1⟩ := rd_of_cells hy0
  obtain ⟨P, m', k, yss, rfl, h2⟩ := rdr_of_cells hy1
  exact ⟨_, _, _, _, _, _, xs, yss, rfl, h1, h2⟩
end Go.Proofs.Ytnpjelekpkgbpaa
