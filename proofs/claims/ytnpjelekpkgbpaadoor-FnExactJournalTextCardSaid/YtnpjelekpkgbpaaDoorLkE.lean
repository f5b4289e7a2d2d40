/- The frame's words for an argument that is a row of deeds. -/
import Derived.Test.YtnpjelekpkgbpaaDoorLke
import Derived.Test.YtnpjelekpkgbpaaDoorV14
import Derived.Deep.Slices
namespace Go.Proofs.YtnpjelekpkgbpaaDoor
open Go.ChangeShapes Go.WideShapes Go.ChangeAt Go.RowKit Go.Joins
set_option linter.unusedVariables false
set_option maxRecDepth 100000 in
theorem deed_of_cells {H : Type} {enc : TypeId × Value → H} {W : World} {cs : List Value} {x : DataW H × List MemPlace} {fuel : Nat} {held : Bool}
    (h : DataW.trod enc Tryd.prog W 0 (fun _ => true) held fuel 23 cs = some x) : ∃ d : Dd, cs = [.int .i64 d.1, .int .i64 d.2.1, .int .i64 d.2.2.1, .string d.2.2.2] ∧ d.2.2.2.size ≤ maxLen := by
  obtain ⟨y0, y1, y2, y3, n, _, hl, h0, h1, h2, h3⟩ := trod_struct4 Tryd.underlying23 h
  have hC : Tryd.prog.cellsOf 23 = 4 := by kernel_rfl
  have hI : Tryd.prog.cellsOf 3 = 1 := by kernel_rfl
  have hS : Tryd.prog.cellsOf 9 = 1 := by kernel_rfl
  rw [hC] at hl
  match cs, hl with
  | [c0, c1, c2, c3], _ =>
    simp only [hI, hS, List.drop_zero, List.drop_succ_cons, List.take_succ_cons, List.take_zero] at h0 h1 h2 h3
    obtain ⟨n0, e0, _, _⟩ := DataW.trod_int Tryd.underlying3 h0
    obtain ⟨n1, e1, _, _⟩ := DataW.trod_int Tryd.underlying3 h1
    obtain ⟨n2, e2, _, _⟩ := DataW.trod_int Tryd.underlying3 h2
    obtain ⟨s, e3, _, hs⟩ := DataW.trod_string Tryd.underlying9 h3
    simp only [List.cons.injEq, and_true] at e0 e1 e2 e3
    subst e0 e1 e2 e3
    exact ⟨(n0, n1, n2, s), rfl, hs⟩
theorem rde_of_trod {H : Type} {enc : TypeId × Value → H} {W : World} {a : Option Addr} {len cap : Nat} {d : DataW H} {p : List MemPlace} {held : Bool}
    (h : DataW.Trod enc Tryd.prog W 0 (fun _ => true) held 29 (.slice a len cap) d p) : ∃ ds, RdE W W.heap.size a len cap ds ∧ ∀ k, k < len → (dS ds k).size ≤ maxLen := by
  obtain ⟨fuel, hf⟩ := h
  rcases Go.Deep.open_slice Tryd.underlying29 hf with ⟨hcs, _⟩ | ⟨x, l, c, m, n, D, Pl, hcs, _, hl, hm, hmm, _, hi⟩
  · simp [Value.cells] at hcs
    obtain ⟨rfl, rfl, rfl⟩ := hcs
    exact ⟨[], RdE.nil_ _ _, fun k hk => absurd hk (Nat.not_lt_zero _)⟩
  · simp [Value.cells] at hcs
    obtain ⟨rfl, rfl, rfl⟩ := hcs
    have hC : Tryd.prog.cellsOf 23 = 4 := by kernel_rfl
    rw [hC] at hi
    simp only [if_true] at hmm
    subst hmm
    have hch : ∀ i, ∃ d : Dd, i < m → (W.cell? ((x.add (i * 4)).add 0) = some (.int .i64 d.1) ∧ W.cell? ((x.add (i * 4)).add 1) = some (.int .i64 d.2.1) ∧ W.cell? ((x.add (i * 4)).add 2) = some (.int .i64 d.2.2.1) ∧ W.cell? ((x.add (i * 4)).add 3) = some (.string d.2.2.2)) ∧ d.2.2.2.size ≤ maxLen := fun i => by
      by_cases him : i < m
      · obtain ⟨cs', hc, ht⟩ := hi i him
        obtain ⟨d, rfl, hs⟩ := deed_of_cells ht
        obtain ⟨_, _, hat⟩ := World.cells?_some hc
        exact ⟨d, fun _ => ⟨⟨hat 0 (by omega), hat 1 (by omega), hat 2 (by omega), hat 3 (by omega)⟩, hs⟩⟩
      · exact ⟨dZ, fun h => absurd h him⟩
    obtain ⟨f, hfs⟩ : ∃ f : Nat → Dd, ∀ i, i < m → (W.cell? ((x.add (i * 4)).add 0) = some (.int .i64 (f i).1) ∧ W.cell? ((x.add (i * 4)).add 1) = some (.int .i64 (f i).2.1) ∧ W.cell? ((x.add (i * 4)).add 2) = some (.int .i64 (f i).2.2.1) ∧ W.cell? ((x.add (i * 4)).add 3) = some (.string (f i).2.2.2)) ∧ (f i).2.2.2.size ≤ maxLen :=
      ⟨fun i => Classical.choose (hch i), fun i => Classical.choose_spec (hch i)⟩
    clear hch hi
    have hg : ∀ k, k < len → dG ((List.range len).map f) k = f k := fun k hk => by
      rw [dG_get (by simpa using hk)]; simp
    refine ⟨(List.range len).map f, ⟨by simp, hl, hm, fun hn => ?_⟩, fun k hk => ?_⟩
    · obtain ⟨b, off, spot⟩ := x
      have hc := (hfs 0 (by omega)).1.1
      have hspot : spot = none := by simpa [Addr.add] using World.cell?_spot hc
      subst hspot
      have hb : b < W.heap.size := by
        have := World.block_lt_of_cell? W _ hc
        simpa [Addr.add] using this
      refine ⟨b, off, rfl, hb, fun k hk => ?_⟩
      obtain ⟨h1, h2, h3, h4⟩ := (hfs k (by omega)).1
      unfold dK dA dB dS
      rw [hg k hk]
      rw [Addr.add_lit, Addr.add_lit] at h1 h2 h3 h4
      rw [Nat.add_zero] at h1
      exact ⟨h1, h2, h3, h4⟩
    · unfold dS
      rw [hg k hk]
      exact (hfs k (by omega)).2
end Go.Proofs.YtnpjelekpkgbpaaDoor
