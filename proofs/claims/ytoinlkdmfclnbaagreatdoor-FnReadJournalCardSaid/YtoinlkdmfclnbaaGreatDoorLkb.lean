/- The frame's words for an argument that is a slice of bytes. -/
import Derived.Test.YtoinlkdmfclnbaaGreatDoorLk
import Derived.Test.YtoinlkdmfclnbaaGreatDoorQ
namespace Go.Proofs.YtoinlkdmfclnbaaGreatDoor
open Go.ChangeShapes Go.WideShapes Go.ChangeAt Go.RowKit
set_option linter.unusedVariables false

/-- A slice of bytes that came in, as a list. -/
theorem rdb_of_trod {H : Type} {enc : TypeId × Value → H} {W : World} {a : Option Addr} {len cap : Nat} {d : DataW H} {p : List MemPlace} {held : Bool}
    (h : DataW.Trod enc Tryz.prog W 0 (fun _ => true) held 22 (.slice a len cap) d p) : ∃ bs, RdB W W.heap.size a len cap bs := by
  obtain ⟨fuel, hf⟩ := h
  rcases open_ints Tryz.underlying22 Tryz.underlying5 (by kernel_rfl) hf with ⟨hcs, _⟩ | ⟨x, l, c, zs, hcs, _, hl, hm, hz, _, hcell, hwz⟩
  · simp [Value.cells] at hcs
    obtain ⟨rfl, rfl, rfl⟩ := hcs
    exact ⟨[], rfl, Nat.le_refl _, Nat.zero_le _, (fun b hb => by cases hb), fun h => absurd h (by omega)⟩
  · simp [Value.cells] at hcs
    obtain ⟨rfl, rfl, rfl⟩ := hcs
    have hz' : zs.length = cap := by simpa using hz
    have hb8 : ∀ z ∈ zs, 0 ≤ z ∧ z < 256 := fun z hz => by
      have := bounds_u8 (hwz z hz)
      omega
    refine ⟨(zs.take len).map Int.toNat, by rw [List.length_map, List.length_take]; omega, hl, hm, fun b hb => ?_, fun hn => ?_⟩
    · rw [List.mem_map] at hb
      obtain ⟨z, hz, rfl⟩ := hb
      have := hb8 z (List.mem_of_mem_take hz)
      omega
    obtain ⟨b, off, spot⟩ := x
    have hc := hcell 0 (by omega)
    have hspot : spot = none := by simpa [Addr.add] using World.cell?_spot hc
    subst hspot
    have hb : b < W.heap.size := by
      have := World.block_lt_of_cell? W _ hc
      simpa [Addr.add] using this
    refine ⟨b, off, rfl, hb, fun k hk => ?_⟩
    have hck := hcell k (by omega)
    rw [Addr.add_lit] at hck
    rw [hck]
    have e1 : k < (zs.take len).length := by rw [List.length_take]; omega
    have e2 : k < zs.length := by omega
    have h8 := hb8 zs[k] (List.getElem_mem e2)
    simp [nx, List.getD, hk, List.getElem?_eq_getElem e2]
    omega
end Go.Proofs.YtoinlkdmfclnbaaGreatDoor
