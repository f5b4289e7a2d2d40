/- The frame that all laws of this seat share: an argument that is a slice of integers, opened. -/
import Derived.Test.YtoinlkdmfclnbaaGreatDoorRows
import Derived.Test.YtoinlkdmfclnbaaGreatDoorP
import Derived.WalkKit
import Derived.ProofKit
import Derived.OpenShut
import Derived.ShutString
import Derived.ChangeOld
import Derived.Below
namespace Go.Proofs.YtoinlkdmfclnbaaGreatDoor
open Go.ChangeShapes Go.WideShapes Go.ChangeAt Go.RowKit
open Go.ChangeMaps (open_string shut_string)

theorem own : ownKnob Tryz.prog.godebug = none := by kernel_rfl
theorem laidOut : laidOutB Tryz.prog = true := by kernel_rfl

/-- A slice of integers that came in, as a list. -/
theorem rd_of_trod {H : Type} {enc : TypeId × Value → H} {W : World} {a : Option Addr} {len cap : Nat} {d : DataW H} {p : List MemPlace} {held : Bool}
    (h : DataW.Trod enc Tryz.prog W 0 (fun _ => true) held 23 (.slice a len cap) d p) : ∃ xs, Rd W W.heap.size a len cap xs := by
  obtain ⟨fuel, hf⟩ := h
  rcases open_ints Tryz.underlying23 Tryz.underlying3 (by kernel_rfl) hf with ⟨hcs, _⟩ | ⟨x, l, c, zs, hcs, _, hl, hm, hz, _, hcell, hwz⟩
  · simp [Value.cells] at hcs
    obtain ⟨rfl, rfl, rfl⟩ := hcs
    exact ⟨[], Rd.nil_ _ _⟩
  · simp [Value.cells] at hcs
    obtain ⟨rfl, rfl, rfl⟩ := hcs
    have hz' : zs.length = cap := by simpa using hz
    refine ⟨zs.take len, by rw [List.length_take]; omega, hl, hm, fun hn => ?_⟩
    obtain ⟨b, off, spot⟩ := x
    have hc := hcell 0 (by omega)
    have hspot : spot = none := by simpa [Addr.add] using World.cell?_spot hc
    subst hspot
    have hb : b < W.heap.size := by
      have := World.block_lt_of_cell? W _ hc
      simpa [Addr.add] using this
    refine ⟨b, off, rfl, hb, fun k hk => ?_⟩
    have hck := hcell k (by omega)
    rw [Addr.add_lit] at hck
    rw [hck]
    have e1 : k < (zs.take len).length := by rw [List.length_take]; omega
    simp [gI, List.getD, hk]
end Go.Proofs.YtoinlkdmfclnbaaGreatDoor
