/- A block of two cells of the call's own: what a struct of two slices in memory says. -/
import Derived.Test.YtlbiioncpeondaaApp
import Derived.Deep.RegionHeld
import Derived.Laws.ResultCell
import Derived.Laws.Rows
namespace Go.Proofs.Ytlbiioncpeondaa
set_option linter.unusedVariables false
open Go.RowKit

def Two (w : World) (g : Nat) (x y : Value) : Prop :=
  g < w.heap.size ∧ w.cell? ⟨g, 0, none⟩ = some x ∧ w.cell? ⟨g, 1, none⟩ = some y ∧ w.frozen? ⟨g, 0, none⟩ = false ∧ w.frozen? ⟨g, 1, none⟩ = false
section
variable {w w' : World} {g B : Nat} {x y : Value}
theorem Two.made (w : World) (T : TypeId) (x y : Value) : Two (w.alloc (.cells #[x, y] T)) w.heap.size x y := by
  have e := heap_alloc_new w (.cells #[x, y] T)
  refine ⟨by simp, by simp, by simp, ?_, ?_⟩
  · simp only [World.frozen?, e]; simp
  · simp only [World.frozen?, e]; simp
theorem Two.below (h : Two w g x y) (hb : Below B w w') (hg : g < B) : Two w' g x y :=
  ⟨Nat.lt_of_lt_of_le h.1 hb.size, (hb.cell (p := ⟨g, 0, none⟩) hg).trans h.2.1, (hb.cell (p := ⟨g, 1, none⟩) hg).trans h.2.2.1, (hb.frozen (p := ⟨g, 0, none⟩) hg).trans h.2.2.2.1, (hb.frozen (p := ⟨g, 1, none⟩) hg).trans h.2.2.2.2⟩
theorem Two.up (h : Two w g x y) (hb : Below w.heap.size w w') : Two w' g x y := h.below hb h.1
theorem Two.alloc (h : Two w g x y) (o : Obj) : Two (w.alloc o) g x y := h.up ((Below.refl _ _).alloc (Nat.le_refl _) o)
theorem Two.far (h : Two w g x y) {p : Addr} (hp : g ≠ p.block) (u : Value) : Two (w.setCell p u) g x y :=
  have e := Below.heap_setCell w p u g hp
  ⟨by simpa using h.1, (World.cell?_of_block (a := ⟨g, 0, none⟩) e).trans h.2.1, (World.cell?_of_block (a := ⟨g, 1, none⟩) e).trans h.2.2.1, (World.frozen?_of_block (a := ⟨g, 0, none⟩) e).trans h.2.2.2.1, (World.frozen?_of_block (a := ⟨g, 1, none⟩) e).trans h.2.2.2.2⟩
theorem Two.set0 (h : Two w g x y) (u : Value) : Two (w.setCell ⟨g, 0, none⟩ u) g u y :=
  ⟨by simpa using h.1, World.cell?_setCell_same _ _ _ h.2.1, (World.cell?_setCell_other _ _ _ _ (by simp)).trans h.2.2.1, by rw [World.frozen?_setCell]; exact h.2.2.2.1, by rw [World.frozen?_setCell]; exact h.2.2.2.2⟩
theorem Two.set1 (h : Two w g x y) (u : Value) : Two (w.setCell ⟨g, 1, none⟩ u) g x u :=
  ⟨by simpa using h.1, (World.cell?_setCell_other _ _ _ _ (by simp)).trans h.2.1, World.cell?_setCell_same _ _ _ h.2.2.1, by rw [World.frozen?_setCell]; exact h.2.2.2.1, by rw [World.frozen?_setCell]; exact h.2.2.2.2⟩
end
def isS (d : TypeDesc) : Bool := match d with | .struct _ => true | _ => false
theorem load_two {P : Program} {ty : TypeId} {w : World} {g : Nat} {x y : Value} {d : TypeDesc} (h : Two w g x y) (hu : P.underlying ty = some d) (hd : isS d = true) (hi : (P.info? ty).map (·.size) = some 2) :
    (loadVar ty ⟨g, 0, none⟩).run P w = .ok (.agg #[x, y]) w := by
  have hl : (loadCells ⟨g, 0, none⟩ [x, y].length).run P w = .ok [x, y].toArray w :=
    run_loadCells_list (P := P) w ⟨g, 0, none⟩ [x, y] (fun j v hv => by
      have hadd : (⟨g, 0, none⟩ : Addr).add j = ⟨g, j, none⟩ := by unfold Addr.add; split <;> simp_all
      rw [hadd]
      match j, hv with
      | 0, hv => simp at hv; subst hv; exact h.2.1
      | 1, hv => simp at hv; subst hv; exact h.2.2.1
      | j + 2, hv => simp at hv)
  cases hq : P.info? ty with
  | none => simp [hq] at hi
  | some i =>
    have hs : i.size = 2 := by simpa [hq] using hi
    have hagg : (isAgg ty).run P w = .ok true w := by
      unfold isAgg
      rw [Sem.run_bind, run_underlying hu w]
      cases d <;> simp_all [isS]
    simp only [List.length_cons, List.length_nil] at hl
    simp [loadVar, Sem.run_bind, hagg, sizeOf, typeInfo, hq, hs, hl]
/-- A result that lies in a block of two cells. -/
theorem results_two {fn : Func} {p : Tmp} {ty : TypeId} {P : Program} (h : fn.results = #[.cell p ty]) (tmps : Array Value) (w : World) (g : Nat) (x y : Value) (d : TypeDesc)
    (hp : tmps.getD p undef = .pointer (some ⟨g, 0, none⟩)) (hg : Two w g x y) (hu : P.underlying ty = some d) (hd : isS d = true) (hi : (P.info? ty).map (·.size) = some 2) :
    (results fn tmps).run P w = .ok (.agg #[x, y]) w := by
  have hp' : tmps[p]?.getD undef = .pointer (some ⟨g, 0, none⟩) := by simpa using hp
  simp [results, h, hp', asAddr, load_two hg hu hd hi]
theorem results_two_tmp {fn : Func} {p u : Tmp} {ty : TypeId} {P : Program} (h : fn.results = #[.cell p ty, .tmp u]) (tmps : Array Value) (w : World) (g : Nat) (x y : Value) (d : TypeDesc)
    (hp : tmps.getD p undef = .pointer (some ⟨g, 0, none⟩)) (hg : Two w g x y) (hu : P.underlying ty = some d) (hd : isS d = true) (hi : (P.info? ty).map (·.size) = some 2) :
    (results fn tmps).run P w = .ok (.tuple #[.agg #[x, y], tmps.getD u undef]) w := by
  have hp' : tmps[p]?.getD undef = .pointer (some ⟨g, 0, none⟩) := by simpa using hp
  rw [results_cell_tmp h]
  simp [hp', asAddr, load_two hg hu hd hi, Result.andThen]
theorem desk_size : (Try.prog.info? 38).map (·.size) = some 2 := by kernel_rfl
end Go.Proofs.Ytlbiioncpeondaa
