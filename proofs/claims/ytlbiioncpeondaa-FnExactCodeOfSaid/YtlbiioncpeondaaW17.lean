/- Walks: l20Set (spec). -/
import Derived.Test.YtlbiioncpeondaaW16
import Derived.Deep.RegionWith
import Derived.Deep.RegionHeld3
import Derived.Outline
namespace Go.Proofs.Ytlbiioncpeondaa
set_option linter.unusedVariables false
open Go.RowKit

/-- pick at a number from 1 on. -/
def PickedP (w : World) (lo g p : Nat) (m : Int) (e : Ending) (w' : World) : Prop :=
  ∃ x : Nat, e = .returned (.int .i64 x) ∧ (x : Int) < m ∧ Rdr w' lo g (p + 1) ∧ Chg g (g + 1) w w'
theorem pickP_c (g lo p : Nat) (m : Int) (w : World) (h : Rdr w lo g p) (hp : p ≤ 1000000000) (hm : m ≤ 1000000000) (h1 : 1 ≤ m) :
    Calls Try.prog 85 #[.pointer (some ⟨g, 0, none⟩), .int .i64 m] w (PickedP w lo g p m) :=
  (pick_c g lo p m w h hp hm).mono fun e w' ⟨x, he, hx, hr, hc⟩ => ⟨x, he, hx h1, hr, hc⟩

def Any (w : World) : Prop := w = w
theorem any_ (w : World) : Any w := rfl
theorem tm_ex (x D : Nat) (h1 : 1 ≤ D) (h2 : D ≤ 128) : ∃ r : Nat, (x : Int).tmod (D : Int) = (r : Int) ∧ IntKind.i64.wrap (r : Int) = (r : Int) ∧ (r : Int) ≤ 128 := by
  have h := Nat.mod_lt x (show 0 < D by omega)
  refine ⟨x % D, ?_, IntWalk.i64_in _ (by omega), by omega⟩
  rw [Int.tmod_eq_emod_of_nonneg (by omega)]; simp

def SetDrawn (w : World) (lo g p : Nat) (e : Ending) (w' : World) : Prop :=
  ∃ (A : Option Addr) (n c : Nat) (xs : List Int) (s : Int), e = .returned (.tuple #[.slice A n c, .int .i64 s]) ∧ OwnIn w' w.heap.size w'.heap.size A n c xs ∧ Drawn xs ∧ Rdr w' lo g (p + 40) ∧ Chg g (g + 1) w w'

end Go.Proofs.Ytlbiioncpeondaa
