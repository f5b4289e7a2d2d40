/- Walks: the drawing of a map (spec): odd, l20Open, l20Map. -/
import Derived.Test.YtlbiioncpeondaaW11
import Derived.Test.YtlbiioncpeondaaW6
namespace Go.Proofs.Ytlbiioncpeondaa
set_option linter.unusedVariables false
open Go.RowKit

def Tossed (w : World) (lo g p : Nat) (e : Ending) (w' : World) : Prop :=
  ∃ b : Bool, e = .returned (.bool b) ∧ Rdr w' lo g (p + 1) ∧ Chg g (g + 1) w w'
set_option maxHeartbeats 400000 in
theorem odd_c (g lo p n : Nat) (w : World) (h : Rdr w lo g p) (hp : p ≤ 1000000000) (hn : n ≤ 1000000000) :
    Calls Try.prog 86 #[.pointer (some ⟨g, 0, none⟩), .int .i64 (n : Int)] w (Tossed w lo g p) := by
  by_cases h0 : 0 < n
  · go_enter Try.func86, Try.ntmps86
    go_wp2_with fail
    refine (pick_c g lo p n _ h hp (by omega)).mono ?_
    rintro e w1 ⟨x, rfl, hx, hr, hc⟩
    go_wp2
    go_ret
    exact ⟨_, rfl, hr, hc⟩
  · obtain rfl : n = 0 := by omega
    go_enter Try.func86, Try.ntmps86
    go_wp2
    go_ret
    exact ⟨_, rfl, h.more (by omega), Chg.refl _ _ _⟩

def Opened (w : World) (e : Ending) (w' : World) : Prop :=
  e = .returned (.pointer (some ⟨w.heap.size, 0, none⟩)) ∧ Rdr w' w.heap.size w.heap.size 0 ∧ Below w.heap.size w w'
set_option maxHeartbeats 400000 in
theorem open_c (A : Option Addr) (n c : Nat) (bs : List Nat) (w : World) (h : RdB w w.heap.size A n c bs) :
    Calls Try.prog 60 #[.slice A n c] w (Opened w) := by
  have hc := h.cap
  have hm := h.max
  unfold maxLen at hm
  by_cases h2 : 2000 < n
  · have h' := h.cut (m := 2000) (by omega)
    go_enter Try.func60, Try.ntmps60
    go_wp2
    go_ret
    exact ⟨rfl, ⟨A, 2000, c, bs.take 2000, 0, Nat.le_refl _, Nat.le_refl _, heap_alloc_new _ _, h'.below ((Below.refl _ _).alloc (Nat.le_refl _) _), Nat.le_refl _⟩, (Below.refl _ _).alloc (Nat.le_refl _) _⟩
  · go_enter Try.func60, Try.ntmps60
    go_wp2
    go_ret
    exact ⟨rfl, ⟨A, n, c, bs, 0, Nat.le_refl _, Nat.le_refl _, heap_alloc_new _ _, h.below ((Below.refl _ _).alloc (Nat.le_refl _) _), by omega⟩, (Below.refl _ _).alloc (Nat.le_refl _) _⟩
end Go.Proofs.Ytlbiioncpeondaa
