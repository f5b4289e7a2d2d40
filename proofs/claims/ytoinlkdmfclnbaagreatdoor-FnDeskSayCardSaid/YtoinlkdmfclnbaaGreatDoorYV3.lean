/- Bundle V3. -/
import Derived.Deep.LoopGhost
import Derived.WalkMore
import Derived.Outline
import Derived.ScopeJumps
import Derived.Test.YtoinlkdmfclnbaaGreatDoorYP
import Derived.Test.YtoinlkdmfclnbaaGreatDoorYV1
import Derived.Test.YtoinlkdmfclnbaaGreatDoorYV2
namespace Go.Proofs.YtoinlkdmfclnbaaGreatDoor
set_option linter.unusedVariables false
section
open Go.RowKit
theorem tree_start {w : World} {B n r : Nat} (hr : r < n) (h : w.ownsRow B 3 1 (.slice (some ⟨B, 0, none⟩) n n) n (List.replicate n (Value.int .i64 0))) :
    OwnIn w B (B + 1) (some ⟨B, 0, none⟩) n n (ints (List.replicate n 0)) := by
 refine ⟨⟨by rw [ints_len]; simp, ?_⟩, fun k hk => by cases hk; exact Nat.lt_succ_self _⟩
 rw [ints_replicate, List.map_replicate]; exact h
theorem gm_succ (c : List Nat) (a : Nat) : gm c (a + 1) = gm c a ||| 2 ^ lf c a := rfl
theorem ne_bool {a b : Nat} (h : a ≠ b) : (((a : Nat) : Int) != ((b : Nat) : Int)) = true := by simp; omega
theorem eq_bool {a b : Nat} (h : a = b) : (((a : Nat) : Int) != ((b : Nat) : Int)) = false := by simp; omega
theorem eqq_bool {a b : Nat} (h : a = b) : (((a : Nat) : Int) == ((b : Nat) : Int)) = true := by simp; omega
theorem neq_bool {a b : Nat} (h : a ≠ b) : (((a : Nat) : Int) == ((b : Nat) : Int)) = false := by simp; omega
end
section
open Go.RowKit
end
section
open Go.RowKit
def RowBool (w : World) (xs : List Int) (b : Bool) (e : Ending) (w' : World) : Prop :=
 ∃ (A : Option Addr) (n c : Nat), e = .returned (.tuple #[.slice A n c, .bool b]) ∧ OwnIn w' w.heap.size w'.heap.size A n c xs ∧ Below w.heap.size w w'
theorem OwnIn.nil_ (w : World) (lo hi : Nat) : OwnIn w lo hi none 0 0 [] := ⟨⟨rfl, World.ownsRow_nil _ _ _ _⟩, fun k hk => by cases hk⟩
theorem OwnIn.empty_ (w : World) : OwnIn (w.alloc (Obj.cells #[] 3)) w.heap.size (w.alloc (Obj.cells #[] 3)).heap.size (some ⟨w.heap.size, 0, none⟩) 0 0 [] :=
 ⟨⟨rfl, World.ownsRow_made w #[] 0 (Nat.le_refl _) (Nat.zero_le _) rfl⟩, fun k hk => by cases hk; simp⟩
end
section
open Go.RowKit
end
end Go.Proofs.YtoinlkdmfclnbaaGreatDoor
