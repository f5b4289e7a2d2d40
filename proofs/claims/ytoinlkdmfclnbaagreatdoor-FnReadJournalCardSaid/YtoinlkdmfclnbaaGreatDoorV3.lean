/- Walks: CodedOk (impl and spec), CentreOf (impl), TreeFor (spec). · Walks: TreeFor (impl and spec). Printed by gen_w12.py. · Walks: TreeFor (impl and spec), for whatever row. · Walks: exact laws whose result is a row and a truth. Printed by gen_w14.py. -/
import Derived.Deep.LoopGhost
import Derived.WalkMore
import Derived.Outline
import Derived.ScopeJumps
import Derived.Test.YtoinlkdmfclnbaaGreatDoorV2
import Derived.Test.YtoinlkdmfclnbaaGreatDoorP
import Derived.Test.YtoinlkdmfclnbaaGreatDoorV1
namespace Go.Proofs.YtoinlkdmfclnbaaGreatDoor
set_option linter.unusedVariables false
open Go.RowKit

/-! ### TreeFor (spec) -/
theorem tree_start {w : World} {B n r : Nat} (hr : r < n) (h : w.ownsRow B 3 1 (.slice (some ⟨B, 0, none⟩) n n) n (List.replicate n (Value.int .i64 0))) :
    OwnIn w B (B + 1) (some ⟨B, 0, none⟩) n n (ints (List.replicate n 0)) := by
  refine ⟨⟨by rw [ints_len]; simp, ?_⟩, fun k hk => by cases hk; exact Nat.lt_succ_self _⟩
  rw [ints_replicate, List.map_replicate]; exact h

theorem treeK_zero_store (c : List Nat) : (ints (List.replicate (c.length + 1) 0)).set (rt c) (rt c : Int) = ints (treeK c 0) := by rw [← ints_set]; rfl
theorem treeK_next {c : List Nat} {a : Nat} : (ints (treeK c a)).set (lf c a) (nx c a : Int) = ints (treeK c (a + 1)) := by rw [← ints_set]; rfl
theorem gm_succ (c : List Nat) (a : Nat) : gm c (a + 1) = gm c a ||| 2 ^ lf c a := rfl
theorem ne_bool {a b : Nat} (h : a ≠ b) : (((a : Nat) : Int) != ((b : Nat) : Int)) = true := by simp; omega
theorem eq_bool {a b : Nat} (h : a = b) : (((a : Nat) : Int) != ((b : Nat) : Int)) = false := by simp; omega
theorem eqq_bool {a b : Nat} (h : a = b) : (((a : Nat) : Int) == ((b : Nat) : Int)) = true := by simp; omega
theorem neq_bool {a b : Nat} (h : a ≠ b) : (((a : Nat) : Int) == ((b : Nat) : Int)) = false := by simp; omega

end Go.Proofs.YtoinlkdmfclnbaaGreatDoor
namespace Go.Proofs.YtoinlkdmfclnbaaGreatDoor
set_option linter.unusedVariables false
open Go.RowKit
theorem left_bound {c : List Nat} (hc : CodeN c) {a : Nat} (leaf : Nat) {k : Nat} (hk : k ≤ c.length) : -1 ≤ gI ((leftI c a).set leaf (-1)) k ∧ gI ((leftI c a).set leaf (-1)) k ≤ 7 := by
  have h6 := hc.le6
  by_cases e : leaf = k
  · subst e
    have : gI ((leftI c a).set leaf (-1)) leaf = -1 := by
      unfold gI; simp only [List.getD]
      rw [List.getElem?_set_self (by rw [leftI_len]; omega)]; rfl
    omega
  · have : gI ((leftI c a).set leaf (-1)) k = gI (leftI c a) k := by
      unfold gI; simp only [List.getD]
      rw [List.getElem?_set_ne e]
    rw [this, gI_leftI hk]
    have h1 := List.count_le_length (a := k) (l := c.drop a)
    have h2 : (c.drop a).length ≤ c.length := by rw [List.length_drop]; omega
    split <;> omega

end Go.Proofs.YtoinlkdmfclnbaaGreatDoor
namespace Go.Proofs.YtoinlkdmfclnbaaGreatDoor
set_option linter.unusedVariables false
open Go.RowKit

def treeI (xs : List Int) : List Int := if codedOk xs then ints (treeN (toN xs)) else []
theorem treeI_ok {c : List Nat} (hc : CodeN c) : treeI (ints c) = ints (treeN c) := by unfold treeI; rw [if_pos (codedOk_ints hc), toN_ints]
theorem treeI_no {xs : List Int} (h : codedOk xs = false) : treeI xs = [] := by unfold treeI; rw [h]; simp
/-- What a function of one row and one truth comes to: the row is new memory. -/
def RowBool (w : World) (xs : List Int) (b : Bool) (e : Ending) (w' : World) : Prop :=
  ∃ (A : Option Addr) (n c : Nat), e = .returned (.tuple #[.slice A n c, .bool b]) ∧ OwnIn w' w.heap.size w'.heap.size A n c xs ∧ Below w.heap.size w w'
theorem OwnIn.nil_ (w : World) (lo hi : Nat) : OwnIn w lo hi none 0 0 [] := ⟨⟨rfl, World.ownsRow_nil _ _ _ _⟩, fun k hk => by cases hk⟩
theorem OwnIn.empty_ (w : World) : OwnIn (w.alloc (Obj.cells #[] 3)) w.heap.size (w.alloc (Obj.cells #[] 3)).heap.size (some ⟨w.heap.size, 0, none⟩) 0 0 [] :=
  ⟨⟨rfl, World.ownsRow_made w #[] 0 (Nat.le_refl _) (Nat.zero_le _) rfl⟩, fun k hk => by cases hk; simp⟩
theorem nil_code {c : List Nat} (h : ¬ 0 < c.length) : c = [] := List.eq_nil_of_length_eq_zero (by omega)

end Go.Proofs.YtoinlkdmfclnbaaGreatDoor
namespace Go.Proofs.YtoinlkdmfclnbaaGreatDoor
set_option linter.unusedVariables false
open Go.RowKit
theorem treeFor_small (xs : List Int) : (treeI xs).length ≤ 1000000 := by
  rcases h : codedOk xs with _ | _
  · rw [treeI_no h]; simp
  · obtain ⟨c, rfl, hc⟩ := codedOk_ex h
    rw [treeI_ok hc, ints_len, treeN_len]; have := hc.le6; omega

end Go.Proofs.YtoinlkdmfclnbaaGreatDoor
