/- Walks: TreeFor (impl and spec), for whatever row. -/
import Derived.Test.YtlbiioncpeondaaW12
namespace Go.Proofs.Ytlbiioncpeondaa
set_option linter.unusedVariables false
open Go.RowKit

def treeI (xs : List Int) : List Int := if codedOk xs then ints (treeN (toN xs)) else []
theorem treeI_ok {c : List Nat} (hc : CodeN c) : treeI (ints c) = ints (treeN c) := by unfold treeI; rw [if_pos (codedOk_ints hc), toN_ints]
theorem treeI_no {xs : List Int} (h : codedOk xs = false) : treeI xs = [] := by unfold treeI; rw [h]; simp
/-- What a function of one row and one truth comes to: the row is new memory. -/
def RowBool (w : World) (xs : List Int) (b : Bool) (e : Ending) (w' : World) : Prop :=
  ∃ (A : Option Addr) (n c : Nat), e = .returned (.tuple #[.slice A n c, .bool b]) ∧ OwnIn w' w.heap.size w'.heap.size A n c xs ∧ Below w.heap.size w w'
theorem OwnIn.nil_ (w : World) (lo hi : Nat) : OwnIn w lo hi none 0 0 [] := ⟨⟨rfl, World.ownsRow_nil _ _ _ _⟩, fun k hk => by cases hk⟩
theorem OwnIn.empty_ (w : World) : OwnIn (w.alloc (Obj.cells #[] 3)) w.heap.size (w.alloc (Obj.cells #[] 3)).heap.size (some ⟨w.heap.size, 0, none⟩) 0 0 [] :=
  ⟨⟨rfl, World.ownsRow_made w #[] 0 (Nat.le_refl _) (Nat.zero_le _) rfl⟩, fun k hk => by cases hk; simp⟩
theorem nil_code {c : List Nat} (h : ¬ 0 < c.length) : c = [] := List.eq_nil_of_length_eq_zero (by omega)

set_option maxRecDepth 100000 in
set_option maxHeartbeats 1600000 in
theorem treeFor_c (A : Option Addr) (n c : Nat) (xs : List Int) (w : World) (h : Rd w w.heap.size A n c xs) :
    Calls Try.prog 38 #[.slice A n c] w (RowBool w (treeI xs) (codedOk xs)) := by
  rcases hs : codedOk xs with _ | _
  · have HS := Lib.hid (treeI_no hs)
    go_enter Try.func38, Try.ntmps38
    go_wp2_with (go_at_call 37; refine (codedOk_c _ _ _ _ _ h).mono ?_; rintro e w' ⟨rfl, rfl⟩)
    go_ret2
    rw [HS.out]
    exact ⟨_, _, _, rfl, OwnIn.nil_ _ _ _, Below.refl _ _⟩
  · obtain ⟨f, rfl, hf⟩ := codedOk_ex hs
    obtain rfl : f.length = n := by rw [← h.len, ints_len]
    rw [treeI_ok hf]
    by_cases h0 : 0 < f.length
    · exact (treeFor_pos A c f w h hf h0).mono fun e w' ⟨he, ho, hb⟩ => ⟨_, _, _, he, ho.wide (Nat.le_refl _) (by have := (ho.lt w.heap.size rfl).2.2; omega), hb⟩
    · obtain rfl := nil_code h0
      obtain ⟨i0, hi, hz0, hz1, hz2⟩ := info_parts int_info
      go_enter Try.func38, Try.ntmps38
      go_wp2_with (first
        | (go_at_call 37; refine (codedOk_c _ _ _ _ _ h).mono ?_; rintro e w' ⟨rfl, rfl⟩)
        | (at_make; refine wpList_make_full _ rfl _ _ 22 rfl w.heap.size 3 i0 (.int .i64 0) 1 Try.underlying22 hi hz0 hz1 _ _ _ _ 1 rfl rfl rfl rfl (by rw [hz2]; omega) (by unfold maxLen; omega) (Nat.le_refl _) ?_))
      intro w1 hown1 hg1
      have hb1 : Below w.heap.size w w1 := (Below.refl _ _).grown hg1 (Nat.le_refl _) (fun k hk => by cases hk)
      have ho1 := Lib.hid (tree_start (w := w1) (B := w.heap.size) (n := 1) (r := 0) (by omega) (by simpa [toList_madeCells_one, Value.cells] using hown1))
      clear hown1 hg1
      go_wp2
      go_ret2
      exact ⟨_, _, _, rfl, ho1.out.wide (Nat.le_refl _) (by have := (ho1.out.lt w.heap.size rfl).2.2; omega), hb1⟩

set_option maxRecDepth 100000 in
set_option maxHeartbeats 1600000 in
theorem sTreeFor_c (A : Option Addr) (n c : Nat) (xs : List Int) (w : World) (h : Rd w w.heap.size A n c xs) :
    Calls Try.prog 48 #[.slice A n c] w (RowBool w (treeI xs) (codedOk xs)) := by
  rcases hs : codedOk xs with _ | _
  · have HS := Lib.hid (treeI_no hs)
    go_enter Try.func48, Try.ntmps48
    go_wp2_with (go_at_call 70; refine (sCodedOk_c _ _ _ _ _ h).mono ?_; rintro e w' ⟨rfl, rfl⟩)
    go_ret2
    rw [HS.out]
    exact ⟨_, _, _, rfl, OwnIn.empty_ _, (Below.refl _ _).alloc (Nat.le_refl _) _⟩
  · obtain ⟨f, rfl, hf⟩ := codedOk_ex hs
    obtain rfl : f.length = n := by rw [← h.len, ints_len]
    rw [treeI_ok hf]
    by_cases h0 : 0 < f.length
    · exact (sTreeFor_pos A c f w h hf h0).mono fun e w' ⟨he, ho, hb⟩ => ⟨_, _, _, he, ho.wide (Nat.le_refl _) (by have := (ho.lt w.heap.size rfl).2.2; omega), hb⟩
    · obtain rfl := nil_code h0
      obtain ⟨i0, hi, hz0, hz1, hz2⟩ := info_parts int_info
      go_enter Try.func48, Try.ntmps48
      go_wp2_with (first
        | (go_at_call 70; refine (sCodedOk_c _ _ _ _ _ h).mono ?_; rintro e w' ⟨rfl, rfl⟩)
        | (at_make; refine wpList_make_full _ rfl _ _ 22 rfl w.heap.size 3 i0 (.int .i64 0) 1 Try.underlying22 hi hz0 hz1 _ _ _ _ 1 rfl rfl rfl rfl (by rw [hz2]; omega) (by unfold maxLen; omega) (Nat.le_refl _) ?_))
      intro w1 hown1 hg1
      have hb1 : Below w.heap.size w w1 := (Below.refl _ _).grown hg1 (Nat.le_refl _) (fun k hk => by cases hk)
      have ho1 := tree_start (w := w1) (B := w.heap.size) (n := 1) (r := 0) (by omega) (by simpa [toList_madeCells_one, Value.cells] using hown1)
      have hold := ho1.cell (j := 0) (by omega)
      have hfz := ho1.frozen 0
      have HST := Lib.hid (ho1.store 0 0)
      have HB := Lib.hid hb1
      clear hown1 hg1 ho1 hb1
      go_wp2
      refine wp_loop_rounds 1 ?_
      rw [rounds_succ]
      go_wp2
      go_ret2
      exact ⟨_, _, _, rfl, HST.out.1.wide (Nat.le_refl _) (by have := (HST.out.1.lt w.heap.size rfl).2.2; omega), HB.out.setCell (Nat.le_refl _) _⟩
end Go.Proofs.Ytlbiioncpeondaa
