/- An append of one number to a slice of numbers of the call's own, as one step of a walk. -/
import Derived.Test.YtlbiioncpeondaaMem
import Derived.Test.YtlbiioncpeondaaRows
namespace Go.Proofs.Ytlbiioncpeondaa
set_option linter.unusedVariables false
open Go.RowKit

theorem int_info : (Try.prog.info? 3).map (fun i => (i.zero, i.size, i.bytes)) = some (some (.int .i64 0), 1, 8) := by kernel_rfl

/-- The value v is a slice of the call's own, from block B on, that holds the numbers xs. -/
def OwnV (w : World) (B : Nat) (v : Value) (xs : List Int) : Prop := w.ownsRow B 3 1 v xs.length (xs.map (Value.int .i64))
theorem OwnV.form {w : World} {B : Nat} {v : Value} {xs : List Int} (h : OwnV w B v xs) : ∃ A c, v = .slice A xs.length c ∧ Own w B A xs.length c xs := by
  rcases h.2 with ⟨rfl, h0⟩ | ⟨g, cap, cur, rfl, r⟩
  · exact ⟨none, 0, by rw [h0], rfl, h.1, .inl ⟨by rw [h0], h0⟩⟩
  · exact ⟨_, _, rfl, rfl, h.1, .inr ⟨g, cap, cur, rfl, r⟩⟩
theorem OwnV.nil_ (w : World) (B : Nat) : OwnV w B (.slice none 0 0) [] := World.ownsRow_nil _ _ _ _
theorem OwnV.made (w : World) (B : Nat) (cur : Array Value) (hB : B ≤ w.heap.size) (hs : cur.size = 0) : OwnV (w.alloc (.cells cur 3)) B (.slice (some ⟨w.heap.size, 0, none⟩) 0 0) [] :=
  World.ownsRow_made w cur 0 hB (Nat.zero_le _) (by simpa using hs)
theorem OwnV.below {w w' : World} {B B' : Nat} {v : Value} {xs : List Int} (h : OwnV w B v xs) (hb : Below B' w w') (hB : w.heap.size ≤ B') : OwnV w' B v xs := by
  refine ⟨h.1, ?_⟩
  rcases h.2 with h0 | ⟨g, cap, cur, e, hg, hh, r⟩
  · exact .inl h0
  · exact .inr ⟨g, cap, cur, e, hg, by rw [hb.block g (by have := (Array.getElem?_eq_some_iff.1 hh).1; omega)]; exact hh, r⟩
theorem OwnV.up {w w' : World} {B : Nat} {v : Value} {xs : List Int} (h : OwnV w B v xs) (hb : Below w.heap.size w w') : OwnV w' B v xs := h.below hb (Nat.le_refl _)
theorem OwnV.dn {w : World} {B : Nat} {v : Value} {xs : List Int} (h : OwnV w B v xs) (m : Nat) : OwnV (w.drewN m) B v xs := h

theorem OwnV.chg {w w' : World} {B lo hi : Nat} {v : Value} {xs : List Int} (h : OwnV w B v xs) (hc : Chg lo hi w w') (hd : hi ≤ B) : OwnV w' B v xs := by
  refine ⟨h.1, ?_⟩
  rcases h.2 with h0 | ⟨g, cap, cur, e, hg, hh, r⟩
  · exact .inl h0
  · exact .inr ⟨g, cap, cur, e, hg, by rw [hc.block g (Array.getElem?_eq_some_iff.1 hh).1 (.inr (by omega))]; exact hh, r⟩

theorem app_int {ops : Array Oper} {rest : List Oper} {o : Oper} {a : Act} {Q : Exit → Act → World → Prop} (w : World) (y : Int) (hgd : o.guard = none) (s x : Operand)
    (ho : o.op = .call { callee := .builtin .append, args := #[s, x], argTypes := #[22, 22] })
    (B : Nat) (v : Value) (xs : List Int) (hs : a.eval s = v) (hown : OwnV w B v xs) (hx : a.eval x = .slice (some ⟨w.heap.size, 0, none⟩) 1 1)
    (hlen : xs.length ≤ 1000000000000) (hB : B ≤ w.heap.size)
    (h : ∀ v' w', OwnV w' B v' (xs ++ [y]) → Below B w w' → wpList Try.prog ops Q rest (a.put o.dst v') w') :
    wpList Try.prog ops Q (o :: rest) a (w.alloc (.cells #[.int .i64 y] 3)) := by
  obtain ⟨i0, hi, hz0, hz1, hz2⟩ := info_parts int_info
  refine wpList_append_own _ hgd s x 22 ho B 3 i0 (.int .i64 0) 1 8 Try.underlying22 hi hz0 hz1 hz2 rfl (by decide) v xs.length (xs.map (Value.int .i64)) hs (hown.alloc _) ⟨w.heap.size, 0, none⟩ 1 1 [.int .i64 y] hx rfl (cell_one_new _ _ _) (by simp [Value.oneCell']) (by unfold maxLen; omega) (by omega) (by simp; omega) ?_
  intro v' w' hown' hg _
  refine h v' w' ?_ ?_
  · unfold OwnV
    rw [List.length_append, List.map_append]
    exact hown'
  · refine ((Below.refl B w).alloc hB _).grown hg (by simp; omega) (fun k hk => (hown.lt k hk).1)
end Go.Proofs.Ytlbiioncpeondaa
