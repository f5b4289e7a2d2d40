/- Walks: slices.Clone at []int, DeskNew (impl and spec), sameRows, sameDesk, noDesk; the law FnDeskNew (walk). -/
import Derived.Test.YtlbiioncpeondaaW19
import Derived.Test.YtlbiioncpeondaaW22
import Derived.Lib.LazyBuf
namespace Go.Proofs.Ytlbiioncpeondaa
set_option linter.unusedVariables false
open Go.RowKit

/-- An append of a whole row to an empty row of the call's own, as one step of a walk. -/
theorem app_row {ops : Array Oper} {rest : List Oper} {o : Oper} {a : Act} {Q : Exit → Act → World → Prop} (w : World) (hgd : o.guard = none) (s x : Operand)
    (ho : o.op = .call { callee := .builtin .append, args := #[s, x], argTypes := #[22, 22] })
    (B : Nat) (v : Value) (hs : a.eval s = v) (hown : OwnV w B v []) (A : Option Addr) (n c : Nat) (xs : List Int) (hx : a.eval x = .slice A n c) (hr : Rd w w.heap.size A n c xs) (h0 : 0 < n)
    (hlen : n ≤ 1000000000000) (hB : B ≤ w.heap.size)
    (h : ∀ v' w', OwnV w' B v' xs → Below B w w' → wpList Try.prog ops Q rest (a.put o.dst v') w') :
    wpList Try.prog ops Q (o :: rest) a w := by
  obtain ⟨i0, hi, hz0, hz1, hz2⟩ := info_parts int_info
  obtain ⟨b, off, rfl, hb, hcell⟩ := hr.2.2.2 h0
  have hl := hr.len
  refine wpList_append_own _ hgd s x 22 ho B 3 i0 (.int .i64 0) 1 8 Try.underlying22 hi hz0 hz1 hz2 rfl (by decide) v 0 [] hs (by simpa [OwnV] using hown) ⟨b, off, none⟩ n c (xs.map (Value.int .i64)) hx (by simp [hl]) (fun j u hj => ?_) (by simp [Value.oneCell']) (by unfold maxLen; omega) (by omega) (by simpa using hB) ?_
  · have hjn : j < n := by
      rcases Nat.lt_or_ge j (xs.map (Value.int .i64)).length with h' | h'
      · rw [List.length_map, hl] at h'; exact h'
      · rw [List.getElem?_eq_none h'] at hj; cases hj
    rw [Addr.add_lit, hcell j hjn]
    rw [List.getElem?_map, List.getElem?_eq_getElem (by omega)] at hj
    simp only [Option.map_some, Option.some.injEq] at hj
    rw [← hj, gI_get (by omega)]
  · intro v' w' hown' hg _
    refine h v' w' ?_ ((Below.refl B w).grown hg hB (fun k hk => (hown.lt k hk).1))
    unfold OwnV
    rw [hl]
    simpa using hown'
/-! ### DeskNew -/
def NewOut (w : World) (xs : List Int) (e : Ending) (w' : World) : Prop :=
  ∃ A n c, e = .returned (.tuple #[.agg #[.slice A n c, .slice none 0 0], .bool (mapOk xs)]) ∧ OwnIn w' w.heap.size w'.heap.size A n c (if mapOk xs then xs else []) ∧ Below w.heap.size w w'
theorem mapOk_bounds {xs : List Int} (h : mapOk xs = true) : 1 ≤ xs.length ∧ xs.length ≤ 7 := by
  unfold mapOk at h
  simp only [Bool.and_eq_true, decide_eq_true_eq] at h
  exact h.1
end Go.Proofs.Ytlbiioncpeondaa
