/- Rows of rows of the call's own, and an append of one row as one step of a walk. -/
import Derived.Test.YtlbiioncpeondaaW21
namespace Go.Proofs.Ytlbiioncpeondaa
set_option linter.unusedVariables false
open Go.RowKit

/-- The value v is a slice of slices of the call's own, from block B on, that holds the rows xss. -/
def OwnRR (w : World) (B : Nat) (v : Value) (xss : List (List Int)) : Prop :=
  ∃ vs : List Value, w.ownsRow B 22 1 v xss.length vs ∧ ∀ j, j < xss.length → ∃ A n c, vs[j]? = some (.slice A n c) ∧ OwnIn w B w.heap.size A n c (gR xss j)
theorem OwnRR.nil_ (w : World) (B : Nat) : OwnRR w B (.slice none 0 0) [] := ⟨[], World.ownsRow_nil _ _ _ _, fun j hj => absurd hj (Nat.not_lt_zero _)⟩
theorem OwnRR.made (w : World) (B : Nat) (hB : B ≤ w.heap.size) : OwnRR (w.alloc (.cells #[] 22)) B (.slice (some ⟨w.heap.size, 0, none⟩) 0 0) [] :=
  ⟨[], World.ownsRow_made w #[] 0 hB (Nat.zero_le _) (by simp), fun j hj => absurd hj (Nat.not_lt_zero _)⟩
theorem ownsRow_up {w w' : World} {B k n : Nat} {e : TypeId} {v : Value} {vs : List Value} (h : w.ownsRow B e k v n vs) (hb : Below w.heap.size w w') : w'.ownsRow B e k v n vs :=
  ⟨h.1, h.2.elim .inl fun ⟨g, cap, cur, e', hg, hh, r⟩ => .inr ⟨g, cap, cur, e', hg, by rw [hb.block g (Array.getElem?_eq_some_iff.1 hh).1]; exact hh, r⟩⟩
theorem OwnRR.up {w w' : World} {B : Nat} {v : Value} {xss : List (List Int)} (h : OwnRR w B v xss) (hb : Below w.heap.size w w') : OwnRR w' B v xss := by
  obtain ⟨vs, hv, hr⟩ := h
  refine ⟨vs, ownsRow_up hv hb, fun j hj => ?_⟩
  obtain ⟨A, n, c, e, hO⟩ := hr j hj
  exact ⟨A, n, c, e, (hO.up hb).wide (Nat.le_refl _) hb.size⟩
theorem OwnRR.dn {w : World} {B : Nat} {v : Value} {xss : List (List Int)} (h : OwnRR w B v xss) (m : Nat) : OwnRR (w.drewN m) B v xss := h
theorem OwnRR.form {w : World} {B : Nat} {v : Value} {xss : List (List Int)} (h : OwnRR w B v xss) : ∃ A c, v = .slice A xss.length c ∧ RdR w w.heap.size A xss.length c xss := by
  obtain ⟨vs, hv, hr⟩ := h
  rcases hv.2 with ⟨rfl, h0⟩ | ⟨g, cap, cur, rfl, hg, hh, h1, h2, h3, h4⟩
  · have : xss = [] := List.length_eq_zero_iff.1 h0
    subst this
    exact ⟨none, 0, rfl, RdR.nil_ _ _⟩
  · refine ⟨some ⟨g, 0, none⟩, cap, rfl, rfl, by first | exact h1 | omega, by first | exact h2 | omega, fun _ => ⟨g, 0, rfl, (Array.getElem?_eq_some_iff.1 hh).1, fun k hk => ?_⟩⟩
    obtain ⟨A, n, c, e, hO⟩ := hr k hk
    exact ⟨A, n, c, by rw [Nat.zero_add, hv.cellAt k (by omega)]; exact e, hO.rd⟩
/-- A row's block and the outer block bear different kinds. -/
theorem ne_outer {w : World} {B lo hi n c m : Nat} {v : Value} {A : Option Addr} {xs : List Int} {vs : List Value} (hv : w.ownsRow B 22 1 v m vs) (hO : OwnIn w lo hi A n c xs) :
    ∀ g, v.ownBlock = some g → (Value.slice A n c).ownBlock ≠ some g := by
  intro g hg hk
  have hO2 := hO.1.2.2
  rcases hv.2 with ⟨rfl, _⟩ | ⟨g1, cap, cur, rfl, _, hh, _⟩
  · cases hg
  rcases hO2 with ⟨e, _⟩ | ⟨g2, cap2, cur2, e, _, hh2, _⟩
  · rw [e] at hk; cases hk
  · rw [e] at hk
    cases hg; cases hk
    rw [hh] at hh2
    cases hh2
theorem OwnIn.grown {w w' : World} {lo hi n c : Nat} {A : Option Addr} {xs : List Int} {row : Option Nat} (h : OwnIn w lo hi A n c xs) (hg : w.grownBy w' row) (hne : ∀ g, row = some g → (Value.slice A n c).ownBlock ≠ some g) : OwnIn w' lo hi A n c xs := by
  refine ⟨⟨h.1.1, h.1.2.kept hg ?_⟩, h.2⟩
  rcases hr : (Value.slice A n c).ownBlock with _ | g
  · exact .inl rfl
  · right
    intro e
    exact hne g e.symm hr
theorem app_rr {ops : Array Oper} {rest : List Oper} {o : Oper} {a : Act} {Q : Exit → Act → World → Prop} (w : World) (A : Option Addr) (n c : Nat) (hgd : o.guard = none) (s x : Operand)
    (ho : o.op = .call { callee := .builtin .append, args := #[s, x], argTypes := #[36, 36] })
    (B : Nat) (v : Value) (xss : List (List Int)) (hs : a.eval s = v) (hown : OwnRR w B v xss) (hx : a.eval x = .slice (some ⟨w.heap.size, 0, none⟩) 1 1) (ys : List Int) (hy : OwnIn w B w.heap.size A n c ys)
    (hlen : xss.length ≤ 1000000000) (hB : B ≤ w.heap.size)
    (h : ∀ v' w', OwnRR w' B v' (xss ++ [ys]) → Below B w w' → wpList Try.prog ops Q rest (a.put o.dst v') w') :
    wpList Try.prog ops Q (o :: rest) a (w.alloc (.cells #[.slice A n c] 22)) := by
  obtain ⟨i0, hi, hz0, hz1, hz2⟩ := info_parts row_info
  obtain ⟨vs, hv, hr⟩ := hown
  refine wpList_append_own _ hgd s x 36 ho B 22 i0 (.slice none 0 0) 1 24 Try.underlying36 hi hz0 hz1 hz2 rfl (by decide) v xss.length vs hs (hv.alloc _) ⟨w.heap.size, 0, none⟩ 1 1 [.slice A n c] hx rfl (cell_one_new _ _ _) (by simp [Value.oneCell']) (by unfold maxLen; omega) (by omega) (by simp; omega) ?_
  intro v' w' hown' hg _
  have hvl : vs.length = xss.length := by have := hv.1; omega
  have hb0 : Below w.heap.size w (w.alloc (.cells #[.slice A n c] 22)) := (Below.refl _ _).alloc (Nat.le_refl _) _
  have hsz : w.heap.size ≤ w'.heap.size := Nat.le_trans hb0.size hg.size
  refine h v' w' ⟨vs ++ [.slice A n c], by rw [List.length_append]; exact hown', fun j hj => ?_⟩ ?_
  · rcases Nat.lt_or_ge j xss.length with h1 | h1
    · obtain ⟨A1, n1, c1, e, hO⟩ := hr j h1
      refine ⟨A1, n1, c1, by rw [List.getElem?_append_left (by omega)]; exact e, ?_⟩
      have e2 : gR (xss ++ [ys]) j = gR xss j := by unfold gR; simp only [List.getD]; rw [List.getElem?_append_left h1]
      rw [e2]
      exact ((hO.up hb0).grown hg (fun g hgg => ne_outer (ownsRow_up hv hb0) (hO.up hb0) g hgg)).wide (Nat.le_refl _) hsz
    · have hj' : j = xss.length := by rw [List.length_append] at hj; simp at hj; omega
      subst hj'
      refine ⟨A, n, c, by rw [← hvl]; simp, ?_⟩
      have e2 : gR (xss ++ [ys]) xss.length = ys := by unfold gR; simp [List.getD]
      rw [e2]
      exact ((hy.up hb0).grown hg (fun g hgg => ne_outer (ownsRow_up hv hb0) (hy.up hb0) g hgg)).wide (Nat.le_refl _) hsz
  · exact ((Below.refl B w).alloc hB _).grown hg (by simp; omega) (fun k hk => (hv.lt k hk).1)
end Go.Proofs.Ytlbiioncpeondaa
