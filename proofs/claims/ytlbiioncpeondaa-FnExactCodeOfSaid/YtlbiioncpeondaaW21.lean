/- Walks: toIntSS, and the Desk's helpers szDesk, toDesk, eqDesk (laws), DeskOk (impl and spec). -/
import Derived.Test.YtlbiioncpeondaaRr
import Derived.Test.YtlbiioncpeondaaTwo
namespace Go.Proofs.Ytlbiioncpeondaa
set_option linter.unusedVariables false
open Go.RowKit

theorem row_info : (Try.prog.info? 22).map (fun i => (i.zero, i.size, i.bytes)) = some (some (.slice none 0 0), 1, 24) := by kernel_rfl
theorem vs_up {w w' : World} {B : Nat} {e : TypeId} {n c : Nat} {A : Option Addr} {vs : List Value} (h : w.ownsRow B e 1 (.slice A n c) n vs) (hb : Below w.heap.size w w') : w'.ownsRow B e 1 (.slice A n c) n vs :=
  ⟨h.1, h.2.elim .inl fun ⟨g, cap, cur, e', hg, hh, r⟩ => .inr ⟨g, cap, cur, e', hg, by rw [hb.block g (Array.getElem?_eq_some_iff.1 hh).1]; exact hh, r⟩⟩
/-- The first k rows are made. -/
def RowsTo (w : World) (g n k : Nat) (xss : List (List Int)) : Prop :=
  ∃ vs : List Value, w.ownsRow g 22 1 (.slice (some ⟨g, 0, none⟩) n n) n vs ∧ vs.length = n ∧ (∀ j, k ≤ j → j < n → vs[j]? = some (.slice none 0 0)) ∧
    ∀ j, j < k → ∃ A n' c, vs[j]? = some (.slice A n' c) ∧ OwnIn w (g + 1) w.heap.size A n' c (gR xss j)
theorem RowsTo.made {w : World} {g n : Nat} {xss : List (List Int)} (h : w.ownsRow g 22 1 (.slice (some ⟨g, 0, none⟩) n n) n (madeCells #[Value.slice none 0 0] n).toList) : RowsTo w g n 0 xss :=
  ⟨List.replicate n (.slice none 0 0), by simpa [toList_madeCells_one] using h, by simp, fun j _ hj => by simp [hj], fun j hj => absurd hj (Nat.not_lt_zero _)⟩
theorem RowsTo.lt {w : World} {g n k : Nat} {xss : List (List Int)} (h : RowsTo w g n k xss) : g < w.heap.size := by
  obtain ⟨vs, ho, _⟩ := h
  exact (ho.lt g rfl).2
theorem RowsTo.old {w w' : World} {g n k : Nat} {xss : List (List Int)} (h : RowsTo w g n k xss) (hb : Below w.heap.size w w') (hk : k < n) : w'.cell? ⟨g, k, none⟩ = some (.slice none 0 0) := by
  obtain ⟨vs, ho, hl, h0, _⟩ := h
  rw [(vs_up ho hb).cellAt k (by omega)]
  exact h0 k (Nat.le_refl _) hk
theorem RowsTo.frozen {w w' : World} {g n k : Nat} {xss : List (List Int)} (h : RowsTo w g n k xss) (hb : Below w.heap.size w w') : w'.frozen? ⟨g, k, none⟩ = false := by
  obtain ⟨vs, ho, _⟩ := h
  exact (vs_up ho hb).frozenAt k
theorem RowsTo.next {w w' : World} {g n k n' : Nat} {xss : List (List Int)} (h : RowsTo w g n k xss) (hb : Below w.heap.size w w') (hk : k < n)
    (ho : Own w' w.heap.size (some ⟨w.heap.size, 0, none⟩) n' n' (gR xss k)) : RowsTo (w'.setCell ⟨g, k, none⟩ (.slice (some ⟨w.heap.size, 0, none⟩) n' n')) g n (k + 1) xss := by
  have hg := h.lt
  obtain ⟨vs, hv, hl, h0, h1⟩ := h
  have hv' := (vs_up hv hb).stored k (.slice (some ⟨w.heap.size, 0, none⟩) n' n')
  have hch : Chg g (g + 1) w' (w'.setCell ⟨g, k, none⟩ (.slice (some ⟨w.heap.size, 0, none⟩) n' n')) := (Chg.refl g (g + 1) w').setCell (p := ⟨g, k, none⟩) (Nat.le_refl g) (Nat.lt_succ_self g) _
  refine ⟨vs.set k (.slice (some ⟨w.heap.size, 0, none⟩) n' n'), hv'.1, by simpa using hl, fun j h2 h3 => ?_, fun j hj => ?_⟩
  · rw [List.getElem?_set_ne (by omega)]; exact h0 j (by omega) h3
  · rcases Nat.lt_or_ge j k with h2 | h2
    · obtain ⟨A, m, c, e, hO⟩ := h1 j h2
      refine ⟨A, m, c, by rw [List.getElem?_set_ne (by omega)]; exact e, ?_⟩
      exact ((hO.up hb).chg hch (.inr (Nat.le_refl _))).wide (Nat.le_refl _) (Nat.le_trans hb.size hch.size)
    · obtain rfl : j = k := by omega
      refine ⟨_, _, _, by rw [List.getElem?_set_self (by omega)], ?_⟩
      exact (ho.inn.chg hch (.inr (by omega))).wide (by omega) hch.size
theorem RowsTo.rd {w : World} {g n : Nat} {xss : List (List Int)} (h : RowsTo w g n n xss) (hx : xss.length = n) (hn : n ≤ maxLen) : RdR w w.heap.size (some ⟨g, 0, none⟩) n n xss := by
  have hg := h.lt
  obtain ⟨vs, hv, hl, h0, h1⟩ := h
  refine ⟨hx, Nat.le_refl _, hn, fun _ => ⟨g, 0, rfl, hg, fun k hk => ?_⟩⟩
  obtain ⟨A, m, c, e, hO⟩ := h1 k hk
  exact ⟨A, m, c, by rw [Nat.zero_add, hv.cellAt k (by omega)]; exact e, hO.rd⟩
theorem RowsTo.chg {w w' : World} {g n k lo hi : Nat} {xss : List (List Int)} (h : RowsTo w g n k xss) (hc : Chg lo hi w w') (hd : hi ≤ g) : RowsTo w' g n k xss := by
  have hg := h.lt
  obtain ⟨vs, hv, hl, h0, h1⟩ := h
  refine ⟨vs, ⟨hv.1, hv.2.elim .inl fun ⟨g', cap, cur, e', hg', hh, r⟩ => .inr ⟨g', cap, cur, e', hg', by rw [hc.block g' (Array.getElem?_eq_some_iff.1 hh).1 (.inr (by omega))]; exact hh, r⟩⟩, hl, h0, fun j hj => ?_⟩
  obtain ⟨A, m, c, e, hO⟩ := h1 j hj
  exact ⟨A, m, c, e, (hO.chg hc (.inr (by omega))).wide (Nat.le_refl _) hc.size⟩
def Small (xss : List (List Int)) : Prop := xss.length ≤ 1048576 ∧ ∀ k, k < xss.length → (gR xss k).length ≤ 1048576
/-! ### the desk -/
/-- The desk '.agg #[.slice A n c, .slice P m d]' reads as the map xs and the rows yss. -/
def RdD (w : World) (B : Nat) (A : Option Addr) (n c : Nat) (xs : List Int) (P : Option Addr) (m d : Nat) (yss : List (List Int)) : Prop := Rd w B A n c xs ∧ RdR w B P m d yss
end Go.Proofs.Ytlbiioncpeondaa
