/- Walk: LoopText's closure; rows of texts cut. -/
import Derived.Test.YtnpjelekpkgbpaaW134
namespace Go.Proofs.Ytnpjelekpkgbpaa
set_option linter.unusedVariables false
open Go.RowKit

theorem less_dec : ∀ (x y : Tx), Op.bytesLess x y = decide (x < y)
  | [], [] => by simp [Op.bytesLess]
  | _ :: _, [] => by simp [Op.bytesLess]
  | [], _ :: _ => by simp [Op.bytesLess]
  | a :: x, b :: y => by
    rw [Op.bytesLess, less_dec x y, Bool.eq_iff_iff]
    simp only [Bool.or_eq_true, decide_eq_true_eq, Bool.and_eq_true, beq_iff_eq]
    rw [List.cons_lt_cons_iff]
theorem keep_c (b : Nat) (x y : Tx) (w : World) (h : w.cell? ⟨b, 0, none⟩ = some (.string ⟨y.toArray⟩)) (hf : w.frozen? ⟨b, 0, none⟩ = false) :
    Calls Try.prog 93 #[.string ⟨x.toArray⟩, .pointer (some ⟨b, 0, none⟩)] w fun e w' => e = .returned (.tuple #[]) ∧ w' = if x < y then w.setCell ⟨b, 0, none⟩ (.string ⟨x.toArray⟩) else w := by
  have hq := less_dec x y
  by_cases hlt : x < y
  · rw [decide_eq_true hlt] at hq
    rw [if_pos hlt]
    clear hlt
    go_enter Try.func93, Try.ntmps93
    go_wp2_with fail
    go_end0
    exact ⟨rfl, rfl⟩
  · rw [decide_eq_false hlt] at hq
    rw [if_neg hlt]
    clear hlt
    go_enter Try.func93, Try.ntmps93
    go_wp2_with fail
    go_end0
    exact ⟨rfl, rfl⟩
theorem RdT.drop_ {w : World} {B g n c k : Nat} {ts : List ByteArray} (h : RdT w B (some ⟨g, 0, none⟩) n c ts) (hk : k ≤ n) : RdT w B (some ⟨g, k, none⟩) (n - k) (c - k) (ts.drop k) := by
  refine ⟨by rw [List.length_drop, h.1], by have := h.cap; omega, by have := h.max; omega, fun h0 => ?_⟩
  obtain ⟨b, off, e, hb, hc⟩ := h.2.2.2 (by omega)
  cases e
  refine ⟨g, k, rfl, hb, fun j hj => ?_⟩
  have := hc (k + j) (by omega)
  rw [Nat.zero_add] at this
  rw [this]; unfold gT; simp [List.getD]
theorem RdT.take_ {w : World} {B n c k : Nat} {A : Option Addr} {ts : List ByteArray} (h : RdT w B A n c ts) (hk : k ≤ n) : RdT w B A k c (ts.take k) := by
  refine ⟨by rw [List.length_take, h.1]; omega, by have := h.cap; omega, h.max, fun h0 => ?_⟩
  obtain ⟨b, off, e, hb, hc⟩ := h.2.2.2 (by omega)
  refine ⟨b, off, e, hb, fun j hj => ?_⟩
  rw [hc j (by omega)]; unfold gT; simp [List.getD, hj]
end Go.Proofs.Ytnpjelekpkgbpaa
