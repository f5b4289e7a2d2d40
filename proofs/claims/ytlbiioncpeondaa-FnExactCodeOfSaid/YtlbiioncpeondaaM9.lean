/- Plain laws: the least thing of the least thing's loop is itself. -/
import Derived.Test.YtlbiioncpeondaaM8
namespace Go.Proofs.Ytlbiioncpeondaa
set_option linter.unusedVariables false

theorem lo_le_all {f : List Nat} (hf : MapN f) {k : Nat} (hk : k < f.length) {i : Nat} (h : tl f k ≤ i) : lo f k ≤ it f i k := by
  rw [it_mod hf hk i h]
  have h1 := ll_pos hf hk
  have h2 := Nat.mod_lt (i - tl f k) (show ll f k > 0 by omega)
  exact lo_le (by omega) (by unfold ll at h2 h1 ⊢; omega)
theorem lo_lo {f : List Nat} (hf : MapN f) {k : Nat} (hk : k < f.length) : lo f (lo f k) = lo f k := by
  obtain ⟨i, h1, h2, e⟩ := lo_mem hf hk
  have hr := lo_lt hf hk
  have ho := lo_on hf hk
  have hz : tl f (lo f k) = 0 := by simpa [onL] using ho
  refine (lo_eq hf hr ⟨0, by omega, (wl_isWay hf hr).pos, rfl⟩ (fun j g1 g2 => ?_)).symm
  have := lo_le_all hf hk (i := j + i) (by omega)
  rwa [it_add, e] at this
theorem loopsK_mem {f : List Nat} {k : Nat} (h : lo f k = k) : ∀ K, k < K → ints (way f k) ∈ loopsK f K
  | K + 1, hk => by
    rcases Nat.lt_or_ge k K with h1 | h1
    · have := loopsK_mem h K h1
      unfold loopsK; split
      · exact List.mem_append_left _ this
      · exact this
    · obtain rfl : k = K := by omega
      rw [loopsK_t h]; exact List.mem_append_right _ (List.mem_singleton.2 rfl)
theorem tree_root {f : List Nat} (hf : MapN f) (h1 : (loopsN f).length = 1) : (loopsN f).getD 0 [] = ints (way f (lo f 0)) := by
  have h0 := lo_lt hf (k := 0) hf.pos
  have hm := loopsK_mem (lo_lo hf (k := 0) hf.pos) f.length h0
  obtain ⟨x, hx⟩ := List.length_eq_one_iff.1 h1
  rw [show loopsK f f.length = loopsN f from rfl, hx] at hm
  rw [hx, List.mem_singleton.1 hm]; rfl
end Go.Proofs.Ytlbiioncpeondaa
