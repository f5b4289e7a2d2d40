/- Plain laws: how many things are led to one; images and leaves; the map that leads all to one thing. -/
import Derived.Test.YtlbiioncpeondaaP
import Derived.Test.YtlbiioncpeondaaV8
namespace Go.Proofs.Ytlbiioncpeondaa
set_option linter.unusedVariables false

theorem fromX_count (f : List Nat) (t : Nat) : ∀ k, k ≤ f.length → (fromX (ints f) (t : Int) k).length = (f.take k).count t
  | 0, _ => by simp [fromX]
  | k + 1, hk => by
    have ih := fromX_count f t k (by omega)
    rw [List.take_succ_eq_append_getElem (by omega), List.count_append, ← ih, List.count_singleton]
    have e : gI (ints f) k = ((f[k]'(by omega) : Nat) : Int) := by rw [gI_ints, nx_get (by omega)]
    by_cases h : f[k]'(by omega) = t
    · rw [fromX_t (by rw [e, h]), List.length_append]; simp [h]
    · rw [fromX_f (by rw [e]; omega)]; simp [h]
theorem fromI_count {f : List Nat} (hf : MapN f) (t : Nat) : (fromI (ints f) (t : Int)).length = f.count t := by
  rw [fromI_ok _ (mapOk_ints hf), fromX_count _ _ _ (by rw [ints_len]; exact Nat.le_refl _), ints_len, List.take_length]
/-- the map that leads all to the first thing -/
theorem zero_tree (n : Nat) (h1 : 1 ≤ n) (h7 : n ≤ 7) : TreeN (List.replicate n 0) 0 := by
  have hz : ∀ k, nx (List.replicate n 0) k = 0 := fun k => by
    unfold nx; simp only [List.getD, List.getElem?_replicate]; split <;> rfl
  refine ⟨⟨by simpa using h1, by simpa using h7, fun k hk => by rw [hz]; simp; omega⟩, by simp; omega, hz 0, fun k hk => ⟨1, by rw [it_one, hz]⟩⟩
/-- a tree is a map with one loop of one thing -/
theorem treeB_iff {f : List Nat} (hf : MapN f) : treeOkI (ints f) = true ↔ nx f (lo f 0) = lo f 0 ∧ ∀ k, k < f.length → lo f k = lo f 0 := by
  constructor
  · intro h
    obtain ⟨g, e, hg, h1, h2⟩ := tree_ex h
    obtain rfl : f = g := by
      have := congrArg toN e
      rwa [toN_ints, toN_ints] at this
    have hT := treeN_of hf h1 h2
    exact ⟨hT.fix, fun k hk => by rw [hT.lo hk]⟩
  · rintro ⟨h1, h2⟩
    have h0 := lo_lt hf (k := 0) hf.pos
    exact treeOkI_tree (r := lo f 0) ⟨hf, h0, h1, fun k hk => by
      obtain ⟨i, _, _, e⟩ := lo_mem hf hk
      exact ⟨i, by rw [e, h2 k hk]⟩⟩
end Go.Proofs.Ytlbiioncpeondaa
