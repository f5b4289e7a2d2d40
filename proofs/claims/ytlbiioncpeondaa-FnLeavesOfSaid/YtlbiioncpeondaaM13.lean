/- Plain laws: a table that is filled from its first place on. -/
import Derived.Test.YtlbiioncpeondaaM12
namespace Go.Proofs.Ytlbiioncpeondaa
set_option linter.unusedVariables false

/-- g 0, .., g (k - 1), and noughts up to n -/
def tab (g : Nat → Nat) (n k : Nat) : List Nat := (List.range n).map (fun j => if j < k then g j else 0)
theorem tab_len (g : Nat → Nat) (n k : Nat) : (tab g n k).length = n := by simp [tab]
theorem tab_zero (g : Nat → Nat) (n : Nat) : tab g n 0 = List.replicate n 0 := by
  apply List.ext_getElem (by simp [tab_len])
  intro k h1 h2
  simp [tab]
theorem tab_succ (g : Nat → Nat) {n k : Nat} (hk : k < n) : (tab g n k).set k (g k) = tab g n (k + 1) := by
  apply List.ext_getElem (by simp [tab_len])
  intro j h1 h2
  rw [List.getElem_set]
  simp only [tab, List.getElem_map, List.getElem_range]
  split
  · rename_i e; subst e; rw [if_pos (by omega)]
  · rename_i e
    by_cases h : j < k
    · rw [if_pos h, if_pos (by omega)]
    · rw [if_neg h, if_neg (by omega)]
theorem tab_all (g : Nat → Nat) (n : Nat) : tab g n n = (List.range n).map g := by
  unfold tab
  exact List.map_congr_left (fun j hj => by rw [if_pos (by simpa using hj)])
theorem nx_tab {g : Nat → Nat} {n k j : Nat} (hj : j < n) : nx (tab g n k) j = if j < k then g j else 0 := by
  rw [nx_get (by rw [tab_len]; exact hj)]; simp [tab]
theorem nx_maps {g : Nat → Nat} {n j : Nat} (hj : j < n) : nx ((List.range n).map g) j = g j := by
  rw [nx_get (by simpa using hj)]; simp
/-- Whether the loop of the first thing is of one thing alone, and the first k things have it. -/
def oneK (f : List Nat) : Nat → Bool
  | 0 => nx f (lo f 0) == lo f 0
  | k + 1 => oneK f k && (lo f k == lo f 0)
theorem oneK_iff (f : List Nat) : ∀ k, oneK f k = true ↔ nx f (lo f 0) = lo f 0 ∧ ∀ j, j < k → lo f j = lo f 0
  | 0 => by simp [oneK]
  | k + 1 => by
    rw [oneK, Bool.and_eq_true, oneK_iff f k, beq_iff_eq]
    constructor
    · rintro ⟨⟨h1, h2⟩, h3⟩
      refine ⟨h1, fun j hj => ?_⟩
      rcases Nat.lt_or_ge j k with h | h
      · exact h2 j h
      · obtain rfl : j = k := by omega
        exact h3
    · rintro ⟨h1, h2⟩
      exact ⟨⟨h1, fun j hj => h2 j (by omega)⟩, h2 k (by omega)⟩
theorem treeB_one {f : List Nat} (hf : MapN f) : treeOkI (ints f) = oneK f f.length := by
  rw [Bool.eq_iff_iff, treeB_iff hf, oneK_iff]
end Go.Proofs.Ytlbiioncpeondaa
