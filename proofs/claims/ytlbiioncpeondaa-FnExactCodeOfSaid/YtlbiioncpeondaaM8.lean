/- Plain laws: the least thing of a loop, loops told by their least things, one loop of one thing (trees). -/
import Derived.Test.YtlbiioncpeondaaM5
namespace Go.Proofs.Ytlbiioncpeondaa
set_option linter.unusedVariables false

/-- the least of it f i k over lo ≤ i < lo + n -/
def loGo (f : List Nat) (k : Nat) (a : Nat) : Nat → Nat
  | 0 => it f a k
  | n + 1 => min (loGo f k a n) (it f (a + n) k)
def lo (f : List Nat) (k : Nat) : Nat := loGo f k (tl f k) (ll f k)
theorem loGo_le (f : List Nat) (k a : Nat) : ∀ n i, i < n → loGo f k a n ≤ it f (a + i) k
  | n + 1, i, hi => by
    rw [loGo]
    rcases Nat.lt_or_ge i n with h | h
    · have := loGo_le f k a n i h; omega
    · obtain rfl : i = n := by omega
      omega
theorem loGo_mem (f : List Nat) (k a : Nat) : ∀ n, 1 ≤ n → ∃ i, i < n ∧ it f (a + i) k = loGo f k a n
  | 0, h => by omega
  | 1, _ => ⟨0, by omega, by simp [loGo]⟩
  | n + 2, _ => by
    obtain ⟨i, hi, e⟩ := loGo_mem f k a (n + 1) (by omega)
    rw [loGo]
    rcases Nat.le_total (loGo f k a (n + 1)) (it f (a + (n + 1)) k) with h | h
    · exact ⟨i, by omega, by rw [e]; omega⟩
    · exact ⟨n + 1, by omega, by omega⟩
theorem lo_le {f : List Nat} {k i : Nat} (h1 : tl f k ≤ i) (h2 : i < wl f k) : lo f k ≤ it f i k := by
  have := loGo_le f k (tl f k) (ll f k) (i - tl f k) (by unfold ll; omega)
  rwa [show tl f k + (i - tl f k) = i by omega] at this
theorem lo_mem {f : List Nat} (hf : MapN f) {k : Nat} (hk : k < f.length) : ∃ i, tl f k ≤ i ∧ i < wl f k ∧ it f i k = lo f k := by
  obtain ⟨i, hi, e⟩ := loGo_mem f k (tl f k) (ll f k) (ll_pos hf hk)
  exact ⟨tl f k + i, by omega, by unfold ll at hi; omega, e⟩
/-- Whatever is least there is it. -/
theorem lo_eq {f : List Nat} (hf : MapN f) {k r : Nat} (hk : k < f.length) (h : ∃ i, tl f k ≤ i ∧ i < wl f k ∧ it f i k = r) (hl : ∀ i, tl f k ≤ i → i < wl f k → r ≤ it f i k) : r = lo f k := by
  obtain ⟨i, h1, h2, e⟩ := h
  obtain ⟨j, g1, g2, e'⟩ := lo_mem hf hk
  have a := lo_le h1 h2
  have b := hl j g1 g2
  omega
theorem lo_lt {f : List Nat} (hf : MapN f) {k : Nat} (hk : k < f.length) : lo f k < f.length := by
  obtain ⟨i, _, _, e⟩ := lo_mem hf hk
  rw [← e]; exact it_lt hf hk i
/-- The least thing of a loop lies on it. -/
theorem lo_on {f : List Nat} (hf : MapN f) {k : Nat} (hk : k < f.length) : onL f (lo f k) = true := by
  obtain ⟨i, h1, _, e⟩ := lo_mem hf hk
  rw [← e]; exact onL_it hf hk i h1
theorem onL_of_lo {f : List Nat} (hf : MapN f) {k : Nat} (hk : k < f.length) (h : lo f k = k) : onL f k = true := by
  have := lo_on hf hk
  rwa [h] at this
/-- the loops told by their least things, among the first things -/
def loopsK (f : List Nat) : Nat → List (List Int)
  | 0 => []
  | k + 1 => if lo f k = k then loopsK f k ++ [ints (way f k)] else loopsK f k
theorem loopsK_len (f : List Nat) : ∀ k, (loopsK f k).length ≤ k
  | 0 => Nat.le_refl _
  | k + 1 => by
    have := loopsK_len f k
    unfold loopsK; split
    · rw [List.length_append]; simp; omega
    · omega
theorem loopsK_t {f : List Nat} {k : Nat} (h : lo f k = k) : loopsK f (k + 1) = loopsK f k ++ [ints (way f k)] := by rw [loopsK, if_pos h]
theorem loopsK_f {f : List Nat} {k : Nat} (h : ¬ lo f k = k) : loopsK f (k + 1) = loopsK f k := by rw [loopsK, if_neg h]
def loopsN (f : List Nat) : List (List Int) := loopsK f f.length
def treeB (f : List Nat) : Bool := decide ((loopsN f).length = 1 ∧ ((loopsN f).getD 0 []).length = 1)
end Go.Proofs.Ytlbiioncpeondaa
