/- Bundle M25. -/
import Derived.Test.YtoinlkdmfclnbaaGreatDoorYP
import Derived.Test.YtoinlkdmfclnbaaGreatDoorYV5
namespace Go.Proofs.YtoinlkdmfclnbaaGreatDoor
set_option linter.unusedVariables false
section
def hiK (f : List Nat) : Nat → Nat
 | 0 => 0
 | k + 1 => max (hiK f k) (tl f k)
def hkI (f : List Nat) (k : Nat) : Int := if k = 0 then -1 else (hiK f k : Int)
theorem hkI_pos {f : List Nat} {k : Nat} (h : 0 < k) : hkI f k = (hiK f k : Int) := by unfold hkI; rw [if_neg (by omega)]
theorem hkI_max (f : List Nat) (k : Nat) : max (hkI f k) (tl f k : Int) = hkI f (k + 1) := by
 rw [hkI_pos (Nat.succ_pos k)]
 have e : hiK f (k + 1) = max (hiK f k) (tl f k) := rfl
 rw [e]
 unfold hkI
 split
 · rename_i h
   subst h
   have e0 : hiK f 0 = 0 := rfl
   rw [e0]; omega
 · omega
theorem hkI_max' (f : List Nat) (k : Nat) : max (tl f k : Int) (hkI f k) = hkI f (k + 1) := by rw [← hkI_max]; omega
theorem tl_le6 {f : List Nat} (hf : MapN f) {k : Nat} (hk : k < f.length) : tl f k ≤ 6 := by
 have h1 := (tl_is hf hk).1
 have h2 := wl_le hf hk
 have h3 := hf.le7
 omega
theorem hiK_le {f : List Nat} (hf : MapN f) : ∀ k, k ≤ f.length → hiK f k ≤ 6
 | 0, _ => Nat.zero_le _
 | k + 1, h => by
  have h1 := hiK_le hf k (by omega)
  have h2 := tl_le6 hf (k := k) (by omega)
  have e : hiK f (k + 1) = max (hiK f k) (tl f k) := rfl
  omega
theorem hiK_all {f : List Nat} {m : Nat} : ∀ n, (∀ k, k < n → tl f k ≤ m) → hiK f n ≤ m
 | 0, _ => Nat.zero_le _
 | n + 1, h => by
  have h1 := hiK_all n (fun k hk => h k (by omega))
  have h2 := h n (Nat.lt_succ_self n)
  have e : hiK f (n + 1) = max (hiK f n) (tl f n) := rfl
  omega
def idxN (f : List Nat) : Nat := max 1 (hiK f f.length)
theorem idxN_le {f : List Nat} (hf : MapN f) : idxN f ≤ 6 := by have := hiK_le hf f.length (Nat.le_refl _); unfold idxN; omega
def perK (xss : List (List Int)) : Nat → Nat
 | 0 => 1
 | k + 1 => Nat.lcm (perK xss k) (gR xss k).length
def perN (f : List Nat) : Nat := perK (loopsN f) (loopsN f).length
theorem dvd420 {l : Nat} (h1 : 1 ≤ l) (h7 : l ≤ 7) : l ∣ 420 := by
 match l, h1, h7 with
 | 1, _, _ => decide
 | 2, _, _ => decide
 | 3, _, _ => decide
 | 4, _, _ => decide
 | 5, _, _ => decide
 | 6, _, _ => decide
 | 7, _, _ => decide
theorem perK_dvd {xss : List (List Int)} (h : ∀ k, k < xss.length → 1 ≤ (gR xss k).length ∧ (gR xss k).length ≤ 7) : ∀ k, k ≤ xss.length → perK xss k ∣ 420
 | 0, _ => Nat.one_dvd _
 | k + 1, hk => Nat.lcm_dvd (perK_dvd h k (by omega)) (dvd420 (h k (by omega)).1 (h k (by omega)).2)
theorem perK_le {xss : List (List Int)} (h : ∀ k, k < xss.length → 1 ≤ (gR xss k).length ∧ (gR xss k).length ≤ 7) {k : Nat} (hk : k ≤ xss.length) : 1 ≤ perK xss k ∧ perK xss k ≤ 420 := by
 have hd := perK_dvd h k hk
 exact ⟨Nat.pos_of_dvd_of_pos hd (by decide), Nat.le_of_dvd (by decide) hd⟩
theorem loopsK_in {f : List Nat} {x : List Int} : ∀ k, x ∈ loopsK f k → ∃ j, j < k ∧ lo f j = j ∧ x = ints (way f j)
 | 0, h => by simp [loopsK] at h
 | k + 1, h => by
  by_cases he : lo f k = k
  · rw [loopsK_t he, List.mem_append, List.mem_singleton] at h
    rcases h with h | h
    · obtain ⟨j, h1, h2⟩ := loopsK_in k h; exact ⟨j, by omega, h2⟩
    · exact ⟨k, Nat.lt_succ_self k, he, h⟩
  · rw [loopsK_f he] at h
    obtain ⟨j, h1, h2⟩ := loopsK_in k h; exact ⟨j, by omega, h2⟩
theorem loopsN_row {f : List Nat} {k : Nat} (hk : k < (loopsN f).length) : ∃ j, j < f.length ∧ lo f j = j ∧ gR (loopsN f) k = ints (way f j) := by
 obtain ⟨j, h1, h2, h3⟩ := loopsK_in f.length (x := gR (loopsN f) k) (by rw [gR_get hk]; exact List.getElem_mem hk)
 exact ⟨j, h1, h2, h3⟩
theorem loopsN_fit {f : List Nat} (hf : MapN f) (k : Nat) (hk : k < (loopsN f).length) : 1 ≤ (gR (loopsN f) k).length ∧ (gR (loopsN f) k).length ≤ 7 := by
 obtain ⟨j, hj, _, e⟩ := loopsN_row hk
 rw [e, ints_len, way, orb_len]
 have h1 := (wl_isWay hf hj).pos
 have h2 := wl_le hf hj
 have h3 := hf.le7
 exact ⟨h1, by omega⟩
theorem loopsN_len (f : List Nat) : (loopsN f).length ≤ f.length := loopsK_len f f.length
theorem perN_le {f : List Nat} (hf : MapN f) : 1 ≤ perN f ∧ perN f ≤ 420 := perK_le (loopsN_fit hf) (Nat.le_refl _)
end
end Go.Proofs.YtoinlkdmfclnbaaGreatDoor
