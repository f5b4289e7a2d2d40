/- Plain laws: images and leaves as parts of all things. -/
import Derived.Test.YtlbiioncpeondaaM13
namespace Go.Proofs.Ytlbiioncpeondaa
set_option linter.unusedVariables false

def hasI (xs : List Int) (v : Int) : Bool := decide (v ∈ xs)
theorem hasI_no {xs : List Int} {v : Int} (h : ∀ j, j < xs.length → gI xs j ≠ v) : hasI xs v = false := by
  refine decide_eq_false (fun hm => ?_)
  obtain ⟨j, hj, e⟩ := List.mem_iff_getElem.1 hm
  exact h j hj (by rw [gI_get hj]; exact e)
theorem hasI_yes {xs : List Int} {v : Int} {j : Nat} (hj : j < xs.length) (h : gI xs j = v) : hasI xs v = true :=
  decide_eq_true (by rw [← h, gI_get hj]; exact List.getElem_mem hj)
theorem hasI_ints (f : List Nat) (k : Nat) : hasI (ints f) (k : Int) = f.contains k := by
  rw [Bool.eq_iff_iff]
  unfold hasI ints
  simp only [decide_eq_true_eq, List.mem_map, List.contains_iff_mem]
  constructor
  · rintro ⟨x, hx, e⟩
    obtain rfl : x = k := by omega
    exact hx
  · intro h; exact ⟨k, h, rfl⟩
/-- the first k things with p -/
def parts (p : Nat → Bool) (k : Nat) : List Nat := (List.range k).filter p
theorem parts_t {p : Nat → Bool} {k : Nat} (h : p k = true) : parts p (k + 1) = parts p k ++ [k] := by simp [parts, List.range_succ, List.filter_append, h]
theorem parts_f {p : Nat → Bool} {k : Nat} (h : p k = false) : parts p (k + 1) = parts p k := by simp [parts, List.range_succ, List.filter_append, h]
theorem parts_len (p : Nat → Bool) (k : Nat) : (parts p k).length ≤ k := by
  have := List.length_filter_le p (List.range k)
  simpa [parts] using this
theorem parts_has (p : Nat → Bool) {n k : Nat} (hk : k < n) : (parts p n).contains k = p k := by
  rw [Bool.eq_iff_iff]
  simp [parts, hk]
theorem parts_both (p : Nat → Bool) : ∀ n, (parts p n).length + (parts (fun k => !p k) n).length = n
  | 0 => rfl
  | n + 1 => by
    have ih := parts_both p n
    rcases h : p n with _ | _
    · rw [parts_f h, parts_t (p := fun k => !p k) (by simp [h]), List.length_append]; simp; omega
    · rw [parts_t h, parts_f (p := fun k => !p k) (by simp [h]), List.length_append]; simp; omega
def Asc (xs : List Int) : Prop := ∀ i, i + 1 < xs.length → gI xs i < gI xs (i + 1)
theorem parts_asc (p : Nat → Bool) (n : Nat) : Asc (ints (parts p n)) := fun i hi => by
  rw [ints_len] at hi
  have hp : (parts p n).Pairwise (· < ·) := List.pairwise_lt_range.filter p
  have := List.pairwise_iff_getElem.1 hp i (i + 1) (by omega) hi (by omega)
  rw [gI_ints, gI_ints, nx_get (by omega), nx_get hi]
  omega
/-- the image -/
def imgN (f : List Nat) : List Nat := parts (fun k => f.contains k) f.length
theorem lvX_parts {f : List Nat} (hf : MapN f) : ∀ k, lvX (ints f) k = ints (parts (fun j => !f.contains j) k)
  | 0 => rfl
  | k + 1 => by
    have ih := lvX_parts hf k
    have hc := fromI_count hf k
    rcases h : f.contains k with _ | _
    · have h0 : f.count k = 0 := List.count_eq_zero.2 (by simpa using h)
      rw [lvX_t (by omega), parts_t (p := fun j => !f.contains j) (by simp only [h]; rfl), ih, ints_append, ints_single]
    · have h0 : f.count k ≠ 0 := fun e => by
        have := List.count_eq_zero.1 e
        exact this (by simpa using h)
      rw [lvX_f (by omega), parts_f (p := fun j => !f.contains j) (by simp only [h]; rfl), ih]
theorem leaf_ex {f : List Nat} {r : Nat} (h : TreeN f r) (h2 : 2 ≤ f.length) : 0 < (parts (fun j => !f.contains j) f.length).length := by
  obtain ⟨h1, hf⟩ := Dgs.free h (a := 0) (by omega)
  have hl := (freeT_iff.1 hf).2.2
  refine List.length_pos_of_mem (a := dg f r 0) ?_
  unfold parts
  rw [List.mem_filter, List.mem_range]
  refine ⟨h1, ?_⟩
  rw [Bool.not_eq_true']
  rcases e : f.contains (dg f r 0) with _ | _
  · rfl
  · exfalso
    have hm : dg f r 0 ∈ f := by simpa using e
    obtain ⟨j, hj, ej⟩ := List.mem_iff_getElem.1 hm
    exact hl j hj (by simp [dgs]) (by rw [nx_get hj]; exact ej)
end Go.Proofs.Ytlbiioncpeondaa
