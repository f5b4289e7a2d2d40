/- Plain arithmetic: the things met on a way, as bits. -/
import Derived.Test.YtlbiioncpeondaaM4
namespace Go.Proofs.Ytlbiioncpeondaa
set_option linter.unusedVariables false
def seenK (f : List Nat) (k : Nat) : Nat → Nat
  | 0 => 0
  | i + 1 => seenK f k i ||| 2 ^ it f i k
theorem seenK_bit (f : List Nat) (k x : Nat) : ∀ i, (seenK f k i).testBit x = true ↔ x ∈ orb f k i
  | 0 => by simp [seenK, orb]
  | i + 1 => by
    rw [seenK, or_bit, seenK_bit f k x i, orb_succ, testBit_two, decide_eq_true_eq, List.mem_append, List.mem_singleton]
    constructor
    · rintro (h | h)
      · exact .inl h
      · exact .inr h.symm
    · rintro (h | h)
      · exact .inl h
      · exact .inr h.symm
theorem seenK_lt {f : List Nat} (hf : MapN f) {k : Nat} (hk : k < f.length) (i : Nat) : seenK f k i < 2 ^ f.length :=
  lt_two_of_bits (fun j hj => by
    obtain ⟨a, _, rfl⟩ := mem_orb.1 ((seenK_bit f k j i).1 hj)
    exact it_lt hf hk a)
theorem seenK_grow {f : List Nat} {k i : Nat} (h : it f i k ∉ orb f k i) : seenK f k i < seenK f k (i + 1) := by
  have h1 : sub (seenK f k i) (seenK f k (i + 1)) := sub_or_left _ _
  have h2 := sub_le h1
  rcases Nat.lt_or_ge (seenK f k i) (seenK f k (i + 1)) with h3 | h3
  · exact h3
  · exfalso
    have e : seenK f k i = seenK f k (i + 1) := by omega
    apply h
    rw [← seenK_bit, e, seenK_bit, orb_succ]
    simp
theorem way_done {f : List Nat} (hf : MapN f) {k i : Nat} (hk : k < f.length) (h1 : 1 ≤ i) (hd : (orb f k i).Nodup) (hb : it f i k ∈ orb f k i) : i = wl f k :=
  isWay_unique ⟨h1, hd, hb⟩ (wl_isWay hf hk)
theorem ints_append (a b : List Nat) : ints (a ++ b) = ints a ++ ints b := by simp [ints]
theorem ints_single (a : Nat) : ints [a] = [(a : Int)] := rfl
theorem ints_orb_succ (f : List Nat) (k i : Nat) : ints (orb f k (i + 1)) = ints (orb f k i) ++ [(it f i k : Int)] := by rw [orb_succ, ints_append, ints_single]

/-! ### sets, as the walks meet them -/
theorem closedN_iff {f : List Nat} {m : Nat} : (led f m &&& m == led f m) = true ↔ sub (led f m) m := by rw [beq_iff_eq, sub_and]
theorem grow_of_not {f : List Nat} {x : Nat} (h : ¬ sub (led f x) x) : x < x ||| led f x := by
  have h1 := sub_le (sub_or_left x (led f x))
  rcases Nat.lt_or_ge x (x ||| led f x) with h3 | h3
  · exact h3
  · exfalso
    have e : x ||| led f x = x := by omega
    apply h
    have := sub_or_right x (led f x)
    rwa [e] at this
theorem fall_of_ne {f : List Nat} {x : Nat} (h : sub (led f x) x) (hne : led f x ≠ x) : led f x < x := by
  have := sub_le h; omega
end Go.Proofs.Ytlbiioncpeondaa
