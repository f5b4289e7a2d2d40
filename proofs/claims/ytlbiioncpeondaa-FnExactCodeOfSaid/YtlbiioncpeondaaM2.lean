/- Plain arithmetic of maps as lists of natural numbers, and of sets as bits. -/
import Derived.Test.YtlbiioncpeondaaM1
import Derived.Laws.BitsAllLaws
namespace Go.Proofs.Ytlbiioncpeondaa
set_option linter.unusedVariables false

/-- Where a thing is led. -/
def nx (f : List Nat) (k : Nat) : Nat := f.getD k 0
def ints (f : List Nat) : List Int := f.map (fun x : Nat => (x : Int))
def toN (xs : List Int) : List Nat := xs.map Int.toNat
structure MapN (f : List Nat) : Prop where
  pos : 1 ≤ f.length
  le7 : f.length ≤ 7
  has : ∀ k, k < f.length → nx f k < f.length

theorem nx_get {f : List Nat} {k : Nat} (hk : k < f.length) : nx f k = f[k] := by simp [nx, List.getD, List.getElem?_eq_getElem hk]
theorem ints_len (f : List Nat) : (ints f).length = f.length := by simp [ints]
theorem gI_ints (f : List Nat) (k : Nat) : gI (ints f) k = (nx f k : Int) := by
  unfold gI ints nx
  simp only [List.getD, List.getElem?_map]
  cases f[k]? <;> simp
theorem ints_toN {xs : List Int} (h : ∀ x ∈ xs, 0 ≤ x) : ints (toN xs) = xs := by
  unfold ints toN
  rw [List.map_map]
  conv => rhs; rw [← List.map_id xs]
  exact List.map_congr_left (fun x hx => by simpa using Int.toNat_of_nonneg (h x hx))
theorem mapOk_ex {xs : List Int} (h : mapOk xs = true) : ∃ f, xs = ints f ∧ MapN f := by
  unfold mapOk at h
  rw [Bool.and_eq_true, decide_eq_true_eq] at h
  obtain ⟨⟨h1, h7⟩, ha⟩ := h
  have hall := allHas_iff.1 ha
  have e : ints (toN xs) = xs := ints_toN (fun x hx => by
    obtain ⟨k, hk, rfl⟩ := List.mem_iff_getElem.1 hx
    have := hall k hk
    rw [gI_get hk, hasB_iff] at this
    exact this.1)
  have hlen : (toN xs).length = xs.length := by simp [toN]
  refine ⟨toN xs, e.symm, by omega, by omega, fun k hk => ?_⟩
  have := hall k (by omega)
  rw [← e, gI_ints, hasB_iff, ints_len] at this
  omega
theorem mapOk_ints {f : List Nat} (h : MapN f) : mapOk (ints f) = true := by
  unfold mapOk
  rw [Bool.and_eq_true, decide_eq_true_eq, ints_len]
  refine ⟨⟨h.pos, h.le7⟩, allHas_iff.2 (fun k hk => ?_)⟩
  rw [ints_len] at hk
  rw [gI_ints, hasB_iff]
  have := h.has k hk
  omega

/-! ### sets as bits -/
theorem two_le {k : Nat} (hk : k ≤ 7) : 1 ≤ 2 ^ k ∧ 2 ^ k ≤ 128 := by
  have h := Nat.pow_le_pow_right (n := 2) (by omega) hk
  exact ⟨Nat.one_le_two_pow, by simpa using h⟩
theorem castPow (k : Nat) : (2 : Int) ^ k = ((2 ^ k : Nat) : Int) := by simp
theorem ofInt64 (a : Nat) (ha : a < 9223372036854775808) : (BitVec.ofInt 64 (a : Int)).toNat = a := by
  rw [BitVec.ofInt_natCast, BitVec.toNat_ofNat]; exact Nat.mod_eq_of_lt (by omega)
theorem wrapSmall (a : Nat) (ha : a < 9223372036854775808) : IntKind.i64.wrap (a : Int) = (a : Int) := IntWalk.i64_in _ (by omega)
theorem bits_and (a b : Nat) (ha : a < 9223372036854775808) (hb : b < 9223372036854775808) : bits .and .i64 (a : Int) (b : Int) = ((a &&& b : Nat) : Int) := by
  have hx : a &&& b < 2 ^ 63 := Nat.and_lt_two_pow _ (by omega)
  show IntKind.i64.wrap ((BitVec.ofInt 64 (a : Int) &&& BitVec.ofInt 64 (b : Int)).toNat : Int) = _
  rw [BitVec.toNat_and, ofInt64 a ha, ofInt64 b hb]
  exact wrapSmall _ (by omega)
theorem bits_or (a b : Nat) (ha : a < 9223372036854775808) (hb : b < 9223372036854775808) : bits .or .i64 (a : Int) (b : Int) = ((a ||| b : Nat) : Int) := by
  have hx : a ||| b < 2 ^ 63 := Nat.or_lt_two_pow (by omega) (by omega)
  show IntKind.i64.wrap ((BitVec.ofInt 64 (a : Int) ||| BitVec.ofInt 64 (b : Int)).toNat : Int) = _
  rw [BitVec.toNat_or, ofInt64 a ha, ofInt64 b hb]
  exact wrapSmall _ (by omega)
theorem bits_andNot (a b : Nat) (ha : a < 9223372036854775808) (hb : b < 9223372036854775808) : bits .andNot .i64 (a : Int) (b : Int) = ((a &&& (18446744073709551615 - b) : Nat) : Int) := by
  have hx : a &&& (18446744073709551615 - b) < 2 ^ 63 := by
    rw [Nat.and_comm]; exact Nat.and_lt_two_pow _ (by omega)
  show IntKind.i64.wrap ((BitVec.ofInt 64 (a : Int) &&& ~~~BitVec.ofInt 64 (b : Int)).toNat : Int) = _
  rw [BitVec.toNat_and, BitVec.toNat_not, ofInt64 a ha, ofInt64 b hb]
  have e : 2 ^ 64 - 1 - b = 18446744073709551615 - b := by omega
  rw [e]
  exact wrapSmall _ (by omega)

/-- The set of all things. -/
def allN (f : List Nat) : Nat := 2 ^ f.length - 1
theorem testBit_two (k j : Nat) : (2 ^ k).testBit j = decide (k = j) := Nat.testBit_two_pow
theorem and_two_ne (m k : Nat) : (m &&& 2 ^ k != 0) = m.testBit k := by
  rcases h : m.testBit k with _ | _
  · have : m &&& 2 ^ k = 0 := by
      apply Nat.eq_of_testBit_eq
      intro j
      rw [Nat.testBit_and, testBit_two, Nat.zero_testBit]
      by_cases e : k = j
      · subst e; simp [h]
      · simp [e]
    simp [this]
  · have : m &&& 2 ^ k ≠ 0 := by
      intro e
      have h2 : (m &&& 2 ^ k).testBit k = true := by simp [h]
      rw [e, Nat.zero_testBit] at h2; cases h2
    simpa using this

def ledK (f : List Nat) (m : Nat) : Nat → Nat
  | 0 => 0
  | k + 1 => if m.testBit k then ledK f m k ||| 2 ^ nx f k else ledK f m k
def led (f : List Nat) (m : Nat) : Nat := ledK f m f.length
def cfK (f : List Nat) (m : Nat) : Nat → Nat
  | 0 => 0
  | k + 1 => if m.testBit (nx f k) then cfK f m k ||| 2 ^ k else cfK f m k
def cf (f : List Nat) (m : Nat) : Nat := cfK f m f.length

theorem ledK_bit (f : List Nat) (m j : Nat) : ∀ k, (ledK f m k).testBit j = true ↔ ∃ i, i < k ∧ m.testBit i = true ∧ nx f i = j
  | 0 => by simp [ledK]
  | k + 1 => by
    have ih := ledK_bit f m j k
    unfold ledK
    split
    · rename_i h
      rw [Nat.testBit_or, Bool.or_eq_true, ih, testBit_two, decide_eq_true_eq]
      constructor
      · rintro (⟨i, hi, hb, e⟩ | e)
        · exact ⟨i, by omega, hb, e⟩
        · exact ⟨k, by omega, h, e⟩
      · rintro ⟨i, hi, hb, e⟩
        by_cases hik : i = k
        · subst hik; exact .inr e
        · exact .inl ⟨i, by omega, hb, e⟩
    · rename_i h
      rw [ih]
      constructor
      · rintro ⟨i, hi, hb, e⟩; exact ⟨i, by omega, hb, e⟩
      · rintro ⟨i, hi, hb, e⟩
        by_cases hik : i = k
        · subst hik; exact absurd hb h
        · exact ⟨i, by omega, hb, e⟩
theorem cfK_bit (f : List Nat) (m j : Nat) : ∀ k, (cfK f m k).testBit j = true ↔ j < k ∧ m.testBit (nx f j) = true
  | 0 => by simp [cfK]
  | k + 1 => by
    have ih := cfK_bit f m j k
    unfold cfK
    split
    · rename_i h
      rw [Nat.testBit_or, Bool.or_eq_true, ih, testBit_two, decide_eq_true_eq]
      constructor
      · rintro (⟨hi, hb⟩ | e)
        · exact ⟨by omega, hb⟩
        · subst e; exact ⟨by omega, h⟩
      · rintro ⟨hi, hb⟩
        by_cases hik : k = j
        · exact .inr hik
        · exact .inl ⟨by omega, hb⟩
    · rename_i h
      rw [ih]
      constructor
      · rintro ⟨hi, hb⟩; exact ⟨by omega, hb⟩
      · rintro ⟨hi, hb⟩
        by_cases hik : j = k
        · subst hik; exact absurd hb h
        · exact ⟨by omega, hb⟩
theorem led_bit (f : List Nat) (m j : Nat) : (led f m).testBit j = true ↔ ∃ i, i < f.length ∧ m.testBit i = true ∧ nx f i = j := ledK_bit f m j _
theorem cf_bit (f : List Nat) (m j : Nat) : (cf f m).testBit j = true ↔ j < f.length ∧ m.testBit (nx f j) = true := cfK_bit f m j _
theorem lt_two_of_bits {m n : Nat} (h : ∀ j, m.testBit j = true → j < n) : m < 2 ^ n := by
  apply Nat.lt_pow_two_of_testBit
  intro i hi
  rcases e : m.testBit i with _ | _
  · rfl
  · have := h i e; omega
theorem bit_lt {m n j : Nat} (h : m < 2 ^ n) (hj : m.testBit j = true) : j < n := by
  rcases Nat.lt_or_ge j n with h' | h'
  · exact h'
  · have := Nat.testBit_lt_two_pow (Nat.lt_of_lt_of_le h (Nat.pow_le_pow_right (by omega) h'))
    rw [this] at hj; cases hj
theorem ledK_lt {f : List Nat} (hf : MapN f) (m k : Nat) (hk : k ≤ f.length) : ledK f m k < 2 ^ f.length :=
  lt_two_of_bits (fun j hj => by
    obtain ⟨i, hi, _, e⟩ := (ledK_bit f m j k).1 hj
    have := hf.has i (by omega)
    omega)
theorem led_lt {f : List Nat} (hf : MapN f) (m : Nat) : led f m < 2 ^ f.length := ledK_lt hf m _ (Nat.le_refl _)
theorem cfK_lt {f : List Nat} (m k : Nat) (hk : k ≤ f.length) : cfK f m k < 2 ^ f.length :=
  lt_two_of_bits (fun j hj => by
    have := ((cfK_bit f m j k).1 hj).1
    omega)
theorem cf_lt (f : List Nat) (m : Nat) : cf f m < 2 ^ f.length := cfK_lt m _ (Nat.le_refl _)
theorem allN_bit (f : List Nat) (j : Nat) : (allN f).testBit j = decide (j < f.length) := by
  unfold allN; exact Nat.testBit_two_pow_sub_one _ _

/-! ### as the functions over whatever row -/
def setOk (xs : List Int) (s : Int) : Bool := mapOk xs && inB s 0 (((2 ^ xs.length : Nat) : Int) - 1)
theorem setOk_ex {xs : List Int} {s : Int} (h : setOk xs s = true) : ∃ f m, xs = ints f ∧ s = ((m : Nat) : Int) ∧ MapN f ∧ m < 2 ^ f.length := by
  unfold setOk at h
  rw [Bool.and_eq_true, inB_iff] at h
  obtain ⟨h1, h2, h3⟩ := h
  obtain ⟨f, rfl, hf⟩ := mapOk_ex h1
  obtain ⟨m, rfl⟩ := Int.eq_ofNat_of_zero_le h2
  refine ⟨f, m, rfl, rfl, hf, ?_⟩
  rw [ints_len] at h3
  omega
theorem setOk_ints {f : List Nat} {m : Nat} (hf : MapN f) (hm : m < 2 ^ f.length) : setOk (ints f) (m : Int) = true := by
  unfold setOk
  rw [mapOk_ints hf, Bool.true_and, inB_iff, ints_len]
  omega
end Go.Proofs.Ytlbiioncpeondaa
