/- Plain laws of sets: opposites, what comes from them, how many things, maps that can be turned round. -/
import Derived.Test.YtlbiioncpeondaaM5
import Derived.Test.YtlbiioncpeondaaM6
namespace Go.Proofs.Ytlbiioncpeondaa
set_option linter.unusedVariables false

theorem compl_bit {m n j : Nat} (hm : m < 2 ^ n) : (2 ^ n - 1 - m).testBit j = (decide (j < n) && !m.testBit j) := by
  rw [Nat.sub_sub, Nat.add_comm 1 m, Nat.testBit_two_pow_sub_succ hm]
theorem cf_compl {f : List Nat} (hf : MapN f) {m : Nat} (hm : m < 2 ^ f.length) : cf f (allN f - m) = allN f - cf f m := by
  apply Nat.eq_of_testBit_eq
  intro j
  rw [Bool.eq_iff_iff, cf_bit]
  unfold allN
  rw [compl_bit (cf_lt f m), compl_bit hm]
  constructor
  · rintro ⟨hj, h⟩
    have := hf.has j hj
    simp only [this, decide_true, Bool.true_and, Bool.not_eq_true'] at h
    simp only [hj, decide_true, Bool.true_and, Bool.not_eq_true']
    rcases e : (cf f m).testBit j with _ | _
    · rfl
    · have := ((cf_bit f m j).1 e).2; rw [h] at this; cases this
  · intro h
    rw [Bool.and_eq_true, decide_eq_true_eq] at h
    obtain ⟨hj, hn⟩ := h
    refine ⟨hj, ?_⟩
    have := hf.has j hj
    simp only [this, decide_true, Bool.true_and, Bool.not_eq_true']
    rcases e : m.testBit (nx f j) with _ | _
    · rfl
    · have := (cf_bit f m j).2 ⟨hj, e⟩
      rw [this] at hn; cases hn
theorem cf_sum {f : List Nat} (hf : MapN f) {m : Nat} (hm : m < 2 ^ f.length) : cf f m + cf f (allN f - m) = allN f := by
  rw [cf_compl hf hm]
  have := cf_lt f m
  unfold allN; omega
theorem led_cf {f : List Nat} (m : Nat) (hm : m < 2 ^ f.length) : led f (cf f m) = m &&& led f (allN f) := by
  apply Nat.eq_of_testBit_eq
  intro j
  rw [Bool.eq_iff_iff, led_bit, Nat.testBit_and, Bool.and_eq_true, led_bit]
  constructor
  · rintro ⟨i, hi, hb, rfl⟩
    exact ⟨((cf_bit f m i).1 hb).2, i, hi, by rw [allN_bit]; simpa using hi, rfl⟩
  · rintro ⟨hj, i, hi, _, rfl⟩
    exact ⟨i, hi, (cf_bit f m i).2 ⟨hi, hj⟩, rfl⟩

/-! ### how many things -/
def pc (m : Nat) : Nat → Nat
  | 0 => 0
  | k + 1 => pc m k + if m.testBit k then 1 else 0
theorem pc_le (m : Nat) : ∀ k, pc m k ≤ k
  | 0 => Nat.le_refl _
  | k + 1 => by have := pc_le m k; unfold pc; split <;> omega
theorem pc_len (m : Nat) : ∀ k, pc m k = ((List.range k).filter (fun j => m.testBit j)).length
  | 0 => rfl
  | k + 1 => by
    rw [pc, pc_len m k, List.range_succ, List.filter_append, List.length_append]
    rcases h : m.testBit k with _ | _ <;> simp [h]
theorem pc_led {f : List Nat} (hf : MapN f) {m : Nat} : pc (led f m) f.length ≤ pc m f.length := by
  rw [pc_len, pc_len]
  have h := nodup_len_le ((List.range f.length).filter (fun j => (led f m).testBit j)) (((List.range f.length).filter (fun j => m.testBit j)).map (nx f)) (List.nodup_range.filter _) (fun x hx => by
    rw [List.mem_filter, List.mem_range] at hx
    obtain ⟨i, hi, hb, e⟩ := (led_bit f m x).1 hx.2
    rw [List.mem_map]
    exact ⟨i, by rw [List.mem_filter, List.mem_range]; exact ⟨hi, hb⟩, e⟩)
  rwa [List.length_map] at h

/-! ### closed sets -/
theorem closed_cf {f : List Nat} {m : Nat} (h : sub (led f m) m) (hm : m < 2 ^ f.length) : sub (led f (cf f m)) (cf f m) := by
  rw [closed_iff]
  intro k hk hb
  have h2 := ((cf_bit f m k).1 hb).2
  have h3 := bit_lt hm h2
  exact (cf_bit f m _).2 ⟨h3, closed_iff.1 h _ h3 h2⟩
theorem closed_led {f : List Nat} {m : Nat} (h : sub (led f m) m) : sub (led f (led f m)) (led f m) := led_mono h

/-! ### maps that can be turned round -/
def turned (f : List Nat) : Bool := decide f.Nodup
theorem nodup_all {f : List Nat} (hf : MapN f) (hd : f.Nodup) {j : Nat} (hj : j < f.length) : j ∈ f := by
  apply Classical.byContradiction
  intro hn
  have := nodup_len_le f ((List.range f.length).erase j) hd (fun x hx => by
    obtain ⟨k, hk, rfl⟩ := List.mem_iff_getElem.1 hx
    have hlt := hf.has k hk
    rw [nx_get hk] at hlt
    exact (List.mem_erase_of_ne (fun e => hn (by rw [← e]; exact hx))).2 (by simpa using hlt))
  rw [List.length_erase_of_mem (by simpa using hj), List.length_range] at this
  omega
theorem all_nodup {f : List Nat} (h : ∀ j, j < f.length → j ∈ f) : f.Nodup := by
  refine List.pairwise_iff_getElem.2 ?_
  intro i k hi hk hik e2
  have hl := nodup_len_le (List.range f.length) (f.eraseIdx k) List.nodup_range (fun x hx => by
    have hm := h x (by simpa using hx)
    rw [List.mem_iff_getElem] at hm
    obtain ⟨a, ha, rfl⟩ := hm
    rw [List.mem_eraseIdx_iff_getElem]
    by_cases hak : a = k
    · subst hak
      exact ⟨i, hi, by omega, e2⟩
    · exact ⟨a, ha, hak, rfl⟩)
  rw [List.length_range, List.length_eraseIdx_of_lt hk] at hl
  omega
theorem garden_zero {f : List Nat} (hf : MapN f) : allN f - led f (allN f) = 0 ↔ turned f = true := by
  unfold turned
  rw [decide_eq_true_eq]
  have hle : led f (allN f) ≤ allN f := by have := led_lt hf (allN f); unfold allN; unfold allN at this; omega
  constructor
  · intro h
    have e : led f (allN f) = allN f := by omega
    apply all_nodup
    intro j hj
    have hb : (led f (allN f)).testBit j = true := by rw [e, allN_bit]; simpa using hj
    obtain ⟨i, hi, _, e2⟩ := (led_bit f _ j).1 hb
    rw [← e2, nx_get hi]; exact List.getElem_mem hi
  · intro hd
    have e : led f (allN f) = allN f := by
      apply sub_antisymm
      · exact sub_all.2 (led_lt hf _)
      · intro j hj
        rw [allN_bit, decide_eq_true_eq] at hj
        obtain ⟨i, hi, e2⟩ := List.mem_iff_getElem.1 (nodup_all hf hd hj)
        exact (led_bit f _ j).2 ⟨i, hi, by rw [allN_bit]; simpa using hi, by rw [nx_get hi]; exact e2⟩
    omega
theorem garden_none {f : List Nat} (hf : MapN f) : cf f (allN f - led f (allN f)) = 0 := by
  apply Nat.eq_of_testBit_eq
  intro j
  rw [Nat.zero_testBit]
  rcases e : (cf f (allN f - led f (allN f))).testBit j with _ | _
  · rfl
  · exfalso
    obtain ⟨hj, hb⟩ := (cf_bit f _ j).1 e
    have hl := led_lt hf (allN f)
    unfold allN at hb hl
    rw [compl_bit hl, Bool.and_eq_true] at hb
    have h2 : (led f (2 ^ f.length - 1)).testBit (nx f j) = true := led_bit_of hj (by have := allN_bit f j; unfold allN at this; rw [this]; simpa using hj)
    rw [h2] at hb; simp at hb
/-- The map turned round, its first k things laid. -/
def backK (f : List Nat) : Nat → List Nat
  | 0 => List.replicate f.length 0
  | k + 1 => (backK f k).set (nx f k) k
def backN (f : List Nat) : List Nat := backK f f.length
theorem backK_len (f : List Nat) : ∀ k, (backK f k).length = f.length
  | 0 => by simp [backK]
  | k + 1 => by rw [backK, List.length_set, backK_len f k]
/-- the things met so far, as bits -/
def metK (f : List Nat) : Nat → Nat
  | 0 => 0
  | k + 1 => metK f k ||| 2 ^ nx f k
theorem metK_bit (f : List Nat) (x : Nat) : ∀ k, (metK f k).testBit x = true ↔ ∃ i, i < k ∧ nx f i = x
  | 0 => by simp [metK]
  | k + 1 => by
    rw [metK, or_bit, metK_bit f x k, testBit_two, decide_eq_true_eq]
    constructor
    · rintro (⟨i, hi, e⟩ | e)
      · exact ⟨i, by omega, e⟩
      · exact ⟨k, by omega, e⟩
    · rintro ⟨i, hi, e⟩
      by_cases hik : i = k
      · subst hik; exact .inr e
      · exact .inl ⟨i, by omega, e⟩
theorem metK_lt {f : List Nat} (hf : MapN f) {k : Nat} (hk : k ≤ f.length) : metK f k < 128 :=
  lt_two_of_bits (n := 7) (fun j hj => by
    obtain ⟨i, hi, e⟩ := (metK_bit f j k).1 hj
    have := hf.has i (by omega); have := hf.le7; omega)
theorem turned_not {f : List Nat} {k : Nat} (hk : k < f.length) (h : (metK f k).testBit (nx f k) = true) : turned f = false := by
  unfold turned
  rw [decide_eq_false_iff_not]
  intro hd
  obtain ⟨i, hi, e⟩ := (metK_bit f _ k).1 h
  rw [nx_get (by omega), nx_get hk] at e
  have := (List.getElem_inj hd).1 e
  omega
theorem turned_yes {f : List Nat} (h : ∀ k, k < f.length → (metK f k).testBit (nx f k) = false) : turned f = true := by
  unfold turned
  rw [decide_eq_true_eq]
  refine List.pairwise_iff_getElem.2 ?_
  intro i k hi hk hik e2
  have := h k hk
  have hm : (metK f k).testBit (nx f k) = true := (metK_bit f _ k).2 ⟨i, hik, by rw [nx_get (by omega), nx_get hk]; exact e2⟩
  rw [hm] at this; cases this
end Go.Proofs.Ytlbiioncpeondaa
