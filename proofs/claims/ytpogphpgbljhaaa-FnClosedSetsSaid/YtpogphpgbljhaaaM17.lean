/- Plain laws: closed sets as a row: of two both together, and what they have in common; the first and the last; how many there are. -/
import Derived.Test.YtpogphpgbljhaaaW54
namespace Go.Proofs.Ytpogphpgbljhaaa
set_option linter.unusedVariables false

theorem clsN_mem {f : List Nat} {x : Nat} : x ∈ clsN f ↔ x < 2 ^ f.length ∧ closedN f x = true := by
  unfold clsN parts
  rw [List.mem_filter, List.mem_range]
theorem clsN_nx {f : List Nat} {k : Nat} (hk : k < (clsN f).length) : nx (clsN f) k < 2 ^ f.length ∧ closedN f (nx (clsN f) k) = true := by
  rw [nx_get hk]; exact clsN_mem.1 (List.getElem_mem hk)
theorem clsN_has {f : List Nat} {x : Nat} (h1 : x < 2 ^ f.length) (h2 : closedN f x = true) : hasI (ints (clsN f)) (x : Int) = true := by
  rw [hasI_ints, clsN, parts_has _ h1, h2]
theorem closed_or {f : List Nat} {a b : Nat} (h : closedN f a = true) (k : closedN f b = true) : closedN f (a ||| b) = true := by
  have ha := closed_iff.1 (closedN_iff.1 h)
  have hb := closed_iff.1 (closedN_iff.1 k)
  refine closedN_iff.2 (closed_iff.2 (fun j hj hx => ?_))
  rcases (or_bit _ _ _).1 hx with h1 | h1
  · exact (or_bit _ _ _).2 (.inl (ha j hj h1))
  · exact (or_bit _ _ _).2 (.inr (hb j hj h1))
theorem closed_and {f : List Nat} {a b : Nat} (h : closedN f a = true) (k : closedN f b = true) : closedN f (a &&& b) = true := by
  have ha := closed_iff.1 (closedN_iff.1 h)
  have hb := closed_iff.1 (closedN_iff.1 k)
  refine closedN_iff.2 (closed_iff.2 (fun j hj hx => ?_))
  rw [Nat.testBit_and, Bool.and_eq_true] at hx ⊢
  exact ⟨ha j hj hx.1, hb j hj hx.2⟩
theorem closed_zero (f : List Nat) : closedN f 0 = true := closedN_iff.2 (closed_iff.2 (fun j _ h => by simp at h))
theorem closed_all {f : List Nat} (hf : MapN f) : closedN f (allN f) = true := closedN_iff.2 (closed_iff.2 (fun j hj _ => by rw [allN_bit]; exact decide_eq_true (hf.has j hj)))
theorem clsN_asc (f : List Nat) : Asc (ints (clsN f)) := parts_asc _ _
theorem clsN_lt {f : List Nat} {i j : Nat} (h : i < j) (hj : j < (clsN f).length) : nx (clsN f) i < nx (clsN f) j := by
  have hp : (clsN f).Pairwise (· < ·) := List.pairwise_lt_range.filter _
  have := List.pairwise_iff_getElem.1 hp i j (by omega) hj h
  rwa [nx_get (by omega), nx_get hj]
theorem clsN_pos {f : List Nat} (hf : MapN f) : 0 < (clsN f).length := by
  have := two_le hf.le7
  exact List.length_pos_of_mem (clsN_mem.2 ⟨by omega, closed_zero f⟩)
theorem clsN_first {f : List Nat} (hf : MapN f) : nx (clsN f) 0 = 0 := by
  have := two_le hf.le7
  obtain ⟨i, hi, e⟩ := List.mem_iff_getElem.1 (clsN_mem.2 ⟨show 0 < 2 ^ f.length by omega, closed_zero f⟩)
  rw [← nx_get hi] at e
  by_cases h0 : i = 0
  · subst h0; exact e
  · have := clsN_lt (f := f) (i := 0) (j := i) (by omega) hi
    omega
theorem clsN_last {f : List Nat} (hf : MapN f) : nx (clsN f) ((clsN f).length - 1) = 2 ^ f.length - 1 := by
  have h2 := two_le hf.le7
  have hp := clsN_pos hf
  obtain ⟨i, hi, e⟩ := List.mem_iff_getElem.1 (clsN_mem.2 ⟨allN_lt f, closed_all hf⟩)
  rw [← nx_get hi] at e
  have hl := (clsN_nx (f := f) (k := (clsN f).length - 1) (by omega)).1
  unfold allN at e
  by_cases h0 : i = (clsN f).length - 1
  · rw [← h0]; exact e
  · have := clsN_lt (f := f) (i := i) (j := (clsN f).length - 1) (by omega) (by omega)
    omega

/-! ### more closed sets than loops -/
def reps (f : List Nat) (K : Nat) : List Nat := parts (fun k => lo f k == k) K
theorem loopsK_reps (f : List Nat) : ∀ K, (loopsK f K).length = (reps f K).length
  | 0 => rfl
  | K + 1 => by
    have ih := loopsK_reps f K
    unfold reps at *
    by_cases h : lo f K = K
    · rw [loopsK_t h, parts_t (p := fun k => lo f k == k) (by simpa using h), List.length_append, List.length_append, ih]; rfl
    · rw [loopsK_f h, parts_f (p := fun k => lo f k == k) (by simpa using h), ih]
theorem two_lt {f : List Nat} {k : Nat} (hk : k < f.length) : 2 ^ k < 2 ^ f.length := Nat.pow_lt_pow_right (by omega) hk
theorem around_self {f : List Nat} (hf : MapN f) {k : Nat} (hk : k < f.length) : (aroundN f (2 ^ k)).testBit k = true :=
  aroundN_has hf (two_lt hk) k (by rw [testBit_two]; simp)
theorem around_one {f : List Nat} (hf : MapN f) {k j : Nat} : (aroundN f (2 ^ k)).testBit j = true → ∃ i, it f i k = j := fun h => by
  obtain ⟨x, i, _, hb, e⟩ := (aroundN_bit hf).1 h
  rw [testBit_two, decide_eq_true_eq] at hb
  subst hb
  exact ⟨i, e⟩
theorem reps_inj {f : List Nat} (hf : MapN f) {j k : Nat} (hj : j < f.length) (hk : k < f.length) (h1 : lo f j = j) (h2 : lo f k = k) (e : aroundN f (2 ^ j) = aroundN f (2 ^ k)) : j = k := by
  have ho1 := onL_of_lo hf hj h1
  have ho2 := onL_of_lo hf hk h2
  have ht1 : tl f j = 0 := by simpa [onL] using ho1
  have ht2 : tl f k = 0 := by simpa [onL] using ho2
  obtain ⟨i, hi⟩ := around_one hf (k := k) (j := j) (by rw [← e]; exact around_self hf hj)
  obtain ⟨i', hi'⟩ := around_one hf (k := j) (j := k) (by rw [e]; exact around_self hf hk)
  have a := lo_le_all hf hk (i := i) (by omega)
  have b := lo_le_all hf hj (i := i') (by omega)
  rw [hi, h2] at a
  rw [hi', h1] at b
  omega
theorem loops_lt {f : List Nat} (hf : MapN f) : (loopsN f).length < (clsN f).length := by
  have h2 := two_le hf.le7
  have hl : (loopsN f).length = (reps f f.length).length := loopsK_reps f _
  have hm : ∀ k ∈ reps f f.length, k < f.length ∧ lo f k = k := fun k hk => by
    unfold reps parts at hk
    rw [List.mem_filter, List.mem_range, beq_iff_eq] at hk
    exact hk
  have hnd : (reps f f.length).Nodup := (List.nodup_range).filter _
  have := nodup_len_le (0 :: (reps f f.length).map (fun k => aroundN f (2 ^ k))) (clsN f) (by
    rw [List.nodup_cons]
    refine ⟨fun h => ?_, ?_⟩
    · obtain ⟨k, hk, e⟩ := List.mem_map.1 h
      have := around_self hf (hm k hk).1
      rw [e] at this; simp at this
    · unfold List.Nodup
      rw [List.pairwise_map]
      exact hnd.imp_of_mem (fun {a b} ha hb hne e => hne (reps_inj hf (hm a ha).1 (hm b hb).1 (hm a ha).2 (hm b hb).2 e))) (fun x hx => by
    rw [List.mem_cons] at hx
    rcases hx with rfl | hx
    · exact clsN_mem.2 ⟨by omega, closed_zero f⟩
    · obtain ⟨k, hk, rfl⟩ := List.mem_map.1 hx
      exact clsN_mem.2 ⟨aroundN_lt f _, closedN_iff.2 (aroundN_closed hf _)⟩)
  simp at this
  omega
/-! ### the way as a set -/
theorem add_bit : ∀ a, a < 128 → ∀ t, t < 7 → a.testBit t = false → a + 2 ^ t = a ||| 2 ^ t := by decide +kernel
theorem seenK_add {f : List Nat} (hf : MapN f) {k : Nat} (hk : k < f.length) {i : Nat} (h : i < wl f k) : seenK f k i + 2 ^ it f i k = seenK f k (i + 1) := by
  have h7 := hf.le7
  have hs := seenK_lt hf hk i
  have h2 := (two_le h7).2
  refine add_bit _ (by omega) _ (by have := it_lt hf hk i; omega) ?_
  rcases e : (seenK f k i).testBit (it f i k) with _ | _
  · rfl
  · obtain ⟨j, hj, ej⟩ := mem_orb.1 ((seenK_bit f k _ i).1 e)
    have := orb_inj (wl_isWay hf hk).nodup (a := j) (b := i) (by omega) h ej
    omega
theorem seen_around {f : List Nat} (hf : MapN f) {k : Nat} (hk : k < f.length) : seenK f k (wl f k) = aroundN f (2 ^ k) := by
  apply Nat.eq_of_testBit_eq
  intro j
  rw [Bool.eq_iff_iff, seenK_bit]
  constructor
  · intro h
    obtain ⟨i, e⟩ := (mem_way hf hk).1 h
    exact (aroundN_bit hf).2 ⟨k, i, hk, by rw [testBit_two]; simp, e⟩
  · intro h
    obtain ⟨i, e⟩ := around_one hf h
    exact (mem_way hf hk).2 ⟨i, e⟩
end Go.Proofs.Ytpogphpgbljhaaa
