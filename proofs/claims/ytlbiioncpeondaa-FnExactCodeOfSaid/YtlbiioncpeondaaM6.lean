/- Plain arithmetic of codes of trees: the leaves that a row takes away, one by one. -/
import Derived.Test.YtlbiioncpeondaaM5
namespace Go.Proofs.Ytlbiioncpeondaa
set_option linter.unusedVariables false

theorem nodup_len_le {α : Type} [DecidableEq α] : ∀ (l m : List α), l.Nodup → (∀ x ∈ l, x ∈ m) → l.length ≤ m.length
  | [], m, _, _ => by simp
  | a :: l, m, hd, h => by
    have hd' := List.nodup_cons.1 hd
    have ha : a ∈ m := h a (by simp)
    have := nodup_len_le l (m.erase a) hd'.2 (fun x hx => by
      have hne : x ≠ a := fun e => hd'.1 (by rw [← e]; exact hx)
      exact (List.mem_erase_of_ne hne).2 (h x (List.mem_cons_of_mem _ hx)))
    rw [List.length_erase_of_mem ha] at this
    have hpos : 0 < m.length := List.length_pos_of_mem ha
    simp only [List.length_cons]; omega

/-- A row that may be a code. -/
structure CodeN (c : List Nat) : Prop where
  le6 : c.length ≤ 6
  has : ∀ x ∈ c, x ≤ c.length
/-- The root. -/
def rt (c : List Nat) : Nat := if c.length = 0 then 0 else nx c (c.length - 1)
theorem rt_le {c : List Nat} (hc : CodeN c) : rt c ≤ c.length := by
  unfold rt
  split
  · omega
  · rw [nx_get (by omega)]; exact hc.has _ (List.getElem_mem _)
theorem nx_mem_drop {c : List Nat} {a : Nat} (h : a < c.length) : nx c a ∈ c.drop a := by
  rw [nx_get h]; exact List.mem_drop_iff_getElem.2 ⟨0, by omega, by simp⟩
theorem nx_le {c : List Nat} (hc : CodeN c) {a : Nat} (h : a < c.length) : nx c a ≤ c.length := by
  rw [nx_get h]; exact hc.has _ (List.getElem_mem _)
theorem drop_succ_eq {c : List Nat} {a : Nat} (h : a < c.length) : c.drop a = nx c a :: c.drop (a + 1) := by
  rw [nx_get h, List.drop_eq_getElem_cons h]
theorem rt_mem_drop {c : List Nat} {a : Nat} (h : a < c.length) : rt c ∈ c.drop a := by
  unfold rt
  rw [if_neg (by omega), nx_get (by omega)]
  exact List.mem_drop_iff_getElem.2 ⟨c.length - 1 - a, by omega, by congr 1; omega⟩

/-- Whether k may be taken away as the next one, the ones of G being gone, a numbers of the row being read. -/
def freeC (c G : List Nat) (a k : Nat) : Bool := k != rt c && !G.contains k && !(c.drop a).contains k
theorem freeC_iff {c G : List Nat} {a k : Nat} : freeC c G a k = true ↔ k ≠ rt c ∧ k ∉ G ∧ k ∉ c.drop a := by
  unfold freeC
  simp [and_assoc]
def minF (c G : List Nat) (a : Nat) : Nat := ((List.range (c.length + 1)).find? (freeC c G a)).getD 0
/-- The leaves taken away in the first a steps. -/
def lfs (c : List Nat) : Nat → List Nat
  | 0 => []
  | a + 1 => lfs c a ++ [minF c (lfs c a) a]
def lf (c : List Nat) (a : Nat) : Nat := minF c (lfs c a) a
theorem lfs_succ (c : List Nat) (a : Nat) : lfs c (a + 1) = lfs c a ++ [lf c a] := rfl
theorem lfs_len (c : List Nat) : ∀ a, (lfs c a).length = a
  | 0 => rfl
  | a + 1 => by rw [lfs_succ, List.length_append, lfs_len c a]; rfl
theorem minF_is {c G : List Nat} {a k : Nat} (hk : k ≤ c.length) (h : freeC c G a k = true) (hmin : ∀ j, j < k → freeC c G a j = false) : minF c G a = k := by
  unfold minF
  have : (List.range (c.length + 1)).find? (freeC c G a) = some k := by
    rw [List.find?_range_eq_some]
    refine ⟨h, by simp; omega, fun j hj => by rw [hmin j hj]; rfl⟩
  rw [this]; rfl
theorem minF_free {c G : List Nat} {a : Nat} (h : ∃ k, k ≤ c.length ∧ freeC c G a k = true) : minF c G a ≤ c.length ∧ freeC c G a (minF c G a) = true ∧ ∀ j, j < minF c G a → freeC c G a j = false := by
  unfold minF
  rcases e : (List.range (c.length + 1)).find? (freeC c G a) with _ | k
  · obtain ⟨k, hk, hf⟩ := h
    have := List.find?_eq_none.1 e k (by simp; omega)
    rw [hf] at this; simp at this
  · rw [List.find?_range_eq_some] at e
    obtain ⟨h1, h2, h3⟩ := e
    refine ⟨by simp at h2; simp; omega, h1, fun j hj => ?_⟩
    have := h3 j hj
    simpa using this

/-- What holds of the leaves of the first a steps. -/
structure Lvs (c : List Nat) (a : Nat) : Prop where
  nodup : (lfs c a).Nodup
  le : ∀ x ∈ lfs c a, x ≤ c.length
  root : rt c ∉ lfs c a
  past : ∀ x ∈ lfs c a, x ∉ c.drop a
theorem range_erase_root {c : List Nat} (hc : CodeN c) : ((List.range (c.length + 1)).erase (rt c)).length = c.length ∧ ((List.range (c.length + 1)).erase (rt c)).Nodup := by
  have h := rt_le hc
  refine ⟨?_, List.nodup_range.erase _⟩
  rw [List.length_erase_of_mem (by simp; omega), List.length_range]; omega
/-- While numbers are left there is a leaf. -/
theorem free_ex {c : List Nat} (hc : CodeN c) {a : Nat} (ha : a < c.length) (hl : Lvs c a) : ∃ k, k ≤ c.length ∧ freeC c (lfs c a) a k = true := by
  apply Classical.byContradiction
  intro hno
  obtain ⟨h1, h2⟩ := range_erase_root hc
  have hm := nodup_len_le _ (lfs c a ++ (c.drop a).erase (rt c)) h2 (fun x hx => by
    have hx2 := h2
    have hxr : x ≠ rt c := ((List.nodup_range (n := c.length + 1)).mem_erase_iff.1 hx).1
    have hxn : x ≤ c.length := by have := List.mem_of_mem_erase hx; simp at this; omega
    apply Classical.byContradiction
    intro hn
    apply hno
    refine ⟨x, hxn, freeC_iff.2 ⟨hxr, fun hg => hn (by simp [hg]), fun hd => hn ?_⟩⟩
    rw [List.mem_append]
    exact .inr ((List.mem_erase_of_ne hxr).2 hd))
  rw [h1, List.length_append, lfs_len, List.length_erase_of_mem (rt_mem_drop ha), List.length_drop] at hm
  omega
theorem Lvs.zero (c : List Nat) : Lvs c 0 := ⟨by simp [lfs], by simp [lfs], by simp [lfs], by simp [lfs]⟩
theorem Lvs.free {c : List Nat} (hc : CodeN c) {a : Nat} (ha : a < c.length) (hl : Lvs c a) : lf c a ≤ c.length ∧ freeC c (lfs c a) a (lf c a) = true ∧ ∀ j, j < lf c a → freeC c (lfs c a) a j = false := minF_free (free_ex hc ha hl)
theorem Lvs.next {c : List Nat} (hc : CodeN c) {a : Nat} (ha : a < c.length) (hl : Lvs c a) : Lvs c (a + 1) := by
  obtain ⟨h1, h2, _⟩ := hl.free hc ha
  obtain ⟨f1, f2, f3⟩ := freeC_iff.1 h2
  have hd := drop_succ_eq ha
  refine ⟨?_, ?_, ?_, ?_⟩
  · rw [lfs_succ, List.nodup_append]
    refine ⟨hl.nodup, by simp, fun x hx y hy e => ?_⟩
    simp at hy; subst hy e; exact f2 hx
  · intro x hx
    rw [lfs_succ, List.mem_append, List.mem_singleton] at hx
    rcases hx with hx | rfl
    · exact hl.le x hx
    · exact h1
  · rw [lfs_succ, List.mem_append, List.mem_singleton]
    rintro (hx | e)
    · exact hl.root hx
    · exact f1 e.symm
  · intro x hx hm
    rw [lfs_succ, List.mem_append, List.mem_singleton] at hx
    have hm' : x ∈ c.drop a := by rw [hd]; exact List.mem_cons_of_mem _ hm
    rcases hx with hx | rfl
    · exact hl.past x hx hm'
    · exact f3 hm'
theorem lvs {c : List Nat} (hc : CodeN c) : ∀ a, a ≤ c.length → Lvs c a
  | 0, _ => Lvs.zero c
  | a + 1, h => (lvs hc a (by omega)).next hc (by omega)
/-- All numbers read, nothing is left to take away. -/
theorem free_lt {c : List Nat} (hc : CodeN c) {a k : Nat} (ha : a ≤ c.length) (hk : k ≤ c.length) (h : freeC c (lfs c a) a k = true) : a < c.length := by
  rcases Nat.lt_or_ge a c.length with h' | h'
  · exact h'
  · exfalso
    obtain rfl : a = c.length := by omega
    have hl := lvs hc c.length (Nat.le_refl _)
    obtain ⟨f1, f2, _⟩ := freeC_iff.1 h
    have := nodup_len_le (k :: rt c :: lfs c c.length) (List.range (c.length + 1)) (by
      rw [List.nodup_cons, List.nodup_cons]
      refine ⟨by simp [f1, f2], hl.root, hl.nodup⟩) (fun x hx => by
        simp only [List.mem_cons] at hx
        rw [List.mem_range]
        rcases hx with rfl | rfl | hx
        · omega
        · have := rt_le hc; omega
        · have := hl.le x hx; omega)
    simp [lfs_len] at this
    omega
theorem lvs_all {c : List Nat} (hc : CodeN c) {k : Nat} (hk : k ≤ c.length) (hr : k ≠ rt c) : k ∈ lfs c c.length := by
  apply Classical.byContradiction
  intro hn
  have := free_lt hc (Nat.le_refl _) hk (freeC_iff.2 ⟨hr, hn, by simp⟩)
  omega

/-- The tree after a steps. -/
def treeK (c : List Nat) : Nat → List Nat
  | 0 => (List.replicate (c.length + 1) 0).set (rt c) (rt c)
  | a + 1 => (treeK c a).set (lf c a) (nx c a)
def treeN (c : List Nat) : List Nat := treeK c c.length
theorem treeK_len (c : List Nat) : ∀ a, (treeK c a).length = c.length + 1
  | 0 => by simp [treeK]
  | a + 1 => by rw [treeK, List.length_set, treeK_len c a]

/-! ### the step of the pointer -/
/-- No other thing up to i than 'leaf' may be taken away; i itself is the one asked, or gone. -/
structure Ptr (c : List Nat) (a i leaf : Nat) : Prop where
  le : leaf ≤ i
  none : ∀ j, j ≤ i → j ≠ leaf → freeC c (lfs c a) a j = false
  here : leaf = i ∨ i ∈ lfs c a
theorem Ptr.start {c : List Nat} {a i : Nat} (h : ∀ j, j < i → freeC c (lfs c a) a j = false) : Ptr c a i i :=
  ⟨Nat.le_refl _, fun j hj hne => h j (by omega), .inl rfl⟩
theorem Ptr.stop {c : List Nat} {a i leaf : Nat} (h : Ptr c a i leaf) (hn : freeC c (lfs c a) a leaf = false) : ∀ j, j < i + 1 → freeC c (lfs c a) a j = false := fun j hj => by
  by_cases e : j = leaf
  · rw [e]; exact hn
  · exact h.none j (by omega) e
theorem Ptr.leaf_is {c : List Nat} {a i leaf : Nat} (h : Ptr c a i leaf) (hi : i ≤ c.length) (hf : freeC c (lfs c a) a leaf = true) : lf c a = leaf :=
  minF_is (by have := h.le; omega) hf (fun j hj => h.none j (by have := h.le; omega) (by omega))
theorem free_next {c : List Nat} {a j : Nat} (ha : a < c.length) (hf : freeC c (lfs c (a + 1)) (a + 1) j = true) (hne : j ≠ nx c a) : freeC c (lfs c a) a j = true := by
  obtain ⟨f1, f2, f3⟩ := freeC_iff.1 hf
  refine freeC_iff.2 ⟨f1, fun h => f2 (by rw [lfs_succ]; simp [h]), fun h => ?_⟩
  rw [drop_succ_eq ha, List.mem_cons] at h
  rcases h with e | h
  · exact hne e
  · exact f3 h
theorem Ptr.taken {c : List Nat} (hc : CodeN c) {a i leaf : Nat} (h : Ptr c a i leaf) (hi : i ≤ c.length) (ha : a < c.length) (hf : freeC c (lfs c a) a leaf = true) : ∀ j, j ≤ i → j ≠ nx c a → freeC c (lfs c (a + 1)) (a + 1) j = false := fun j hj hne => by
  rcases e : freeC c (lfs c (a + 1)) (a + 1) j with _ | _
  · rfl
  · exfalso
    have hj2 := free_next ha e hne
    by_cases e2 : j = leaf
    · have := (freeC_iff.1 e).2.1
      rw [lfs_succ, h.leaf_is hi hf, e2] at this
      simp at this
    · have := h.none j hj e2
      rw [hj2] at this; cases this
theorem Ptr.gone {c : List Nat} {a i leaf : Nat} (h : Ptr c a i leaf) (hi : i ≤ c.length) (hf : freeC c (lfs c a) a leaf = true) : i ∈ lfs c (a + 1) := by
  rw [lfs_succ, List.mem_append, List.mem_singleton, h.leaf_is hi hf]
  rcases h.here with e | e
  · exact .inr e.symm
  · exact .inl e
theorem Ptr.to_ne {c : List Nat} (hc : CodeN c) {a i leaf : Nat} (h : Ptr c a i leaf) (hi : i ≤ c.length) (ha : a < c.length) (hf : freeC c (lfs c a) a leaf = true) : nx c a ∉ lfs c (a + 1) := by
  intro hm
  rw [lfs_succ, List.mem_append, List.mem_singleton] at hm
  rcases hm with hm | e
  · exact (lvs hc a (by omega)).past _ hm (nx_mem_drop ha)
  · rw [h.leaf_is hi hf] at e
    have := (freeC_iff.1 hf).2.2
    rw [← e] at this
    exact this (nx_mem_drop ha)
theorem Ptr.again {c : List Nat} (hc : CodeN c) {a i leaf : Nat} (h : Ptr c a i leaf) (hi : i ≤ c.length) (ha : a < c.length) (hf : freeC c (lfs c a) a leaf = true) (hlt : nx c a < i) : Ptr c (a + 1) i (nx c a) :=
  ⟨by omega, fun j hj hne => h.taken hc hi ha hf j hj hne, .inr (h.gone hi hf)⟩
theorem Ptr.onward {c : List Nat} (hc : CodeN c) {a i leaf : Nat} (h : Ptr c a i leaf) (hi : i ≤ c.length) (ha : a < c.length) (hf : freeC c (lfs c a) a leaf = true) (hge : i ≤ nx c a) : ∀ j, j < i + 1 → freeC c (lfs c (a + 1)) (a + 1) j = false := fun j hj => by
  refine h.taken hc hi ha hf j (by omega) (fun e => ?_)
  have e2 : nx c a = i := by omega
  exact h.to_ne hc hi ha hf (by rw [e2]; exact h.gone hi hf)
theorem Ptr.end_ {c : List Nat} (hc : CodeN c) {a : Nat} (ha : a ≤ c.length) (h : ∀ j, j < c.length + 1 → freeC c (lfs c a) a j = false) : a = c.length := by
  rcases Nat.lt_or_ge a c.length with h' | h'
  · obtain ⟨k, hk, hf⟩ := free_ex hc h' (lvs hc a ha)
    rw [h k (by omega)] at hf; cases hf
  · omega

/-! ### how many are led to each one that is left -/
def leftI (c : List Nat) (a : Nat) : List Int := (List.range (c.length + 1)).map (fun k => if k ∈ lfs c a then -1 else ((c.drop a).count k : Int))
theorem leftI_len (c : List Nat) (a : Nat) : (leftI c a).length = c.length + 1 := by simp [leftI]
theorem gI_leftI {c : List Nat} {a k : Nat} (hk : k ≤ c.length) : gI (leftI c a) k = if k ∈ lfs c a then -1 else ((c.drop a).count k : Int) := by
  rw [gI_get (by rw [leftI_len]; omega)]; simp [leftI]
theorem leftI_zero_iff {c : List Nat} {a k : Nat} (hk : k ≤ c.length) : gI (leftI c a) k = 0 ↔ k ∉ lfs c a ∧ k ∉ c.drop a := by
  rw [gI_leftI hk]
  split
  · rename_i h; simp [h]
  · rename_i h
    rw [← List.count_eq_zero (a := k) (l := c.drop a)]
    simp only [h, not_false_eq_true, true_and]; omega
theorem leftI_free {c : List Nat} {a k : Nat} (hk : k ≤ c.length) : freeC c (lfs c a) a k = true ↔ k ≠ rt c ∧ gI (leftI c a) k = 0 := by
  rw [freeC_iff, leftI_zero_iff hk]
theorem leftI_next {c : List Nat} (hc : CodeN c) {a i leaf : Nat} (h : Ptr c a i leaf) (hi : i ≤ c.length) (ha : a < c.length) (hf : freeC c (lfs c a) a leaf = true) :
    ((leftI c a).set leaf (-1)).set (nx c a) (gI ((leftI c a).set leaf (-1)) (nx c a) - 1) = leftI c (a + 1) := by
  have hto := h.to_ne hc hi ha hf
  have hle : leaf ≤ c.length := by have := h.le; omega
  have hnl := nx_le hc ha
  have hne : nx c a ≠ leaf := fun e => hto (by rw [e, lfs_succ, h.leaf_is hi hf]; simp)
  have hto1 : nx c a ∉ lfs c a := fun hm => hto (by rw [lfs_succ]; simp [hm])
  have hg : gI ((leftI c a).set leaf (-1)) (nx c a) = ((c.drop a).count (nx c a) : Int) := by
    unfold gI
    simp only [List.getD]
    rw [List.getElem?_set_ne (by omega)]
    have := gI_leftI (a := a) hnl
    rw [if_neg hto1] at this
    simpa [gI, List.getD] using this
  rw [hg]
  apply List.ext_getElem (by simp [leftI_len])
  intro k h1 h2
  rw [leftI_len] at h2
  rw [List.getElem_set]
  have hR : (leftI c (a + 1))[k] = if k ∈ lfs c (a + 1) then -1 else ((c.drop (a + 1)).count k : Int) := by simp [leftI]
  rw [hR]
  split
  · rename_i e
    subst e
    rw [if_neg hto, drop_succ_eq ha, List.count_cons_self]; omega
  · rename_i e
    rw [List.getElem_set]
    split
    · rename_i e2
      subst e2
      rw [if_pos (by rw [lfs_succ, h.leaf_is hi hf]; simp)]
    · rename_i e2
      have hL : (leftI c a)[k]'(by rw [leftI_len]; omega) = if k ∈ lfs c a then -1 else ((c.drop a).count k : Int) := by simp [leftI]
      rw [hL]
      have hiff : k ∈ lfs c (a + 1) ↔ k ∈ lfs c a := by
        rw [lfs_succ, List.mem_append, List.mem_singleton, h.leaf_is hi hf]
        constructor
        · rintro (h | h)
          · exact h
          · exact absurd h.symm e2
        · exact .inl
      rw [drop_succ_eq ha, List.count_cons_of_ne (by omega)]
      simp [hiff]

/-! ### as the walks meet them -/
def codeAll (n : Nat) (xs : List Int) : Bool := xs.all (fun x => inB x 0 (n : Int))
def codedOk (xs : List Int) : Bool := decide (xs.length ≤ 6) && codeAll xs.length xs
theorem codeAll_iff {n : Nat} {xs : List Int} : codeAll n xs = true ↔ ∀ k, k < xs.length → inB (gI xs k) 0 (n : Int) = true := by
  unfold codeAll
  rw [List.all_eq_true]
  constructor
  · intro h k hk; rw [gI_get hk]; exact h _ (List.getElem_mem hk)
  · intro h x hx
    obtain ⟨k, hk, rfl⟩ := List.mem_iff_getElem.1 hx
    have := h k hk
    rwa [gI_get hk] at this
theorem codeAll_not {n : Nat} {xs : List Int} {k : Nat} (hk : k < xs.length) (h : inB (gI xs k) 0 (n : Int) = false) : codeAll n xs = false := by
  rcases e : codeAll n xs with _ | _
  · rfl
  · have := codeAll_iff.1 e k hk
    rw [h] at this; cases this
theorem codedOk_ex {xs : List Int} (h : codedOk xs = true) : ∃ c, xs = ints c ∧ CodeN c := by
  unfold codedOk at h
  rw [Bool.and_eq_true, decide_eq_true_eq] at h
  obtain ⟨h6, ha⟩ := h
  have hall := codeAll_iff.1 ha
  have e : ints (toN xs) = xs := ints_toN (fun x hx => by
    obtain ⟨k, hk, rfl⟩ := List.mem_iff_getElem.1 hx
    have := hall k hk
    rw [gI_get hk, inB_iff] at this
    exact this.1)
  have hlen : (toN xs).length = xs.length := by simp [toN]
  refine ⟨toN xs, e.symm, by omega, fun x hx => ?_⟩
  obtain ⟨k, hk, rfl⟩ := List.mem_iff_getElem.1 hx
  have := hall k (by omega)
  rw [← e, gI_ints, inB_iff, ints_len, nx_get hk] at this
  omega
theorem codedOk_ints {c : List Nat} (h : CodeN c) : codedOk (ints c) = true := by
  unfold codedOk
  rw [Bool.and_eq_true, decide_eq_true_eq, ints_len]
  refine ⟨h.le6, codeAll_iff.2 (fun k hk => ?_)⟩
  rw [ints_len] at hk
  rw [gI_ints, inB_iff]
  have := nx_le h hk
  omega
/-- The things gone, as bits. -/
def gm (c : List Nat) : Nat → Nat
  | 0 => 0
  | a + 1 => gm c a ||| 2 ^ lf c a
theorem gm_bit (c : List Nat) (x : Nat) : ∀ a, (gm c a).testBit x = true ↔ x ∈ lfs c a
  | 0 => by simp [gm, lfs]
  | a + 1 => by
    rw [gm, or_bit, gm_bit c x a, lfs_succ, testBit_two, decide_eq_true_eq, List.mem_append, List.mem_singleton]
    constructor
    · rintro (h | h)
      · exact .inl h
      · exact .inr h.symm
    · rintro (h | h)
      · exact .inl h
      · exact .inr h.symm
theorem gm_lt {c : List Nat} (hc : CodeN c) {a : Nat} (ha : a ≤ c.length) : gm c a < 128 :=
  lt_two_of_bits (n := 7) (fun j hj => by
    have := (lvs hc a ha).le _ ((gm_bit c j a).1 hj)
    have := hc.le6; omega)
theorem mem_drop_nx {c : List Nat} {a k : Nat} : k ∈ c.drop a ↔ ∃ t, a ≤ t ∧ t < c.length ∧ nx c t = k := by
  rw [List.mem_drop_iff_getElem]
  constructor
  · rintro ⟨i, hi, e⟩
    exact ⟨a + i, by omega, by omega, by rw [nx_get (by omega)]; exact e⟩
  · rintro ⟨t, h1, h2, e⟩
    refine ⟨t - a, by omega, ?_⟩
    rw [nx_get h2] at e
    rw [← e]; congr 1; omega
/-- The truth of 'free' when the numbers from a on, and before j, have been looked at. -/
def Fr (c : List Nat) (a k j : Nat) (b : Bool) : Prop := b = true ↔ (k ≠ rt c ∧ k ∉ lfs c a ∧ ∀ t, a ≤ t → t < j → nx c t ≠ k)
theorem Fr.start {c : List Nat} {a k : Nat} {b : Bool} (h : b = true ↔ (k ≠ rt c ∧ k ∉ lfs c a)) : Fr c a k a b := by
  unfold Fr; rw [h]
  constructor
  · rintro ⟨h1, h2⟩; exact ⟨h1, h2, fun t h3 h4 => by omega⟩
  · rintro ⟨h1, h2, _⟩; exact ⟨h1, h2⟩
theorem Fr.keep {c : List Nat} {a k j : Nat} {b : Bool} (h : Fr c a k j b) (hne : nx c j ≠ k) : Fr c a k (j + 1) b := by
  unfold Fr at *; rw [h]
  constructor
  · rintro ⟨h1, h2, h3⟩
    refine ⟨h1, h2, fun t ha ht => ?_⟩
    rcases Nat.lt_or_ge t j with h' | h'
    · exact h3 t ha h'
    · obtain rfl : t = j := by omega
      exact hne
  · rintro ⟨h1, h2, h3⟩; exact ⟨h1, h2, fun t ha ht => h3 t ha (by omega)⟩
theorem Fr.drop {c : List Nat} {a k j : Nat} (ha : a ≤ j) (he : nx c j = k) : Fr c a k (j + 1) false := by
  unfold Fr
  constructor
  · intro h; cases h
  · rintro ⟨_, _, h3⟩; exact absurd he (h3 j ha (by omega))
theorem Fr.done {c : List Nat} {a k : Nat} {b : Bool} (h : Fr c a k c.length b) : b = freeC c (lfs c a) a k := by
  rw [Bool.eq_iff_iff, freeC_iff]
  unfold Fr at h
  rw [h]
  constructor
  · rintro ⟨h1, h2, h3⟩
    refine ⟨h1, h2, fun hm => ?_⟩
    obtain ⟨t, ha, ht, e⟩ := mem_drop_nx.1 hm
    exact h3 t ha ht e
  · rintro ⟨h1, h2, h3⟩
    exact ⟨h1, h2, fun t ha ht e => h3 (mem_drop_nx.2 ⟨t, ha, ht, e⟩)⟩
/-- How often each thing stands among the first i numbers. -/
def ctK (c : List Nat) (i : Nat) : List Nat := (List.range (c.length + 1)).map (fun k => (c.take i).count k)
def ctN (c : List Nat) : List Nat := ctK c c.length
theorem ctK_len (c : List Nat) (i : Nat) : (ctK c i).length = c.length + 1 := by simp [ctK]
theorem nx_ctK {c : List Nat} {i k : Nat} (hk : k ≤ c.length) : nx (ctK c i) k = (c.take i).count k := by
  rw [nx_get (by rw [ctK_len]; omega)]; simp [ctK]
theorem ctK_le {c : List Nat} {i k : Nat} (hk : k ≤ c.length) : nx (ctK c i) k ≤ c.length := by
  rw [nx_ctK hk]
  have h1 := List.count_le_length (a := k) (l := c.take i)
  have h2 : (c.take i).length ≤ c.length := by rw [List.length_take]; omega
  omega
theorem ctK_zero (c : List Nat) : ctK c 0 = List.replicate (c.length + 1) 0 := by
  apply List.ext_getElem (by simp [ctK_len])
  intro k h1 h2
  simp [ctK]
theorem ctK_succ {c : List Nat} {i : Nat} (hi : i < c.length) : (ctK c i).set (nx c i) (nx (ctK c i) (nx c i) + 1) = ctK c (i + 1) := by
  apply List.ext_getElem (by simp [ctK_len])
  intro k h1 h2
  rw [ctK_len] at h2
  rw [List.getElem_set]
  have hR : (ctK c (i + 1))[k] = (c.take (i + 1)).count k := by simp [ctK]
  have ht : c.take (i + 1) = c.take i ++ [nx c i] := by rw [nx_get hi, List.take_succ_eq_append_getElem hi]
  rw [hR, ht, List.count_append]
  split
  · rename_i e
    subst e
    rw [nx_ctK (by omega)]; simp
  · rename_i e
    have hL : (ctK c i)[k]'(by rw [ctK_len]; omega) = (c.take i).count k := by simp [ctK]
    rw [hL, List.count_singleton]
    have : (nx c i == k) = false := by simp [e]
    simp [this]
theorem leftI_zero (c : List Nat) : leftI c 0 = ints (ctN c) := by
  apply List.ext_getElem (by simp [leftI_len, ints_len, ctN, ctK_len])
  intro k h1 h2
  simp [leftI, ints, ctN, ctK, lfs]
theorem ints_set (f : List Nat) (k x : Nat) : ints (f.set k x) = (ints f).set k (x : Int) := by simp [ints, List.map_set]
theorem ints_replicate (n x : Nat) : ints (List.replicate n x) = List.replicate n (x : Int) := by simp [ints]
end Go.Proofs.Ytlbiioncpeondaa
