/- Plain laws: how many things are led to each thing of a tree, while leaves are taken away; counts of a row. -/
import Derived.Test.YtlbiioncpeondaaM10
namespace Go.Proofs.Ytlbiioncpeondaa
set_option linter.unusedVariables false

/-- How often each thing stands among the first i numbers of a map. -/
def cnK (f : List Nat) (i : Nat) : List Nat := (List.range f.length).map (fun k => (f.take i).count k)
theorem cnK_len (f : List Nat) (i : Nat) : (cnK f i).length = f.length := by simp [cnK]
theorem nx_cnK {f : List Nat} {i k : Nat} (hk : k < f.length) : nx (cnK f i) k = (f.take i).count k := by
  rw [nx_get (by rw [cnK_len]; omega)]; simp [cnK]
theorem cnK_le {f : List Nat} {i k : Nat} (hk : k < f.length) : nx (cnK f i) k ≤ f.length := by
  rw [nx_cnK hk]
  have h1 := List.count_le_length (a := k) (l := f.take i)
  have h2 : (f.take i).length ≤ f.length := by rw [List.length_take]; omega
  omega
theorem cnK_zero (f : List Nat) : cnK f 0 = List.replicate f.length 0 := by
  apply List.ext_getElem (by simp [cnK_len])
  intro k h1 h2
  simp [cnK]
theorem cnK_succ {f : List Nat} {i : Nat} (hi : i < f.length) : (cnK f i).set (nx f i) (nx (cnK f i) (nx f i) + 1) = cnK f (i + 1) := by
  apply List.ext_getElem (by simp [cnK_len])
  intro k h1 h2
  rw [cnK_len] at h2
  rw [List.getElem_set]
  have hR : (cnK f (i + 1))[k] = (f.take (i + 1)).count k := by simp [cnK]
  have ht : f.take (i + 1) = f.take i ++ [nx f i] := by rw [nx_get hi, List.take_succ_eq_append_getElem hi]
  rw [hR, ht, List.count_append]
  split
  · rename_i e
    subst e
    rw [nx_cnK (by omega)]; simp
  · rename_i e
    have hL : (cnK f i)[k]'(by rw [cnK_len]; omega) = (f.take i).count k := by simp [cnK]
    rw [hL, List.count_singleton]
    have : (nx f i == k) = false := by simp [e]
    simp [this]

theorem nx_map (f : List Nat) : (List.range f.length).map (nx f) = f := by
  apply List.ext_getElem (by simp)
  intro k h1 h2
  simp [nx_get h2]
theorem lfs_perm {c : List Nat} (hc : CodeN c) : (lfs c c.length ++ [rt c]).Perm (List.range (c.length + 1)) := by
  have hl := lvs hc c.length (Nat.le_refl _)
  refine (List.perm_ext_iff_of_nodup ?_ List.nodup_range).2 fun x => ?_
  · rw [List.nodup_append]
    refine ⟨hl.nodup, by simp, fun a ha b hb e => ?_⟩
    simp at hb; subst hb e; exact hl.root ha
  · rw [List.mem_append, List.mem_singleton, List.mem_range]
    constructor
    · rintro (h | rfl)
      · have := hl.le x h; omega
      · have := rt_le hc; omega
    · intro h
      by_cases e : x = rt c
      · exact .inr e
      · exact .inl (lvs_all hc (by omega) e)
theorem lfs_map {c : List Nat} (hc : CodeN c) : ∀ a, a ≤ c.length → (lfs c a).map (nx (treeN c)) = c.take a
  | 0, _ => by simp [lfs]
  | a + 1, ha => by
    rw [lfs_succ, List.map_append, lfs_map hc a (by omega), List.take_succ_eq_append_getElem (by omega)]
    simp [nx_treeN hc (show a < c.length by omega), nx_get (show a < c.length by omega)]
/-- The numbers of a code's tree are those of the code, and the root. -/
theorem treeN_perm {c : List Nat} (hc : CodeN c) : (treeN c).Perm (c ++ [rt c]) := by
  have h := (lfs_perm hc).map (nx (treeN c))
  rw [List.map_append, lfs_map hc _ (Nat.le_refl _), List.take_length] at h
  rw [← treeN_len c, nx_map] at h
  have e : [rt c].map (nx (treeN c)) = [rt c] := by simp [nx_treeN_root hc]
  rw [e] at h
  exact h.symm
theorem treeN_count {c : List Nat} (hc : CodeN c) (k : Nat) : (treeN c).count k = c.count k + if rt c = k then 1 else 0 := by
  rw [(List.perm_iff_count.1 (treeN_perm hc)) k, List.count_append, List.count_singleton]
  by_cases e : rt c = k <;> simp [e]

theorem gI_set {l : List Int} {i k : Nat} {v : Int} (hk : k < l.length) : gI (l.set i v) k = if i = k then v else gI l k := by
  rw [gI_get (by simpa using hk), gI_get hk, List.getElem_set]
theorem lists_gI {a b : List Int} (hl : a.length = b.length) (h : ∀ k, k < a.length → gI a k = gI b k) : a = b := by
  apply List.ext_getElem hl
  intro k h1 h2
  have := h k h1
  rwa [gI_get h1, gI_get h2] at this
/-- How many are led to each one that is left, the root counted for itself too. -/
def leftR (c : List Nat) (a : Nat) : List Int := (leftI c a).set (rt c) (gI (leftI c a) (rt c) + 1)
theorem leftR_len (c : List Nat) (a : Nat) : (leftR c a).length = c.length + 1 := by simp [leftR, leftI_len]
theorem gI_leftR {c : List Nat} {a k : Nat} (hk : k ≤ c.length) : gI (leftR c a) k = gI (leftI c a) k + if rt c = k then 1 else 0 := by
  unfold leftR
  rw [gI_set (by rw [leftI_len]; omega)]
  split
  · rename_i e; subst e; rfl
  · omega
theorem leftR_zero {c : List Nat} (hc : CodeN c) : ints (cnK (treeN c) (treeN c).length) = leftR c 0 := by
  refine lists_gI (by rw [ints_len, cnK_len, leftR_len, treeN_len]) (fun k hk => ?_)
  rw [ints_len, cnK_len, treeN_len] at hk
  rw [gI_ints, nx_cnK (by rw [treeN_len]; omega), List.take_length, treeN_count hc, gI_leftR (by omega), gI_leftI (by omega)]
  simp [lfs]
  split <;> omega
theorem leftR_bound {c : List Nat} (hc : CodeN c) (a : Nat) (leaf : Nat) {k : Nat} (hk : k ≤ c.length) : -1 ≤ gI ((leftR c a).set leaf (-1)) k ∧ gI ((leftR c a).set leaf (-1)) k ≤ 8 := by
  have h6 := hc.le6
  rw [gI_set (by rw [leftR_len]; omega)]
  split
  · omega
  · rw [gI_leftR hk, gI_leftI hk]
    have h1 := List.count_le_length (a := k) (l := c.drop a)
    have h2 : (c.drop a).length ≤ c.length := by rw [List.length_drop]; omega
    split <;> split <;> omega
theorem leftR_free {c : List Nat} {a k : Nat} (hk : k ≤ c.length) : freeC c (lfs c a) a k = true ↔ k ≠ rt c ∧ gI (leftR c a) k = 0 := by
  rw [leftI_free hk]
  constructor
  · rintro ⟨h1, h2⟩; refine ⟨h1, ?_⟩; rw [gI_leftR hk, if_neg (fun e => h1 e.symm)]; omega
  · rintro ⟨h1, h2⟩; refine ⟨h1, ?_⟩; rw [gI_leftR hk, if_neg (fun e => h1 e.symm)] at h2; omega
theorem leftR_next {c : List Nat} (hc : CodeN c) {a i leaf : Nat} (h : Ptr c a i leaf) (hi : i ≤ c.length) (ha : a < c.length) (hf : freeC c (lfs c a) a leaf = true) :
    ((leftR c a).set leaf (-1)).set (nx c a) (gI ((leftR c a).set leaf (-1)) (nx c a) - 1) = leftR c (a + 1) := by
  have hn := leftI_next hc h hi ha hf
  have hle := h.le
  have hnx := nx_le hc ha
  have hlr := (freeC_iff.1 hf).1
  have htl : nx c a ≠ leaf := fun e => by
    have := h.to_ne hc hi ha hf
    rw [e, lfs_succ, h.leaf_is hi hf] at this
    simp at this
  refine lists_gI (by simp [leftR_len]) (fun k hk => ?_)
  have hk' : k < c.length + 1 := by simpa [leftR_len] using hk
  have g1 : gI ((leftI c a).set leaf (-1)) (nx c a) = gI (leftI c a) (nx c a) := by rw [gI_set (by rw [leftI_len]; omega), if_neg (fun e => htl e.symm)]
  have g2 : gI ((leftR c a).set leaf (-1)) (nx c a) = gI (leftI c a) (nx c a) + if rt c = nx c a then 1 else 0 := by rw [gI_set (by rw [leftR_len]; omega), if_neg (fun e => htl e.symm), gI_leftR hnx]
  have e1 : gI (leftI c (a + 1)) k = if nx c a = k then gI (leftI c a) (nx c a) - 1 else if leaf = k then -1 else gI (leftI c a) k := by
    rw [← hn, g1, gI_set (by simp [leftI_len]; omega), gI_set (by rw [leftI_len]; omega)]
  rw [g2, gI_leftR (c := c) (a := a + 1) (k := k) (by omega), e1, gI_set (by simp [leftR_len]; omega), gI_set (by rw [leftR_len]; omega), gI_leftR (c := c) (a := a) (k := k) (by omega)]
  by_cases h1 : nx c a = k
  · rw [if_pos h1, if_pos h1, h1]; omega
  · rw [if_neg h1, if_neg h1]
    by_cases h2 : leaf = k
    · rw [if_pos h2, if_pos h2, if_neg (by omega)]; omega
    · rw [if_neg h2, if_neg h2]

/-! ### the truth of 'leaf', as the reference finds it in the tree -/
def FrT (c : List Nat) (a k j : Nat) (b : Bool) : Prop := b = true ↔ (k ≠ rt c ∧ k ∉ lfs c a ∧ ∀ t, t < j → t ∉ lfs c a → t ≠ k → nx (treeN c) t ≠ k)
theorem FrT.start {c : List Nat} {a k : Nat} {b : Bool} (h : b = true ↔ (k ≠ rt c ∧ k ∉ lfs c a)) : FrT c a k 0 b := by
  unfold FrT; rw [h]
  constructor
  · rintro ⟨h1, h2⟩; exact ⟨h1, h2, fun t h3 => by omega⟩
  · rintro ⟨h1, h2, _⟩; exact ⟨h1, h2⟩
theorem FrT.keep {c : List Nat} {a k j : Nat} {b : Bool} (h : FrT c a k j b) (hne : nx (treeN c) j ≠ k ∨ j ∈ lfs c a ∨ j = k) : FrT c a k (j + 1) b := by
  unfold FrT at *; rw [h]
  constructor
  · rintro ⟨h1, h2, h3⟩
    refine ⟨h1, h2, fun t ht hg htk => ?_⟩
    rcases Nat.lt_or_ge t j with h' | h'
    · exact h3 t h' hg htk
    · obtain rfl : t = j := by omega
      rcases hne with h4 | h4 | h4
      · exact h4
      · exact absurd h4 hg
      · exact absurd h4 htk
  · rintro ⟨h1, h2, h3⟩; exact ⟨h1, h2, fun t ht => h3 t (by omega)⟩
theorem FrT.drop {c : List Nat} {a k j : Nat} (he : nx (treeN c) j = k) (hg : j ∉ lfs c a) (hk : j ≠ k) : FrT c a k (j + 1) false := by
  unfold FrT
  constructor
  · intro h; cases h
  · rintro ⟨_, _, h3⟩; exact absurd he (h3 j (by omega) hg hk)
theorem FrT.done {c : List Nat} (hc : CodeN c) {a k : Nat} (ha : a ≤ c.length) (hk : k ≤ c.length) {b : Bool} (h : FrT c a k (c.length + 1) b) : b = freeC c (lfs c a) a k := by
  have ht := treeN_tree hc
  have hs : freeT (treeN c) (rt c) (lfs c a) k = freeC c (lfs c a) a k := free_same rfl (nx_treeN_root hc) (fun j hj hg e hjr => by
      rw [treeN_len] at hj
      obtain ⟨b, hb, eb⟩ := mem_lfs.1 (lvs_all hc (by omega) hjr)
      refine ⟨b, ?_, hb, by rw [← e, ← eb, nx_treeN hc hb]⟩
      rcases Nat.lt_or_ge b a with h1 | h1
      · exact absurd (mem_lfs.2 ⟨b, h1, eb⟩) hg
      · exact h1) (fun b hb1 hb2 e => by
      have := ((lvs hc b (by omega)).free hc hb2).1
      exact ⟨lf c b, by rw [treeN_len]; omega, lf_not_before hc hb2 hb1, by rw [nx_treeN hc hb2]; exact e⟩)
  rw [← hs, Bool.eq_iff_iff, freeT_iff]
  unfold FrT at h
  rw [h, treeN_len]
  constructor
  · rintro ⟨h1, h2, h3⟩
    refine ⟨h1, h2, fun j hj hg e => ?_⟩
    by_cases hjk : j = k
    · subst hjk
      exact ht.moves (by rw [treeN_len]; omega) h1 e
    · exact h3 j hj hg hjk e
  · rintro ⟨h1, h2, h3⟩
    exact ⟨h1, h2, fun t ht hg _ => h3 t ht hg⟩
end Go.Proofs.Ytlbiioncpeondaa
