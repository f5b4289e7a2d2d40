/- Plain laws of trees and their codes: a tree is a map with one root to which all lead; the code of a tree, and the tree of a code. -/
import Derived.Test.YtlbiioncpeondaaM6
import Derived.Test.YtlbiioncpeondaaM9
namespace Go.Proofs.Ytlbiioncpeondaa
set_option linter.unusedVariables false

/-- A tree with its root. -/
structure TreeN (f : List Nat) (r : Nat) : Prop where
  map : MapN f
  lt : r < f.length
  fix : nx f r = r
  to : ∀ k, k < f.length → ∃ i, it f i k = r

theorem it_fix {f : List Nat} {r : Nat} (h : nx f r = r) : ∀ i, it f i r = r
  | 0 => rfl
  | i + 1 => by rw [it_succ, it_fix h i, h]
theorem TreeN.on {f : List Nat} {r k : Nat} (h : TreeN f r) (hk : k < f.length) (ho : onL f k = true) : k = r := by
  obtain ⟨p, hp, e⟩ := (onL_iff h.map hk).1 ho
  obtain ⟨i, hi⟩ := h.to k hk
  have h1 := it_mul e i
  have hge : i ≤ i * p := Nat.le_mul_of_pos_right _ (by omega)
  have e2 : i * p = (i * p - i) + i := by omega
  rw [e2, it_add, hi, it_fix h.fix] at h1
  exact h1.symm
theorem TreeN.far {f : List Nat} {r k : Nat} (h : TreeN f r) (hk : k < f.length) {i : Nat} (hi : f.length ≤ i + 1) : it f i k = r :=
  h.on (it_lt h.map hk i) (onL_far h.map hk i hi)
theorem TreeN.moves {f : List Nat} {r k : Nat} (h : TreeN f r) (hk : k < f.length) (hr : k ≠ r) : nx f k ≠ k := fun e => by
  obtain ⟨i, hi⟩ := h.to k hk
  rw [it_fix e] at hi
  exact hr hi
theorem TreeN.root_on {f : List Nat} {r : Nat} (h : TreeN f r) : onL f r = true := (onL_iff h.map h.lt).2 ⟨1, Nat.le_refl _, h.fix⟩
theorem way_head {f : List Nat} (hf : MapN f) {k : Nat} (hk : k < f.length) : ∃ l, way f k = k :: l := by
  have hp := (wl_isWay hf hk).pos
  obtain ⟨m, hm⟩ : ∃ m, wl f k = m + 1 := ⟨wl f k - 1, by omega⟩
  refine ⟨(List.range m).map (fun j => it f (j + 1) k), ?_⟩
  unfold way orb
  rw [hm, List.range_succ_eq_map]
  simp [it, Function.comp_def]
theorem TreeN.lo {f : List Nat} {r k : Nat} (h : TreeN f r) (hk : k < f.length) : lo f k = r := h.on (lo_lt h.map hk) (lo_on h.map hk)
theorem TreeN.wl_root {f : List Nat} {r : Nat} (h : TreeN f r) : wl f r = 1 := by
  refine (isWay_unique (L := 1) ⟨Nat.le_refl _, by simp [orb], ?_⟩ (wl_isWay h.map h.lt)).symm
  rw [it_one, h.fix]; simp [orb, it]
theorem TreeN.way_root {f : List Nat} {r : Nat} (h : TreeN f r) : way f r = [r] := by unfold way; rw [h.wl_root]; simp [orb, it]
theorem TreeN.loopsK {f : List Nat} {r : Nat} (h : TreeN f r) : ∀ K, K ≤ f.length → loopsK f K = if r < K then [ints [r]] else []
  | 0, _ => by simp [Go.Proofs.Ytlbiioncpeondaa.loopsK]
  | K + 1, hK => by
    have ih := h.loopsK K (by omega)
    have hl := h.lo (k := K) (by omega)
    by_cases e : K = r
    · subst e
      rw [loopsK_t hl, ih, if_neg (by omega), if_pos (by omega), h.way_root]; rfl
    · rw [loopsK_f (by omega), ih]
      by_cases h1 : r < K
      · rw [if_pos h1, if_pos (by omega)]
      · rw [if_neg h1, if_neg (by omega)]
theorem TreeN.loops {f : List Nat} {r : Nat} (h : TreeN f r) : loopsN f = [ints [r]] := by
  unfold loopsN; rw [h.loopsK _ (Nat.le_refl _), if_pos h.lt]
theorem treeN_of {f : List Nat} (hf : MapN f) (h1 : (loopsN f).length = 1) (h2 : ((loopsN f).getD 0 []).length = 1) : TreeN f (lo f 0) := by
  have h0 := lo_lt hf (k := 0) hf.pos
  have hr := tree_root hf h1
  rw [hr, ints_len, way, orb_len] at h2
  refine ⟨hf, h0, ?_, fun k hk => ?_⟩
  · have hb := (wl_isWay hf h0).back
    rw [h2, it_one] at hb
    simpa [orb, it] using hb
  · have hm := loopsK_mem (lo_lo hf hk) f.length (lo_lt hf hk)
    have hm0 := loopsK_mem (lo_lo hf (k := 0) hf.pos) f.length h0
    obtain ⟨x, hx⟩ := List.length_eq_one_iff.1 h1
    rw [show Go.Proofs.Ytlbiioncpeondaa.loopsK f f.length = loopsN f from rfl, hx, List.mem_singleton] at hm hm0
    obtain ⟨l1, e1⟩ := way_head hf (lo_lt hf hk)
    obtain ⟨l2, e2⟩ := way_head hf h0
    have e3 : lo f k = lo f 0 := by
      have := hm.trans hm0.symm
      rw [e1, e2] at this
      simp [ints] at this
      have h1 := this.1
      omega
    obtain ⟨i, _, _, e⟩ := lo_mem hf hk
    exact ⟨i, by rw [e, e3]⟩

/-! ### the leaves of a tree, taken away one by one -/
def freeT (f : List Nat) (r : Nat) (G : List Nat) (k : Nat) : Bool := k != r && !G.contains k && (List.range f.length).all (fun j => G.contains j || nx f j != k)
theorem freeT_iff {f : List Nat} {r : Nat} {G : List Nat} {k : Nat} : freeT f r G k = true ↔ k ≠ r ∧ k ∉ G ∧ ∀ j, j < f.length → j ∉ G → nx f j ≠ k := by
  unfold freeT
  rw [Bool.and_eq_true, Bool.and_eq_true, List.all_eq_true]
  simp only [bne_iff_ne, Bool.not_eq_true', List.mem_range, Bool.or_eq_true, and_assoc]
  constructor
  · rintro ⟨h1, h2, h3⟩
    refine ⟨h1, fun hm => by simp [hm] at h2, fun j hj hn e => ?_⟩
    rcases h3 j hj with h | h
    · exact hn (by simpa using h)
    · exact h e
  · rintro ⟨h1, h2, h3⟩
    refine ⟨h1, by simpa using h2, fun j hj => ?_⟩
    by_cases hm : j ∈ G
    · exact .inl (by simpa using hm)
    · exact .inr (h3 j hj hm)
def minT (f : List Nat) (r : Nat) (G : List Nat) : Nat := ((List.range f.length).find? (freeT f r G)).getD 0
def dgs (f : List Nat) (r : Nat) : Nat → List Nat
  | 0 => []
  | a + 1 => dgs f r a ++ [minT f r (dgs f r a)]
def dg (f : List Nat) (r a : Nat) : Nat := minT f r (dgs f r a)
theorem dgs_succ (f : List Nat) (r a : Nat) : dgs f r (a + 1) = dgs f r a ++ [dg f r a] := rfl
theorem dgs_len (f : List Nat) (r : Nat) : ∀ a, (dgs f r a).length = a
  | 0 => rfl
  | a + 1 => by rw [dgs_succ, List.length_append, dgs_len f r a]; rfl
theorem minT_free {f : List Nat} {r : Nat} {G : List Nat} (h : ∃ k, k < f.length ∧ freeT f r G k = true) : minT f r G < f.length ∧ freeT f r G (minT f r G) = true := by
  unfold minT
  rcases e : (List.range f.length).find? (freeT f r G) with _ | k
  · obtain ⟨k, hk, hf⟩ := h
    have := List.find?_eq_none.1 e k (by simpa using hk)
    rw [hf] at this; simp at this
  · rw [List.find?_range_eq_some] at e
    obtain ⟨h1, h2, _⟩ := e
    exact ⟨by simpa using h2, h1⟩
/-- While things other than the root are left, one of them is a leaf. -/
theorem TreeN.free_ex {f : List Nat} {r : Nat} (h : TreeN f r) {G : List Nat} (hl : ∃ k, k < f.length ∧ k ≠ r ∧ k ∉ G) : ∃ k, k < f.length ∧ freeT f r G k = true := by
  apply Classical.byContradiction
  intro hno
  have step : ∀ k, k < f.length → k ≠ r → k ∉ G → ∃ j, j < f.length ∧ j ≠ r ∧ j ∉ G ∧ nx f j = k := fun k hk hr hg => by
    apply Classical.byContradiction
    intro hn
    apply hno
    refine ⟨k, hk, freeT_iff.2 ⟨hr, hg, fun j hj hjg e => hn ⟨j, hj, fun ej => ?_, hjg, e⟩⟩⟩
    rw [ej, h.fix] at e
    exact hr e.symm
  have far : ∀ m k, k < f.length → k ≠ r → k ∉ G → ∃ j, j < f.length ∧ it f m j = k := fun m => by
    induction m with
    | zero => intro k hk _ _; exact ⟨k, hk, rfl⟩
    | succ m ih =>
      intro k hk hr hg
      obtain ⟨j, hj, hjr, hjg, e⟩ := step k hk hr hg
      obtain ⟨i, hi, e2⟩ := ih j hj hjr hjg
      exact ⟨i, hi, by rw [it_succ, e2, e]⟩
  obtain ⟨k, hk, hr, hg⟩ := hl
  obtain ⟨j, hj, e⟩ := far f.length k hk hr hg
  rw [h.far hj (by omega)] at e
  exact hr e.symm
structure Dgs (f : List Nat) (r a : Nat) : Prop where
  nodup : (dgs f r a).Nodup
  lt : ∀ x ∈ dgs f r a, x < f.length
  root : r ∉ dgs f r a
  /-- no thing that is left is led to one that is gone -/
  past : ∀ j, j < f.length → j ∉ dgs f r a → nx f j ∉ dgs f r a
theorem left_ex {n r : Nat} {G : List Nat} (hr : r < n) (hG : G.length + 1 < n) : ∃ k, k < n ∧ k ≠ r ∧ k ∉ G := by
  apply Classical.byContradiction
  intro hno
  have := nodup_len_le (List.range n) (r :: G) List.nodup_range (fun x hx => by
    rw [List.mem_range] at hx
    rw [List.mem_cons]
    by_cases e : x = r
    · exact .inl e
    · by_cases hg : x ∈ G
      · exact .inr hg
      · exact absurd ⟨x, hx, e, hg⟩ hno)
  simp at this; omega
theorem Dgs.free {f : List Nat} {r a : Nat} (h : TreeN f r) (ha : a + 1 < f.length) : dg f r a < f.length ∧ freeT f r (dgs f r a) (dg f r a) = true :=
  minT_free (h.free_ex (left_ex h.lt (by rw [dgs_len]; exact ha)))
theorem dgs_ok {f : List Nat} {r : Nat} (h : TreeN f r) : ∀ a, a < f.length → Dgs f r a
  | 0, _ => ⟨by simp [dgs], by simp [dgs], by simp [dgs], by simp [dgs]⟩
  | a + 1, ha => by
    have ih := dgs_ok h a (by omega)
    obtain ⟨h1, h2⟩ := Dgs.free h ha
    obtain ⟨f1, f2, f3⟩ := freeT_iff.1 h2
    refine ⟨?_, ?_, ?_, ?_⟩
    · rw [dgs_succ, List.nodup_append]
      refine ⟨ih.nodup, by simp, fun x hx y hy e => ?_⟩
      simp at hy; subst hy e; exact f2 hx
    · intro x hx
      rw [dgs_succ, List.mem_append, List.mem_singleton] at hx
      rcases hx with hx | rfl
      · exact ih.lt x hx
      · exact h1
    · rw [dgs_succ, List.mem_append, List.mem_singleton]
      rintro (hx | e)
      · exact ih.root hx
      · exact f1 e.symm
    · intro j hj hn hm
      rw [dgs_succ, List.mem_append, List.mem_singleton] at hn hm
      have hn1 : j ∉ dgs f r a := fun x => hn (.inl x)
      rcases hm with hm | hm
      · exact ih.past j hj hn1 hm
      · exact f3 j hj hn1 hm
theorem dgs_all {f : List Nat} {r : Nat} (h : TreeN f r) {k : Nat} (hk : k < f.length) (hr : k ≠ r) : k ∈ dgs f r (f.length - 1) := by
  apply Classical.byContradiction
  intro hn
  have hd := dgs_ok h (f.length - 1) (by omega)
  have := nodup_len_le (k :: r :: dgs f r (f.length - 1)) (List.range f.length) (by
    rw [List.nodup_cons, List.nodup_cons]
    exact ⟨by simp [hr, hn], hd.root, hd.nodup⟩) (fun x hx => by
      simp only [List.mem_cons] at hx
      rw [List.mem_range]
      rcases hx with rfl | rfl | hx
      · exact hk
      · exact h.lt
      · exact hd.lt x hx)
  simp [dgs_len] at this
  omega
theorem mem_dgs {f : List Nat} {r x : Nat} : ∀ {a : Nat}, x ∈ dgs f r a ↔ ∃ b, b < a ∧ dg f r b = x
  | 0 => by simp [dgs]
  | a + 1 => by
    rw [dgs_succ, List.mem_append, List.mem_singleton, mem_dgs]
    constructor
    · rintro (⟨b, hb, e⟩ | e)
      · exact ⟨b, by omega, e⟩
      · exact ⟨a, by omega, e.symm⟩
    · rintro ⟨b, hb, e⟩
      by_cases hba : b = a
      · subst hba; exact .inr e.symm
      · exact .inl ⟨b, by omega, e⟩
theorem dg_new {f : List Nat} {r : Nat} (h : TreeN f r) {a b : Nat} (hb : b + 1 < f.length) (hab : a ≤ b) : dg f r b ∉ dgs f r a := fun hm => by
  obtain ⟨_, h2⟩ := Dgs.free h hb
  have f2 := (freeT_iff.1 h2).2.1
  obtain ⟨i, hi, e⟩ := mem_dgs.1 hm
  exact f2 (mem_dgs.2 ⟨i, by omega, e⟩)

/-- The code of a tree. -/
def cT (f : List Nat) (r : Nat) : List Nat := (List.range (f.length - 1)).map (fun a => nx f (dg f r a))
theorem cT_len (f : List Nat) (r : Nat) : (cT f r).length = f.length - 1 := by simp [cT]
theorem nx_cT {f : List Nat} {r a : Nat} (ha : a + 1 < f.length) : nx (cT f r) a = nx f (dg f r a) := by
  rw [nx_get (by rw [cT_len]; omega)]; simp [cT]
theorem cT_code {f : List Nat} {r : Nat} (h : TreeN f r) : CodeN (cT f r) := by
  have h7 := h.map.le7
  have hp := h.map.pos
  refine ⟨by rw [cT_len]; omega, fun x hx => ?_⟩
  rw [cT_len]
  obtain ⟨a, ha, rfl⟩ := List.mem_map.1 hx
  rw [List.mem_range] at ha
  have := h.map.has _ (Dgs.free h (a := a) (by omega)).1
  omega
theorem cT_rt {f : List Nat} {r : Nat} (h : TreeN f r) : rt (cT f r) = r := by
  have hlt := h.lt
  unfold rt
  rw [cT_len]
  split
  · omega
  · rename_i h0
    rw [nx_cT (by omega)]
    obtain ⟨a, ha⟩ : ∃ a, a = f.length - 1 - 1 := ⟨_, rfl⟩
    rw [← ha]
    have hf := Dgs.free h (a := a) (by omega)
    obtain ⟨f1, f2, f3⟩ := freeT_iff.1 hf.2
    apply Classical.byContradiction
    intro hne
    have hin := dgs_all h (h.map.has _ hf.1) hne
    rw [show f.length - 1 = a + 1 by omega, dgs_succ, List.mem_append, List.mem_singleton] at hin
    rcases hin with hin | hin
    · exact (dgs_ok h a (by omega)).past _ hf.1 f2 hin
    · exact h.moves hf.1 f1 hin
/-- The two ways to say which leaf may be taken agree. -/
theorem free_same {f c : List Nat} {r : Nat} {G : List Nat} {a k : Nat} (hr : rt c = r) (hfix : nx f r = r) (hall : ∀ j, j < f.length → j ∉ G → nx f j = k → j ≠ r → ∃ b, a ≤ b ∧ b < c.length ∧ nx c b = k) (hback : ∀ b, a ≤ b → b < c.length → nx c b = k → ∃ j, j < f.length ∧ j ∉ G ∧ nx f j = k) :
    freeT f r G k = freeC c G a k := by
  rw [Bool.eq_iff_iff, freeT_iff, freeC_iff, hr]
  constructor
  · rintro ⟨h1, h2, h3⟩
    refine ⟨h1, h2, fun hm => ?_⟩
    obtain ⟨b, hb1, hb2, e⟩ := mem_drop_nx.1 hm
    obtain ⟨j, hj, hg, e2⟩ := hback b hb1 hb2 e
    exact h3 j hj hg e2
  · rintro ⟨h1, h2, h3⟩
    refine ⟨h1, h2, fun j hj hg e => ?_⟩
    have hjr : j ≠ r := fun ej => by rw [ej, hfix] at e; exact h1 e.symm
    obtain ⟨b, hb1, hb2, e2⟩ := hall j hj hg e hjr
    exact h3 (mem_drop_nx.2 ⟨b, hb1, hb2, e2⟩)
theorem find_same {n : Nat} {p q : Nat → Bool} (h : ∀ k, k < n → p k = q k) : (List.range n).find? p = (List.range n).find? q := by
  have : ∀ l : List Nat, (∀ x ∈ l, p x = q x) → l.find? p = l.find? q := fun l => by
    induction l with
    | nil => intro _; rfl
    | cons a l ih =>
      intro hl
      rw [List.find?_cons, List.find?_cons, hl a (by simp), ih (fun x hx => hl x (List.mem_cons_of_mem _ hx))]
  exact this _ (fun x hx => h x (by simpa using hx))
/-- The code's leaves are those of the tree. -/
theorem cT_lfs {f : List Nat} {r : Nat} (h : TreeN f r) : ∀ a, a < f.length → lfs (cT f r) a = dgs f r a
  | 0, _ => rfl
  | a + 1, ha => by
    have ih := cT_lfs h a (by omega)
    rw [lfs_succ, dgs_succ, ih]
    congr 2
    unfold lf dg minF minT
    rw [ih, cT_len, show f.length - 1 + 1 = f.length by omega]
    congr 1
    refine find_same (fun k hk => (free_same (cT_rt h) h.fix ?_ ?_).symm)
    · intro j hj hg e hjr
      obtain ⟨b, hb, eb⟩ := mem_dgs.1 (dgs_all h hj hjr)
      refine ⟨b, ?_, by rw [cT_len]; exact hb, by rw [nx_cT (by omega), eb]; exact e⟩
      rcases Nat.lt_or_ge b a with h1 | h1
      · exact absurd (mem_dgs.2 ⟨b, h1, eb⟩) hg
      · exact h1
    · intro b hb1 hb2 e
      rw [cT_len] at hb2
      rw [nx_cT (by omega)] at e
      exact ⟨dg f r b, (Dgs.free h (a := b) (by omega)).1, dg_new h (by omega) hb1, e⟩
theorem lf_dg {f : List Nat} {r : Nat} (h : TreeN f r) {a : Nat} (ha : a + 1 < f.length) : lf (cT f r) a = dg f r a := by
  have h1 := cT_lfs h (a + 1) ha
  rw [lfs_succ, dgs_succ, cT_lfs h a (by omega)] at h1
  simpa using h1

/-! ### the tree of a code -/
theorem lf_not_before {c : List Nat} (hc : CodeN c) {a b : Nat} (hb : b < c.length) (hab : a ≤ b) : lf c b ∉ lfs c a := by
  have h := (lvs hc (b + 1) (by omega)).nodup
  rw [lfs_succ, List.nodup_append] at h
  intro hm
  have : ∀ i, a ≤ i → ∀ x ∈ lfs c a, x ∈ lfs c i := fun i hi x hx => by
    induction i with
    | zero => obtain rfl : a = 0 := by omega
              exact hx
    | succ i ih =>
      rcases Nat.lt_or_ge i a with h1 | h1
      · obtain rfl : a = i + 1 := by omega
        exact hx
      · rw [lfs_succ]; exact List.mem_append_left _ (ih h1)
  exact h.2.2 _ (this b hab _ hm) _ (List.mem_singleton.2 rfl) rfl
theorem mem_lfs {c : List Nat} {x : Nat} : ∀ {a : Nat}, x ∈ lfs c a ↔ ∃ b, b < a ∧ lf c b = x
  | 0 => by simp [lfs]
  | a + 1 => by
    rw [lfs_succ, List.mem_append, List.mem_singleton, mem_lfs]
    constructor
    · rintro (⟨b, hb, e⟩ | e)
      · exact ⟨b, by omega, e⟩
      · exact ⟨a, by omega, e.symm⟩
    · rintro ⟨b, hb, e⟩
      by_cases hba : b = a
      · subst hba; exact .inr e.symm
      · exact .inl ⟨b, by omega, e⟩
theorem nx_set {f : List Nat} {i x k : Nat} (hk : k < f.length) : nx (f.set i x) k = if i = k then x else nx f k := by
  rw [nx_get (by simpa using hk), nx_get hk, List.getElem_set]
theorem nx_treeK_root {c : List Nat} (hc : CodeN c) : ∀ a, a ≤ c.length → nx (treeK c a) (rt c) = rt c
  | 0, _ => by
    rw [treeK, nx_set (by have := rt_le hc; simp; omega), if_pos rfl]
  | a + 1, ha => by
    rw [treeK, nx_set (by rw [treeK_len]; have := rt_le hc; omega), if_neg, nx_treeK_root hc a (by omega)]
    exact fun e => (freeC_iff.1 ((lvs hc a (by omega)).free hc (by omega)).2.1).1 e
theorem nx_treeK {c : List Nat} (hc : CodeN c) {b : Nat} : ∀ a, a ≤ c.length → b < a → nx (treeK c a) (lf c b) = nx c b
  | 0, _, h => absurd h (Nat.not_lt_zero _)
  | a + 1, ha, h => by
    have hb := ((lvs hc b (by omega)).free hc (by omega)).1
    rw [treeK, nx_set (by rw [treeK_len]; omega)]
    by_cases e : b = a
    · subst e; rw [if_pos rfl]
    · rw [if_neg, nx_treeK hc a (by omega) (by omega)]
      intro e2
      exact lf_not_before hc (a := a) (b := a) (by omega) (Nat.le_refl _) (mem_lfs.2 ⟨b, by omega, e2.symm⟩)
theorem nx_treeN {c : List Nat} (hc : CodeN c) {b : Nat} (hb : b < c.length) : nx (treeN c) (lf c b) = nx c b := nx_treeK hc _ (Nat.le_refl _) hb
theorem nx_treeN_root {c : List Nat} (hc : CodeN c) : nx (treeN c) (rt c) = rt c := nx_treeK_root hc _ (Nat.le_refl _)
theorem treeN_len (c : List Nat) : (treeN c).length = c.length + 1 := treeK_len c _
theorem lists_eq {f g : List Nat} (hl : f.length = g.length) (h : ∀ k, k < f.length → nx f k = nx g k) : f = g := by
  apply List.ext_getElem hl
  intro k h1 h2
  have := h k h1
  rwa [nx_get h1, nx_get h2] at this
/-- A tree is the tree of its code. -/
theorem tree_back {f : List Nat} {r : Nat} (h : TreeN f r) : treeN (cT f r) = f := by
  have hc := cT_code h
  have hlt := h.lt
  refine lists_eq (by rw [treeN_len, cT_len]; omega) (fun k hk => ?_)
  rw [treeN_len, cT_len] at hk
  by_cases e : k = r
  · subst e
    have := nx_treeN_root hc
    rw [cT_rt h] at this
    rw [this, h.fix]
  · obtain ⟨b, hb, eb⟩ := mem_dgs.1 (dgs_all h (by omega) e)
    have := nx_treeN hc (b := b) (by rw [cT_len]; exact hb)
    rw [lf_dg h (by omega), nx_cT (by omega), eb] at this
    exact this
theorem code_to {c : List Nat} (hc : CodeN c) {a : Nat} (ha : a < c.length) : nx c a = rt c ∨ ∃ b, a < b ∧ b < c.length ∧ lf c b = nx c a := by
  by_cases e : nx c a = rt c
  · exact .inl e
  · right
    obtain ⟨b, hb, eb⟩ := mem_lfs.1 (lvs_all hc (nx_le hc ha) e)
    refine ⟨b, ?_, hb, eb⟩
    rcases Nat.lt_or_ge a b with h1 | h1
    · exact h1
    · exfalso
      have hf := ((lvs hc a (by omega)).free hc ha).2.1
      by_cases e2 : b = a
      · subst e2
        rw [eb] at hf
        exact (freeC_iff.1 hf).2.2 (nx_mem_drop ha)
      · exact (lvs hc a (by omega)).past (nx c a) (mem_lfs.2 ⟨b, by omega, eb⟩) (nx_mem_drop ha)
theorem treeN_tree {c : List Nat} (hc : CodeN c) : TreeN (treeN c) (rt c) := by
  have h6 := hc.le6
  have hrt := rt_le hc
  have hmap : ∀ k, k < c.length + 1 → nx (treeN c) k < c.length + 1 := fun k hk => by
    by_cases e : k = rt c
    · rw [e, nx_treeN_root hc]; omega
    · obtain ⟨b, hb, eb⟩ := mem_lfs.1 (lvs_all hc (by omega) e)
      rw [← eb, nx_treeN hc hb]
      have := nx_le hc hb
      omega
  have down : ∀ m b, b < c.length → c.length ≤ b + m → ∃ i, it (treeN c) i (lf c b) = rt c := fun m => by
    induction m with
    | zero => intro b hb hm; omega
    | succ m ih =>
      intro b hb hm
      rcases code_to hc hb with e | ⟨d, hd1, hd2, ed⟩
      · exact ⟨1, by rw [it_one, nx_treeN hc hb, e]⟩
      · obtain ⟨i, hi⟩ := ih d hd2 (by omega)
        exact ⟨i + 1, by rw [it_add, it_one, nx_treeN hc hb, ← ed]; exact hi⟩
  refine ⟨⟨by rw [treeN_len]; omega, by rw [treeN_len]; omega, fun k hk => by rw [treeN_len] at hk ⊢; exact hmap k hk⟩, by rw [treeN_len]; omega, nx_treeN_root hc, fun k hk => ?_⟩
  rw [treeN_len] at hk
  by_cases e : k = rt c
  · exact ⟨0, e⟩
  · obtain ⟨b, hb, eb⟩ := mem_lfs.1 (lvs_all hc (by omega) e)
    obtain ⟨i, hi⟩ := down c.length b hb (by omega)
    exact ⟨i, by rw [← eb]; exact hi⟩
theorem code_dgs {c : List Nat} (hc : CodeN c) : ∀ a, a ≤ c.length → dgs (treeN c) (rt c) a = lfs c a
  | 0, _ => rfl
  | a + 1, ha => by
    have ih := code_dgs hc a (by omega)
    rw [lfs_succ, dgs_succ, ih]
    congr 2
    unfold lf dg minF minT
    rw [ih, treeN_len]
    congr 1
    refine find_same (fun k hk => free_same rfl (nx_treeN_root hc) ?_ ?_)
    · intro j hj hg e hjr
      rw [treeN_len] at hj
      obtain ⟨b, hb, eb⟩ := mem_lfs.1 (lvs_all hc (by omega) hjr)
      refine ⟨b, ?_, hb, by rw [← e, ← eb, nx_treeN hc hb]⟩
      rcases Nat.lt_or_ge b a with h1 | h1
      · exact absurd (mem_lfs.2 ⟨b, h1, eb⟩) hg
      · exact h1
    · intro b hb1 hb2 e
      have := ((lvs hc b (by omega)).free hc hb2).1
      exact ⟨lf c b, by rw [treeN_len]; omega, lf_not_before hc hb2 hb1, by rw [nx_treeN hc hb2]; exact e⟩
/-- The code of a code's tree is the code. -/
theorem code_back {c : List Nat} (hc : CodeN c) : cT (treeN c) (rt c) = c := by
  refine lists_eq (by rw [cT_len, treeN_len]; omega) (fun a ha => ?_)
  rw [cT_len, treeN_len] at ha
  have h1 := code_dgs hc (a + 1) (by omega)
  rw [lfs_succ, dgs_succ, code_dgs hc a (by omega)] at h1
  have h2 : dg (treeN c) (rt c) a = lf c a := by simpa using h1
  rw [nx_cT (by rw [treeN_len]; omega), h2, nx_treeN hc (by omega)]
/-- The code of a map that is a tree. -/
def codeN (f : List Nat) : List Nat := cT f (lo f 0)
theorem TreeN.code {f : List Nat} {r : Nat} (h : TreeN f r) : codeN f = cT f r := by unfold codeN; rw [h.lo h.map.pos]
theorem codeN_treeN {c : List Nat} (hc : CodeN c) : codeN (treeN c) = c := by rw [(treeN_tree hc).code, code_back hc]
theorem TreeN.ex {f : List Nat} {r : Nat} (h : TreeN f r) : ∃ c, CodeN c ∧ f = treeN c ∧ codeN f = c ∧ rt c = r :=
  ⟨cT f r, cT_code h, (tree_back h).symm, h.code, cT_rt h⟩
end Go.Proofs.Ytlbiioncpeondaa
