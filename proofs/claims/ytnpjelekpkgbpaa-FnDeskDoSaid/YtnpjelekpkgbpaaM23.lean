/- Plain law: the texts of trees, loops and shapes, and that other names change none of them. -/
import Derived.Test.YtnpjelekpkgbpaaV10
import Derived.Lib.Join
namespace Go.Proofs.Ytnpjelekpkgbpaa
set_option linter.unusedVariables false

abbrev Tx := List UInt8
def leT (a b : Tx) : Bool := decide (a ≤ b)
def srt (l : List Tx) : List Tx := l.mergeSort leT
theorem srt_perm {l l' : List Tx} (h : l.Perm l') : srt l = srt l' := by
  have tr : ∀ a b c : Tx, leT a b = true → leT b c = true → leT a c = true := fun a b c h1 h2 => by simp only [leT, decide_eq_true_eq] at *; exact List.le_trans h1 h2
  have to : ∀ a b : Tx, (leT a b || leT b a) = true := fun a b => by simp only [leT, Bool.or_eq_true, decide_eq_true_eq]; exact List.le_total a b
  refine List.Perm.eq_of_pairwise (le := fun a b => leT a b = true) (fun a b _ _ h1 h2 => ?_) (List.pairwise_mergeSort tr to l) (List.pairwise_mergeSort tr to l') (((List.mergeSort_perm l leT).trans h).trans (List.mergeSort_perm l' leT).symm)
  simp only [leT, decide_eq_true_eq] at h1 h2
  exact List.le_antisymm h1 h2
/-- the things that are led to t and are not on a loop -/
def kidsK (f : List Nat) (t m : Nat) : List Nat := (List.range m).filter (fun j => decide (nx f j = t) && !onL f j)
def kids (f : List Nat) (t : Nat) : List Nat := kidsK f t f.length
def treeT (f : List Nat) : Nat → Nat → Tx
  | 0, _ => []
  | k + 1, i => [40] ++ Lib.join (srt ((kids f i).map (treeT f k))) [] ++ [41]
def rot (ts : List Tx) (j : Nat) : Tx := Lib.join (ts.drop j) [] ++ Lib.join (ts.take j) []
def minK (ts : List Tx) : Nat → Tx
  | 0 => Lib.join ts []
  | K + 1 => if rot ts K < minK ts K then rot ts K else minK ts K
def loopTs (f : List Nat) (i : Nat) : List Tx := (way f (lo f i)).map (treeT f f.length)
def loopT (f : List Nat) (i : Nat) : Tx := minK (loopTs f i) (loopTs f i).length
def repsN (f : List Nat) (m : Nat) : List Nat := (List.range m).filter (fun k => decide (lo f k = k))
def shapeT (f : List Nat) : Tx := Lib.join (srt ((repsN f f.length).map (loopT f))) [43]

/-! ### joined texts -/
theorem join_flat (ts : List Tx) : Lib.join ts [] = ts.flatten := by
  cases ts with
  | nil => rfl
  | cons x r => rw [Lib.join_cons]; simp [Lib.joinTail]
/-! ### the least turn of a row that comes again and again -/
def turnT (T : Nat → Tx) (l j : Nat) : Tx := ((List.range l).map (fun m => T (j + m))).flatten
def Least (T : Nat → Tx) (l : Nat) (x : Tx) : Prop := (∃ j, x = turnT T l j) ∧ ∀ j, x ≤ turnT T l j
theorem Least.unique {T : Nat → Tx} {l : Nat} {x y : Tx} (h : Least T l x) (h' : Least T l y) : x = y := by
  obtain ⟨⟨i, hi⟩, h1⟩ := h
  obtain ⟨⟨j, hj⟩, h2⟩ := h'
  have a := h1 j
  have b := h2 i
  rw [← hj] at a
  rw [← hi] at b
  exact List.le_antisymm a b
theorem per_mul {T : Nat → Tx} {l : Nat} (hp : ∀ m, T (m + l) = T m) (m : Nat) : ∀ q, T (m + q * l) = T m
  | 0 => by simp
  | q + 1 => by rw [show m + (q + 1) * l = m + q * l + l by rw [Nat.add_mul]; omega, hp, per_mul hp m q]
theorem turn_mul {T : Nat → Tx} {l : Nat} (hp : ∀ m, T (m + l) = T m) (j q : Nat) : turnT T l (j + q * l) = turnT T l j := by
  unfold turnT
  congr 1
  refine List.map_congr_left fun m _ => ?_
  rw [show j + q * l + m = j + m + q * l by omega, per_mul hp]
theorem Least.shift {T : Nat → Tx} {l : Nat} {x : Tx} (hl : 1 ≤ l) (hp : ∀ m, T (m + l) = T m) (s : Nat) (h : Least (fun m => T (m + s)) l x) : Least T l x := by
  have e : ∀ j, turnT (fun m => T (m + s)) l j = turnT T l (j + s) := fun j => by
    unfold turnT; congr 1; refine List.map_congr_left fun m _ => ?_
    show T (j + m + s) = T (j + s + m)
    rw [show j + m + s = j + s + m by omega]
  obtain ⟨⟨i, hi⟩, h1⟩ := h
  refine ⟨⟨i + s, hi.trans (e i)⟩, fun j => ?_⟩
  have hs : s ≤ s * l := Nat.le_mul_of_pos_right _ hl
  have := h1 (j + s * l - s)
  rw [e, show j + s * l - s + s = j + s * l by omega, turn_mul hp] at this
  exact this
theorem rot_turn {T : Nat → Tx} {l j : Nat} (hp : ∀ m, T (m + l) = T m) (hj : j ≤ l) : rot ((List.range l).map T) j = turnT T l j := by
  unfold rot turnT
  rw [join_flat, join_flat, ← List.flatten_append]
  congr 1
  refine List.ext_getElem (by simp; omega) fun m h1 h2 => ?_
  simp at h2
  rw [List.getElem_append]
  split
  · rename_i h; simp
  · rename_i h
    simp at h ⊢
    have e : j + m = m - (l - j) + l := by omega
    rw [e, hp]
theorem minK_le (ts : List Tx) : ∀ K j, j < K → minK ts K ≤ rot ts j
  | K + 1, j, hj => by
    have hs : minK ts (K + 1) ≤ minK ts K ∧ minK ts (K + 1) ≤ rot ts K := by
      rw [show minK ts (K + 1) = if rot ts K < minK ts K then rot ts K else minK ts K from rfl]
      split
      · rename_i h; exact ⟨List.le_of_lt h, List.le_refl _⟩
      · rename_i h; exact ⟨List.le_refl _, List.not_lt.1 h⟩
    rcases Nat.lt_or_ge j K with h | h
    · exact List.le_trans hs.1 (minK_le ts K j h)
    · obtain rfl : j = K := by omega
      exact hs.2
theorem minK_at (ts : List Tx) : ∀ K, ∃ j, minK ts K = rot ts j ∧ (j < K ∨ j = 0)
  | 0 => ⟨0, by unfold minK rot; simp [join_flat], .inr rfl⟩
  | K + 1 => by
    obtain ⟨j, h1, h2⟩ := minK_at ts K
    rw [show minK ts (K + 1) = if rot ts K < minK ts K then rot ts K else minK ts K from rfl]
    split
    · exact ⟨K, rfl, .inl (Nat.lt_succ_self _)⟩
    · exact ⟨j, h1, by omega⟩
theorem minK_least {T : Nat → Tx} {l : Nat} (hl : 1 ≤ l) (hp : ∀ m, T (m + l) = T m) : Least T l (minK ((List.range l).map T) l) := by
  obtain ⟨j, h1, h2⟩ := minK_at ((List.range l).map T) l
  refine ⟨⟨j, by rw [h1, rot_turn hp (by omega)]⟩, fun j => ?_⟩
  have hm := Nat.mod_lt j (show l > 0 by omega)
  have := minK_le ((List.range l).map T) l (j % l) hm
  rw [rot_turn hp (by omega)] at this
  have e : turnT T l j = turnT T l (j % l) := by
    have h3 := Nat.mod_add_div j l
    rw [← turn_mul hp (j % l) (j / l), Nat.mul_comm (j / l) l, h3]
  rw [e]; exact this

/-! ### other names -/
structure Cj (f g p : List Nat) : Prop where
  hf : MapN f
  hg : MapN g
  hp : MapN p
  lg : g.length = f.length
  lp : p.length = f.length
  inj : ∀ i j, i < f.length → j < f.length → nx p i = nx p j → i = j
  sur : ∀ k, k < f.length → ∃ i, i < f.length ∧ nx p i = k
  com : ∀ i, i < f.length → nx g (nx p i) = nx p (nx f i)
theorem cj_of {f p : List Nat} (hf : MapN f) (hp : MapN p) (hl : f.length = p.length) (ht : turned p = true) : Cj f (behN (behN (backN p) f) p) p := by
  have hb := back_map hp ht
  have h1 : MapN (behN (backN p) f) := behN_map hb hf (by rw [back_len]; exact hl.symm)
  have l1 : (behN (backN p) f).length = p.length := by rw [behN_len, back_len]
  refine ⟨hf, behN_map h1 hp l1, hp, by rw [behN_len, l1, hl], hl.symm, fun i j hi hj e => turned_inj ht (by omega) (by omega) e, fun k hk => ?_, fun i hi => ?_⟩
  · obtain ⟨i, h1, h2⟩ := turned_has hp ht (k := k) (by omega)
    exact ⟨i, by omega, h2⟩
  · have hpi := hp.has i (by omega)
    rw [nx_behN (by omega), nx_behN (by rw [back_len]; exact hpi), nx_back hp ht (by omega)]
section
variable {f g p : List Nat} (h : Cj f g p)
include h
theorem Cj.lt {i : Nat} (hi : i < f.length) : nx p i < f.length := by have := h.hp.has i (by rw [h.lp]; exact hi); rw [h.lp] at this; exact this
theorem Cj.ltg {i : Nat} (hi : i < f.length) : nx p i < g.length := by rw [h.lg]; exact h.lt hi
theorem Cj.it_ {i : Nat} (hi : i < f.length) : ∀ a, it g a (nx p i) = nx p (it f a i)
  | 0 => rfl
  | a + 1 => by rw [it_succ, it_succ, Cj.it_ hi a, h.com _ (it_lt h.hf hi a)]
theorem Cj.onL_ {i : Nat} (hi : i < f.length) : onL g (nx p i) = onL f i := by
  rw [Bool.eq_iff_iff, onL_iff h.hg (h.ltg hi), onL_iff h.hf hi]
  constructor
  · rintro ⟨q, h1, h2⟩
    rw [h.it_ hi] at h2
    exact ⟨q, h1, h.inj _ _ (it_lt h.hf hi q) hi h2⟩
  · rintro ⟨q, h1, h2⟩
    exact ⟨q, h1, by rw [h.it_ hi, h2]⟩
theorem Cj.kids_ {i : Nat} (hi : i < f.length) : (kids g (nx p i)).Perm ((kids f i).map (nx p)) := by
  refine (List.perm_ext_iff_of_nodup ?_ ?_).2 fun x => ?_
  · exact List.Pairwise.filter _ List.nodup_range
  · refine List.pairwise_map.2 ?_
    have hn : (kids f i).Pairwise (fun a b => a ≠ b) := List.Pairwise.filter _ List.nodup_range
    refine hn.imp_of_mem fun {a b} ha hb hne e => hne ?_
    unfold kids kidsK at ha hb
    rw [List.mem_filter, List.mem_range] at ha hb
    exact h.inj _ _ ha.1 hb.1 e
  · unfold kids kidsK
    rw [List.mem_filter, List.mem_range, List.mem_map]
    simp only [Bool.and_eq_true, decide_eq_true_eq, Bool.not_eq_true']
    constructor
    · rintro ⟨h1, h2, h3⟩
      obtain ⟨j, hj, rfl⟩ := h.sur x (by rw [← h.lg]; exact h1)
      rw [h.com j hj] at h2
      rw [h.onL_ hj] at h3
      have e := h.inj _ _ (h.hf.has j hj) hi h2
      exact ⟨j, by rw [List.mem_filter, List.mem_range]; simp [hj, e, h3], rfl⟩
    · rintro ⟨j, hj, rfl⟩
      rw [List.mem_filter, List.mem_range] at hj
      simp only [Bool.and_eq_true, decide_eq_true_eq, Bool.not_eq_true'] at hj
      obtain ⟨h1, h2, h3⟩ := hj
      exact ⟨h.ltg h1, by rw [h.com j h1, h2], by rw [h.onL_ h1]; exact h3⟩
theorem Cj.tree_ : ∀ (k : Nat) {i : Nat}, i < f.length → treeT g k (nx p i) = treeT f k i
  | 0, _, _ => rfl
  | k + 1, i, hi => by
    unfold treeT
    rw [srt_perm ((h.kids_ hi).map (treeT g k)), List.map_map]
    have e : (kids f i).map (treeT g k ∘ nx p) = (kids f i).map (treeT f k) := by
      refine List.map_congr_left fun j hj => ?_
      unfold kids kidsK at hj
      rw [List.mem_filter, List.mem_range] at hj
      exact Cj.tree_ k hj.1
    rw [e]
end
/-! ### loops -/
theorem mod_inj {a b s l : Nat} (ha : a < l) (hb : b < l) (e : (a + s) % l = (b + s) % l) : a = b := by
  have e1 := Nat.mod_add_div (a + s) l
  have e2 := Nat.mod_add_div (b + s) l
  rw [e] at e1
  rcases Nat.lt_trichotomy ((a + s) / l) ((b + s) / l) with h | h | h
  · have := Nat.mul_le_mul_left l (show (a + s) / l + 1 ≤ (b + s) / l from h)
    rw [Nat.mul_add] at this; omega
  · rw [h] at e1; omega
  · have := Nat.mul_le_mul_left l (show (b + s) / l + 1 ≤ (a + s) / l from h)
    rw [Nat.mul_add] at this; omega
theorem wl_loop {f : List Nat} (hf : MapN f) {k : Nat} (hk : k < f.length) (ho : onL f k = true) : 1 ≤ wl f k ∧ ∀ m, it f (m + wl f k) k = it f m k := by
  have ht : tl f k = 0 := by simpa [onL] using ho
  have h1 := ll_pos hf hk
  have h2 : ll f k = wl f k := by unfold ll; rw [ht]; rfl
  rw [← h2]
  exact ⟨h1, fun m => it_round hf hk m (by omega)⟩
theorem wl_eq_of {f : List Nat} (hf : MapN f) {k L : Nat} (hk : k < f.length) (h0 : 1 ≤ L) (h1 : (orb f k L).Nodup) (h2 : it f L k ∈ orb f k L) : wl f k = L :=
  isWay_unique (wl_isWay hf hk) ⟨h0, h1, h2⟩
theorem lo_it {f : List Nat} (hf : MapN f) {k : Nat} (hk : k < f.length) : ∀ s, lo f (it f s k) = lo f k := by
  intro s
  have hs := it_lt hf hk s
  obtain ⟨i, h1, h2, e⟩ := lo_mem hf hs
  obtain ⟨i', h1', h2', e'⟩ := lo_mem hf hk
  have hl := ll_pos hf hk
  have hq : ∀ x y : Nat, ∃ q, x ≤ y + q * ll f k := fun x y => ⟨x, by have := Nat.le_mul_of_pos_right x hl; omega⟩
  refine Nat.le_antisymm ?_ ?_
  · obtain ⟨q, hq⟩ := hq (tl f (it f s k) + s) i'
    have hz := lo_le_all hf hs (i := i' + q * ll f k - s) (by omega)
    rw [← it_add, show i' + q * ll f k - s + s = i' + q * ll f k by omega, it_rounds hf hk i' h1', e'] at hz
    exact hz
  · obtain ⟨q, hq⟩ := hq (tl f k) (i + s)
    have hls := ll_pos hf hs
    have hz := lo_le_all hf hk (i := i + s + tl f k * ll f (it f s k)) (by have := Nat.le_mul_of_pos_right (tl f k) hls; omega)
    rw [show i + s + tl f k * ll f (it f s k) = (i + tl f k * ll f (it f s k)) + s by omega, it_add, it_rounds hf hs i h1, e] at hz
    exact hz
theorem lo_reach {f : List Nat} (hf : MapN f) {k : Nat} (hk : k < f.length) : ∃ s, it f s k = lo f k := by
  obtain ⟨i, _, _, e⟩ := lo_mem hf hk
  exact ⟨i, e⟩
theorem loop_to {f : List Nat} (hf : MapN f) {k : Nat} (hk : k < f.length) (a : Nat) : ∃ s, it f s (it f a k) = lo f k := by
  obtain ⟨s, e⟩ := lo_reach hf (it_lt hf hk a)
  exact ⟨s, e.trans (lo_it hf hk a)⟩
theorem loopTs_eq (f : List Nat) (i : Nat) : loopTs f i = (List.range (wl f (lo f i))).map (fun m => treeT f f.length (it f m (lo f i))) := by
  unfold loopTs way orb; rw [List.map_map]; rfl
theorem loopT_least {f : List Nat} (hf : MapN f) {i : Nat} (hi : i < f.length) : Least (fun m => treeT f f.length (it f m (lo f i))) (wl f (lo f i)) (loopT f i) := by
  obtain ⟨h1, h2⟩ := wl_loop hf (lo_lt hf hi) (lo_on hf hi)
  have := minK_least (T := fun m => treeT f f.length (it f m (lo f i))) h1 (fun m => by show treeT _ _ (it f _ _) = _; rw [h2])
  unfold loopT
  rw [loopTs_eq]
  simpa using this
section
variable {f g p : List Nat} (h : Cj f g p)
include h
theorem Cj.orb_ {i : Nat} (hi : i < f.length) (L : Nat) : orb g (nx p i) L = (orb f i L).map (nx p) := by
  unfold orb
  rw [List.map_map]
  exact List.map_congr_left fun j _ => h.it_ hi j
theorem Cj.wl_ {i : Nat} (hi : i < f.length) : wl g (nx p i) = wl f i := by
  have hw := wl_isWay h.hf hi
  refine wl_eq_of h.hg (h.ltg hi) hw.pos ?_ ?_
  · rw [h.orb_ hi]
    refine List.pairwise_map.2 ?_
    have hn : (orb f i (wl f i)).Pairwise (fun a b => a ≠ b) := hw.nodup
    refine hn.imp_of_mem fun {a b} ha hb hne e => hne ?_
    obtain ⟨u, _, rfl⟩ := mem_orb.1 ha
    obtain ⟨v, _, rfl⟩ := mem_orb.1 hb
    exact h.inj _ _ (it_lt h.hf hi u) (it_lt h.hf hi v) e
  · rw [h.orb_ hi, h.it_ hi]
    exact List.mem_map_of_mem hw.back
theorem Cj.loop_ {i : Nat} (hi : i < f.length) : loopT g (nx p i) = loopT f i := by
  have ha := lo_lt h.hf hi
  obtain ⟨h1, h2⟩ := wl_loop h.hf ha (lo_on h.hf hi)
  obtain ⟨s0, e0⟩ := lo_reach h.hf hi
  obtain ⟨s, e⟩ := loop_to h.hg (h.ltg hi) s0
  rw [h.it_ hi, e0, h.it_ ha] at e
  -- the least thing of the loop of g is the s-th behind
  have hs := it_lt h.hf ha s
  have hL := loopT_least h.hg (h.ltg hi)
  rw [← e, h.wl_ hs] at hL
  have hw : wl f (it f s (lo f i)) = wl f (lo f i) := by
    refine wl_eq_of h.hf hs h1 ?_ ?_
    · have hn : (orb f (lo f i) (wl f (lo f i))).Nodup := (wl_isWay h.hf ha).nodup
      unfold orb
      refine List.pairwise_map.2 ?_
      have hr : (List.range (wl f (lo f i))).Pairwise (fun a b => a ≠ b) := List.nodup_range
      refine hr.imp_of_mem fun {a b} hA hB hne eab => hne ?_
      rw [List.mem_range] at hA hB
      rw [← it_add, ← it_add] at eab
      have hq : ∀ x : Nat, it f (x + s) (lo f i) = it f ((x + s) % wl f (lo f i)) (lo f i) := fun x => by
        have hm := Nat.mod_add_div (x + s) (wl f (lo f i))
        have hr : ∀ q m, it f (m + q * wl f (lo f i)) (lo f i) = it f m (lo f i) := fun q => by
          induction q with
          | zero => intro m; simp
          | succ q ih => intro m; rw [show m + (q + 1) * wl f (lo f i) = m + q * wl f (lo f i) + wl f (lo f i) by rw [Nat.add_mul]; omega, h2, ih]
        rw [← hr ((x + s) / wl f (lo f i)) ((x + s) % wl f (lo f i)), Nat.mul_comm, hm]
      rw [hq a, hq b] at eab
      have hpos : wl f (lo f i) > 0 := by omega
      have := orb_inj hn (Nat.mod_lt _ hpos) (Nat.mod_lt _ hpos) eab
      have e1 := Nat.mod_add_div (a + s) (wl f (lo f i))
      have e2 := Nat.mod_add_div (b + s) (wl f (lo f i))
      exact mod_inj hA hB this
    · rw [← it_add, Nat.add_comm, h2]
      exact mem_orb.2 ⟨0, by omega, rfl⟩
  rw [hw] at hL
  have hT : (fun m => treeT g g.length (it g m (nx p (it f s (lo f i))))) = fun m => (fun m => treeT f f.length (it f m (lo f i))) (m + s) := by
    funext m
    rw [h.it_ hs, h.lg, h.tree_ _ (it_lt h.hf hs m), ← it_add]
  rw [hT] at hL
  exact (Least.shift h1 (fun m => by show treeT _ _ (it f _ _) = _; rw [h2]) s hL).unique (loopT_least h.hf hi)
theorem Cj.reps_ : (repsN g g.length).Perm ((repsN f f.length).map (fun k => lo g (nx p k))) := by
  refine (List.perm_ext_iff_of_nodup ?_ ?_).2 fun x => ?_
  · exact List.Pairwise.filter _ List.nodup_range
  · refine List.pairwise_map.2 ?_
    have hn : (repsN f f.length).Pairwise (fun a b => a ≠ b) := List.Pairwise.filter _ List.nodup_range
    refine hn.imp_of_mem fun {a b} ha hb hne e => hne ?_
    unfold repsN at ha hb
    rw [List.mem_filter, List.mem_range, decide_eq_true_eq] at ha hb
    obtain ⟨s, es⟩ := lo_reach h.hg (h.ltg ha.1)
    obtain ⟨t, et⟩ := lo_reach h.hg (h.ltg hb.1)
    rw [← es, ← et, h.it_ ha.1, h.it_ hb.1] at e
    have e2 := h.inj _ _ (it_lt h.hf ha.1 s) (it_lt h.hf hb.1 t) e
    have e3 := congrArg (lo f) e2
    rw [lo_it h.hf ha.1, lo_it h.hf hb.1, ha.2, hb.2] at e3
    exact e3
  · unfold repsN
    rw [List.mem_filter, List.mem_range, List.mem_map, decide_eq_true_eq]
    constructor
    · rintro ⟨h1, h2⟩
      obtain ⟨j, hj, rfl⟩ := h.sur x (by rw [← h.lg]; exact h1)
      obtain ⟨s, es⟩ := lo_reach h.hf hj
      refine ⟨lo f j, by rw [List.mem_filter, List.mem_range, decide_eq_true_eq]; exact ⟨lo_lt h.hf hj, lo_lo h.hf hj⟩, ?_⟩
      show lo g (nx p (lo f j)) = _
      rw [← es, ← h.it_ hj, lo_it h.hg (h.ltg hj), h2]
    · rintro ⟨k, hk, rfl⟩
      rw [List.mem_filter, List.mem_range] at hk
      exact ⟨lo_lt h.hg (h.ltg hk.1), lo_lo h.hg (h.ltg hk.1)⟩
theorem Cj.shape_ : shapeT g = shapeT f := by
  unfold shapeT
  rw [srt_perm (h.reps_.map (loopT g)), List.map_map]
  have e : (repsN f f.length).map (loopT g ∘ fun k => lo g (nx p k)) = (repsN f f.length).map (loopT f) := by
    refine List.map_congr_left fun k hk => ?_
    unfold repsN at hk
    rw [List.mem_filter, List.mem_range] at hk
    show loopT g (lo g (nx p k)) = _
    rw [show loopT g (lo g (nx p k)) = loopT g (nx p k) from by unfold loopT loopTs; rw [lo_lo h.hg (h.ltg hk.1)], h.loop_ hk.1]
  rw [e]
end
theorem shape_named {f p : List Nat} (hf : MapN f) (hp : MapN p) (hl : f.length = p.length) (ht : turned p = true) : shapeT (behN (behN (backN p) f) p) = shapeT f := (cj_of hf hp hl ht).shape_
end Go.Proofs.Ytnpjelekpkgbpaa
