/- Plain arithmetic of ways: iterates, the way from a thing, its tail and its loop. -/
import Derived.Test.YtlbiioncpeondaaM2
namespace Go.Proofs.Ytlbiioncpeondaa
set_option linter.unusedVariables false

/-! ### lists of few numbers -/
theorem nodup_le : ∀ (n : Nat) (l : List Nat), l.Nodup → (∀ x ∈ l, x < n) → l.length ≤ n
  | 0, l, _, h => by
    cases l with
    | nil => simp
    | cons a r => exact absurd (h a (by simp)) (by omega)
  | n + 1, l, hd, h => by
    have h1 : (l.erase n).length ≤ n := nodup_le n (l.erase n) (hd.erase n) (fun x hx => by
      have hx' := List.mem_of_mem_erase hx
      have := h x hx'
      rcases Nat.lt_or_ge x n with h2 | h2
      · exact h2
      · obtain rfl : x = n := by omega
        exact absurd rfl ((hd.mem_erase_iff.1 hx).1))
    have h2 := List.length_erase (a := n) (l := l)
    split at h2 <;> omega

/-- The thing after i steps. -/
def it (f : List Nat) : Nat → Nat → Nat
  | 0, k => k
  | i + 1, k => nx f (it f i k)
theorem it_zero (f : List Nat) (k : Nat) : it f 0 k = k := rfl
theorem it_succ (f : List Nat) (i k : Nat) : it f (i + 1) k = nx f (it f i k) := rfl
theorem it_one (f : List Nat) (k : Nat) : it f 1 k = nx f k := rfl
theorem it_add (f : List Nat) (k : Nat) : ∀ i j, it f (i + j) k = it f i (it f j k)
  | 0, j => by simp [it]
  | i + 1, j => by rw [show i + 1 + j = (i + j) + 1 by omega, it_succ, it_add f k i j, it_succ]
theorem it_lt {f : List Nat} (hf : MapN f) {k : Nat} (hk : k < f.length) : ∀ i, it f i k < f.length
  | 0 => hk
  | i + 1 => hf.has _ (it_lt hf hk i)
theorem it_mul {f : List Nat} {k p : Nat} (h : it f p k = k) : ∀ q, it f (q * p) k = k
  | 0 => by simp [it]
  | q + 1 => by rw [Nat.succ_mul, it_add, h, it_mul h q]

/-- The first i things of a way. -/
def orb (f : List Nat) (k i : Nat) : List Nat := (List.range i).map (fun j => it f j k)
theorem orb_len (f : List Nat) (k i : Nat) : (orb f k i).length = i := by simp [orb]
theorem orb_succ (f : List Nat) (k i : Nat) : orb f k (i + 1) = orb f k i ++ [it f i k] := by simp [orb, List.range_succ]
theorem mem_orb {f : List Nat} {k i x : Nat} : x ∈ orb f k i ↔ ∃ j, j < i ∧ it f j k = x := by simp [orb]
theorem orb_get {f : List Nat} {k i j : Nat} (h : j < (orb f k i).length) : (orb f k i)[j] = it f j k := by simp [orb]
theorem orb_nodup_succ {f : List Nat} {k i : Nat} (h : (orb f k i).Nodup) (hn : it f i k ∉ orb f k i) : (orb f k (i + 1)).Nodup := by
  rw [orb_succ, List.nodup_append]
  refine ⟨h, by simp, fun a ha b hb e => ?_⟩
  simp at hb
  subst hb e
  exact hn ha
theorem orb_le {f : List Nat} (hf : MapN f) {k i : Nat} (hk : k < f.length) (h : (orb f k i).Nodup) : i ≤ f.length := by
  have := nodup_le f.length _ h (fun x hx => by
    obtain ⟨j, _, rfl⟩ := mem_orb.1 hx
    exact it_lt hf hk j)
  rwa [orb_len] at this
theorem orb_inj {f : List Nat} {k i a b : Nat} (h : (orb f k i).Nodup) (ha : a < i) (hb : b < i) (e : it f a k = it f b k) : a = b := by
  have la : a < (orb f k i).length := by rw [orb_len]; exact ha
  have lb : b < (orb f k i).length := by rw [orb_len]; exact hb
  exact (List.getElem_inj (h₀ := la) (h₁ := lb) h).1 (by rw [orb_get, orb_get, e])

/-- L is the length of the way from k. -/
structure IsWay (f : List Nat) (k L : Nat) : Prop where
  pos : 1 ≤ L
  nodup : (orb f k L).Nodup
  back : it f L k ∈ orb f k L
theorem isWay_unique {f : List Nat} {k L L' : Nat} (h : IsWay f k L) (h' : IsWay f k L') : L = L' := by
  have aux : ∀ {L L' : Nat}, IsWay f k L → IsWay f k L' → L < L' → False := fun {L L'} h h' hlt => by
    obtain ⟨j, hj, e⟩ := mem_orb.1 h.back
    have := orb_inj h'.nodup (a := j) (b := L) (by omega) hlt e
    omega
  rcases Nat.lt_trichotomy L L' with h1 | h1 | h1
  · exact (aux h h' h1).elim
  · exact h1
  · exact (aux h' h h1).elim
/-- The search for the length. -/
def wlGo (f : List Nat) (k : Nat) : Nat → Nat → Nat
  | 0, i => i
  | n + 1, i => if it f i k ∈ orb f k i then i else wlGo f k n (i + 1)
def wl (f : List Nat) (k : Nat) : Nat := wlGo f k f.length 1
theorem wlGo_isWay {f : List Nat} (hf : MapN f) {k : Nat} (hk : k < f.length) : ∀ n i, 1 ≤ i → (orb f k i).Nodup → f.length + 1 ≤ n + i → IsWay f k (wlGo f k n i)
  | 0, i, h1, hd, hn => by
    have := orb_le hf hk hd
    omega
  | n + 1, i, h1, hd, hn => by
    unfold wlGo
    split
    · rename_i h; exact ⟨h1, hd, h⟩
    · rename_i h; exact wlGo_isWay hf hk n (i + 1) (by omega) (orb_nodup_succ hd h) (by omega)
theorem wl_isWay {f : List Nat} (hf : MapN f) {k : Nat} (hk : k < f.length) : IsWay f k (wl f k) :=
  wlGo_isWay hf hk _ _ (Nat.le_refl _) (by simp [orb]) (by omega)
theorem wl_le {f : List Nat} (hf : MapN f) {k : Nat} (hk : k < f.length) : wl f k ≤ f.length := orb_le hf hk (wl_isWay hf hk).nodup
/-- The way from k. -/
def way (f : List Nat) (k : Nat) : List Nat := orb f k (wl f k)

/-- The tail's length: the place of the thing to which the way comes back. -/
def tlGo (f : List Nat) (k : Nat) : Nat → Nat → Nat
  | 0, t => t
  | n + 1, t => if it f t k = it f (wl f k) k then t else tlGo f k n (t + 1)
def tl (f : List Nat) (k : Nat) : Nat := tlGo f k (wl f k) 0
theorem tlGo_is {f : List Nat} {k T : Nat} (hT : it f T k = it f (wl f k) k) (hu : ∀ j, j < T → it f j k ≠ it f (wl f k) k) : ∀ n t, t ≤ T → T ≤ n + t → tlGo f k n t = T
  | 0, t, h1, h2 => by unfold tlGo; omega
  | n + 1, t, h1, h2 => by
    unfold tlGo
    split
    · rename_i h
      rcases Nat.lt_or_ge t T with h3 | h3
      · exact absurd h (hu t h3)
      · omega
    · rename_i h
      have : t ≠ T := fun e => h (by rw [e]; exact hT)
      exact tlGo_is hT hu n (t + 1) (by omega) (by omega)
theorem tl_eq {f : List Nat} {k : Nat} (h : IsWay f k (wl f k)) {T : Nat} (hT : T < wl f k) (e : it f T k = it f (wl f k) k) : tl f k = T :=
  tlGo_is e (fun j hj he => by have := orb_inj h.nodup (a := j) (b := T) (by omega) hT (he.trans e.symm); omega) _ _ (by omega) (by omega)
theorem tl_is {f : List Nat} (hf : MapN f) {k : Nat} (hk : k < f.length) : tl f k < wl f k ∧ it f (tl f k) k = it f (wl f k) k := by
  have h := wl_isWay hf hk
  obtain ⟨j, hj, e⟩ := mem_orb.1 h.back
  have := tl_eq h hj e
  rw [this]; exact ⟨hj, e⟩
/-- The loop's length. -/
def ll (f : List Nat) (k : Nat) : Nat := wl f k - tl f k
theorem ll_pos {f : List Nat} (hf : MapN f) {k : Nat} (hk : k < f.length) : 1 ≤ ll f k := by have := (tl_is hf hk).1; unfold ll; omega
theorem it_round {f : List Nat} (hf : MapN f) {k : Nat} (hk : k < f.length) (i : Nat) (hi : tl f k ≤ i) : it f (i + ll f k) k = it f i k := by
  obtain ⟨h1, h2⟩ := tl_is hf hk
  have e1 : i + ll f k = (i - tl f k) + wl f k := by unfold ll; omega
  have e2 : i = (i - tl f k) + tl f k := by omega
  rw [e1, it_add, ← h2, ← it_add, ← e2]
theorem it_rounds {f : List Nat} (hf : MapN f) {k : Nat} (hk : k < f.length) (i : Nat) (hi : tl f k ≤ i) : ∀ q, it f (i + q * ll f k) k = it f i k
  | 0 => by simp
  | q + 1 => by
    rw [show i + (q + 1) * ll f k = (i + q * ll f k) + ll f k by rw [Nat.succ_mul]; omega, it_round hf hk _ (by omega), it_rounds hf hk i hi q]
theorem it_mod {f : List Nat} (hf : MapN f) {k : Nat} (hk : k < f.length) (i : Nat) (hi : tl f k ≤ i) : it f i k = it f (tl f k + (i - tl f k) % ll f k) k := by
  have h := it_rounds hf hk (tl f k + (i - tl f k) % ll f k) (by omega) ((i - tl f k) / ll f k)
  rw [← h]
  congr 1
  have := Nat.mod_add_div (i - tl f k) (ll f k)
  rw [Nat.mul_comm] at this
  omega
theorem it_mem_way {f : List Nat} (hf : MapN f) {k : Nat} (hk : k < f.length) (i : Nat) : it f i k ∈ way f k := by
  unfold way
  rcases Nat.lt_or_ge i (wl f k) with h | h
  · exact mem_orb.2 ⟨i, h, rfl⟩
  · have ht := (tl_is hf hk).1
    rw [it_mod hf hk i (by omega)]
    refine mem_orb.2 ⟨_, ?_, rfl⟩
    have := Nat.mod_lt (i - tl f k) (ll_pos hf hk)
    unfold ll at this ⊢
    omega
theorem mem_way {f : List Nat} (hf : MapN f) {k : Nat} (hk : k < f.length) {x : Nat} : x ∈ way f k ↔ ∃ i, it f i k = x := by
  constructor
  · intro h; obtain ⟨j, _, e⟩ := mem_orb.1 h; exact ⟨j, e⟩
  · rintro ⟨i, rfl⟩; exact it_mem_way hf hk i
/-- on a loop -/
def onL (f : List Nat) (k : Nat) : Bool := tl f k == 0
theorem onL_iff {f : List Nat} (hf : MapN f) {k : Nat} (hk : k < f.length) : onL f k = true ↔ ∃ p, 1 ≤ p ∧ it f p k = k := by
  unfold onL
  rw [beq_iff_eq]
  constructor
  · intro h
    refine ⟨ll f k, ll_pos hf hk, ?_⟩
    have := it_round hf hk 0 (by omega)
    simpa [it] using this
  · rintro ⟨p, hp, e⟩
    have h := wl_isWay hf hk
    obtain ⟨h1, h2⟩ := tl_is hf hk
    have hw : 1 ≤ wl f k := h.pos
    refine tl_eq h (by omega) ?_
    -- it wl = it (tl) ; and it (q*p) k = k for each q: take q so large that q * p is behind the tail
    have hq := it_mul e (wl f k)
    have hge : tl f k ≤ wl f k * p := by
      have : wl f k * 1 ≤ wl f k * p := Nat.mul_le_mul_left _ hp
      omega
    rw [it_mod hf hk _ hge] at hq
    have hlt := Nat.mod_lt (wl f k * p - tl f k) (ll_pos hf hk)
    have h0 : tl f k + (wl f k * p - tl f k) % ll f k = 0 := by
      refine orb_inj h.nodup (a := _) (b := 0) ?_ (by omega) (by rw [hq]; rfl)
      unfold ll at hlt ⊢; omega
    have : tl f k = 0 := by omega
    rw [← h2, this]
theorem onL_it {f : List Nat} (hf : MapN f) {k : Nat} (hk : k < f.length) (i : Nat) (hi : tl f k ≤ i) : onL f (it f i k) = true := by
  rw [onL_iff hf (it_lt hf hk i)]
  refine ⟨ll f k, ll_pos hf hk, ?_⟩
  rw [← it_add, Nat.add_comm, it_round hf hk i hi]
theorem tl_lt {f : List Nat} (hf : MapN f) {k : Nat} (hk : k < f.length) : tl f k < f.length := by
  have := (tl_is hf hk).1; have := wl_le hf hk; omega
theorem onL_far {f : List Nat} (hf : MapN f) {k : Nat} (hk : k < f.length) (i : Nat) (hi : f.length ≤ i + 1) : onL f (it f i k) = true :=
  onL_it hf hk i (by have := tl_lt hf hk; omega)
end Go.Proofs.Ytlbiioncpeondaa
