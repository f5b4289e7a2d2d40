/- Plain laws: deeds, and what they make of a desk. · Plain laws: what a deed makes of a map is a map of as many things; desks stay desks. · Rows of rows of the call's own, each row in a block of its own: words; a desk of the call's own. · Walk: l10Made of the reference. · Walks: sizes of desks (sums), copies of rows and of desks whose rows lie apart, marks on them (laws). · Walks: what the program makes of a map by a deed: bare, slices.Equal, BehindOf, PowerOf, ReadMap. · Walks: copies of a desk (program). · Walk: l10Copy of the reference. · Walks: ReadMap, NamedOf, and what a deed makes of a map (program). · Walks: what a deed makes of a map (program). -/
import Derived.Deep.RegionLaw
import Derived.Test.YtnpjelekpkgbpaaDoorV9
import Derived.Test.YtnpjelekpkgbpaaDoorV5
import Derived.Test.YtnpjelekpkgbpaaDoorV6
import Derived.Test.YtnpjelekpkgbpaaDoorV4
namespace Go.Proofs.YtnpjelekpkgbpaaDoor
set_option linter.unusedVariables false

def emp (s : ByteArray) : Bool := decide (s.size = 0)
theorem emp_iff {s : ByteArray} : emp s = true ↔ s = ⟨#[]⟩ := by
  unfold emp
  rw [decide_eq_true_eq]
  constructor
  · intro h
    cases s with
    | mk d => have : d.size = 0 := h; rw [Array.size_eq_zero_iff] at this; rw [this]
  · intro h; rw [h]; rfl
theorem emp_not {s : ByteArray} : emp s = false ↔ ¬ s = ⟨#[]⟩ := by rw [← emp_iff]; simp
/-- one thing led to another one -/
def ledX (xs : List Int) (a b : Int) : List Int := if hasB xs.length a && hasB xs.length b then xs.set a.toNat b else []
/-- whether the parts of a deed that its kind does not name are empty -/
def bareB (kd a b : Int) (s : ByteArray) : Bool := (a == 0 || (kd == 0 || kd == 2)) && (b == 0 || kd == 0) && (emp s || (kd == 1 || kd == 3))
/-- what a deed makes of a map, whatever else it bears -/
def chgI (xs : List Int) (kd a b : Int) (s : ByteArray) : List Int :=
  if kd = 0 then ledX xs a b else if kd = 1 then behI xs (rdI s) else if kd = 2 then powI xs a else if kd = 3 then namI xs (rdI s) else []
/-- what a deed makes of a map; none if it cannot be done -/
def madeI (xs : List Int) (kd a b : Int) (s : ByteArray) : List Int := if bareB kd a b s then chgI xs kd a b s else []
theorem made_bare {xs : List Int} {kd a b : Int} {s : ByteArray} (h : bareB kd a b s = true) : madeI xs kd a b s = chgI xs kd a b s := by unfold madeI; rw [h]; rfl
theorem made_not {xs : List Int} {kd a b : Int} {s : ByteArray} (h : bareB kd a b s = false) : madeI xs kd a b s = [] := by unfold madeI; rw [h]; rfl
theorem chg_0 (xs : List Int) (a b : Int) (s : ByteArray) : chgI xs 0 a b s = ledX xs a b := rfl
theorem chg_1 (xs : List Int) (a b : Int) (s : ByteArray) : chgI xs 1 a b s = behI xs (rdI s) := rfl
theorem chg_2 (xs : List Int) (a b : Int) (s : ByteArray) : chgI xs 2 a b s = powI xs a := rfl
theorem chg_3 (xs : List Int) (a b : Int) (s : ByteArray) : chgI xs 3 a b s = namI xs (rdI s) := rfl
theorem chg_o (xs : List Int) {kd : Int} (a b : Int) (s : ByteArray) (h0 : kd ≠ 0) (h1 : kd ≠ 1) (h2 : kd ≠ 2) (h3 : kd ≠ 3) : chgI xs kd a b s = [] := by
  unfold chgI; rw [if_neg h0, if_neg h1, if_neg h2, if_neg h3]
theorem rd_no {s : ByteArray} (h : mapOk (rdX s s.size) = false) : rdI s = [] := by unfold rdI; rw [h]; rfl
theorem mapOk_nil : mapOk [] = false := rfl
theorem ledX_map {f : List Nat} (hf : MapN f) {a b : Int} (h : (hasB f.length a && hasB f.length b) = true) : ledX (ints f) a b = ints (f.set a.toNat b.toNat) ∧ MapN (f.set a.toNat b.toNat) := by
  unfold ledX
  rw [ints_len, h, if_pos rfl]
  rw [Bool.and_eq_true, hasB_iff, hasB_iff] at h
  obtain ⟨⟨h1, h2⟩, h3, h4⟩ := h
  refine ⟨?_, by rw [List.length_set]; exact hf.pos, by rw [List.length_set]; exact hf.le7, fun k hk => ?_⟩
  · unfold ints
    rw [List.map_set, Int.toNat_of_nonneg h3]
  · rw [List.length_set] at hk ⊢
    unfold nx
    simp only [List.getD]
    rw [List.getElem?_set]
    split
    · rw [if_pos (by omega)]
      simp only [Option.getD_some]; omega
    · exact hf.has k hk
/-! ### what a deed makes of a desk -/
def backB (yss : List (List Int)) (kd a b : Int) (s : ByteArray) : Bool := decide (kd = 4) && decide (a = 0) && decide (b = 0) && emp s && decide (yss ≠ [])
def pastX (xs : List Int) (yss : List (List Int)) : List (List Int) := if yss.length < 8 then yss ++ [xs] else (yss ++ [xs]).drop 1
def stayB (xs : List Int) (kd a b : Int) (s : ByteArray) : Bool := decide (madeI xs kd a b s = []) || decide (madeI xs kd a b s = xs)
/-- the map, the maps of before, and whether it was done -/
def doX (xs : List Int) (yss : List (List Int)) (kd a b : Int) (s : ByteArray) : List Int × List (List Int) × Bool :=
  if deskOkB xs yss then
    if backB yss kd a b s then (gR yss (yss.length - 1), yss.take (yss.length - 1), true)
    else if stayB xs kd a b s then (xs, yss, false)
    else (madeI xs kd a b s, pastX xs yss, true)
  else ([], [], false)
section
variable {xs : List Int} {yss : List (List Int)} {kd a b : Int} {s : ByteArray}
theorem do_no (h : deskOkB xs yss = false) : doX xs yss kd a b s = ([], [], false) := by unfold doX; rw [h]; rfl
theorem do_back (h : deskOkB xs yss = true) (hb : backB yss kd a b s = true) : doX xs yss kd a b s = (gR yss (yss.length - 1), yss.take (yss.length - 1), true) := by unfold doX; rw [h, hb]; rfl
theorem do_stay (h : deskOkB xs yss = true) (hb : backB yss kd a b s = false) (hs : stayB xs kd a b s = true) : doX xs yss kd a b s = (xs, yss, false) := by unfold doX; rw [h, hb, hs]; rfl
theorem do_go (h : deskOkB xs yss = true) (hb : backB yss kd a b s = false) (hs : stayB xs kd a b s = false) : doX xs yss kd a b s = (madeI xs kd a b s, pastX xs yss, true) := by unfold doX; rw [h, hb, hs]; rfl
theorem back_iff : backB yss kd a b s = true ↔ kd = 4 ∧ a = 0 ∧ b = 0 ∧ s = ⟨#[]⟩ ∧ yss ≠ [] := by
  unfold backB; simp only [Bool.and_eq_true, decide_eq_true_eq, emp_iff]; constructor <;> (intro h; simp_all)
theorem desk_parts (h : deskOkB xs yss = true) : mapOk xs = true ∧ yss.length ≤ 8 ∧ ∀ k, k < yss.length → mapOk (gR yss k) = true := by
  unfold deskOkB at h
  simp only [Bool.and_eq_true, decide_eq_true_eq] at h
  refine ⟨h.1.1, h.1.2, fun k hk => ?_⟩
  rw [gR_get hk]
  exact List.all_eq_true.1 h.2 _ (List.getElem_mem hk)
theorem bare_4 (h : kd = 4) : madeI xs kd a b s = [] := by
  subst h; unfold madeI; split
  · rfl
  · rfl
theorem stay_nil (h : madeI xs kd a b s = []) : stayB xs kd a b s = true := by unfold stayB; rw [decide_eq_true h]; rfl
theorem stay_same (h : madeI xs kd a b s = xs) : stayB xs kd a b s = true := by unfold stayB; rw [decide_eq_true h, Bool.or_true]
theorem stay_not (h : ¬ madeI xs kd a b s = []) (h' : ¬ madeI xs kd a b s = xs) : stayB xs kd a b s = false := by unfold stayB; rw [decide_eq_false h, decide_eq_false h']; rfl
end
/-! ### a map named anew, thing by thing -/
def namK (f g : List Nat) : Nat → List Nat
  | 0 => List.replicate f.length 0
  | k + 1 => (namK f g k).set (nx g k) (nx g (nx f k))
theorem namK_len (f g : List Nat) : ∀ k, (namK f g k).length = f.length
  | 0 => by simp [namK]
  | k + 1 => by rw [namK, List.length_set, namK_len f g k]
theorem nx_namK {f g : List Nat} (hg : MapN g) (hl : f.length = g.length) (ht : turned g = true) : ∀ j, j ≤ f.length → ∀ i, i < j → nx (namK f g j) (nx g i) = nx g (nx f i)
  | 0, _, i, hi => by omega
  | j + 1, hj, i, hi => by
    have hx := hg.has i (by omega)
    rw [namK, nx_set (by rw [namK_len]; omega)]
    by_cases he : nx g j = nx g i
    · rw [if_pos he]
      have := turned_inj ht (by omega) (by omega) he
      rw [this]
    · rw [if_neg he]
      refine nx_namK hg hl ht j (by omega) i ?_
      rcases Nat.lt_or_ge i j with h | h
      · exact h
      · exfalso; apply he; rw [show i = j by omega]
theorem namK_all {f g : List Nat} (hg : MapN g) (hl : f.length = g.length) (ht : turned g = true) : namK f g f.length = behN (behN (backN g) f) g := by
  refine lists_eq (by rw [namK_len, behN_len, behN_len, back_len, hl]) (fun k hk => ?_)
  rw [namK_len] at hk
  obtain ⟨i, hi, rfl⟩ := turned_has hg ht (k := k) (by omega)
  rw [nx_namK hg hl ht _ (Nat.le_refl _) i (by omega), nx_behN (by rw [behN_len, back_len]; omega), nx_behN (by rw [back_len]; omega), nx_back hg ht hi]
end Go.Proofs.YtnpjelekpkgbpaaDoor
namespace Go.Proofs.YtnpjelekpkgbpaaDoor
set_option linter.unusedVariables false

/-- a map of n things, or none -/
def MapOf (n : Nat) (xs : List Int) : Prop := xs = [] ∨ (mapOk xs = true ∧ xs.length = n)
theorem mapOf_ints {f : List Nat} (hf : MapN f) : MapOf f.length (ints f) := .inr ⟨mapOk_ints hf, ints_len f⟩
theorem ledX_of {xs : List Int} (a b : Int) (hm : mapOk xs = true) : MapOf xs.length (ledX xs a b) := by
  obtain ⟨f, rfl, hf⟩ := mapOk_ex hm
  rcases hh : hasB f.length a && hasB f.length b with _ | _
  · left; unfold ledX; rw [ints_len, hh]; rfl
  · obtain ⟨e, hm⟩ := ledX_map hf hh
    rw [e, ints_len]
    have := mapOf_ints hm
    rw [List.length_set] at this
    exact this
theorem behI_of {xs ys : List Int} (hm : mapOk xs = true) : MapOf xs.length (behI xs ys) := by
  rcases hy : mapOk ys with _ | _
  · left; exact behI_no2 hy
  by_cases hl : xs.length = ys.length
  · obtain ⟨f, rfl, hf⟩ := mapOk_ex hm
    obtain ⟨g, rfl, hg⟩ := mapOk_ex hy
    rw [ints_len, ints_len] at hl
    rw [behI_ok hf hg hl, ints_len]
    have := mapOf_ints (behN_map hf hg hl)
    rw [behN_len] at this
    exact this
  · left; exact behI_no3 hl
theorem powI_of {xs : List Int} (t : Int) (hm : mapOk xs = true) : MapOf xs.length (powI xs t) := by
  rcases hi : inB t 0 1000000 with _ | _
  · left; exact powI_no2 hi
  · obtain ⟨f, rfl, hf⟩ := mapOk_ex hm
    rw [inB_iff] at hi
    obtain ⟨k, rfl⟩ := Int.eq_ofNat_of_zero_le hi.1
    rw [powI_ok hf (by omega), ints_len]
    have := mapOf_ints (powN_map hf k)
    rw [powN_len] at this
    exact this
theorem namI_of {xs ys : List Int} (hm : mapOk xs = true) : MapOf xs.length (namI xs ys) := by
  rcases hy : mapOk ys with _ | _
  · left; exact namI_no2 hy
  by_cases hl : xs.length = ys.length
  · obtain ⟨f, rfl, hf⟩ := mapOk_ex hm
    obtain ⟨g, rfl, hg⟩ := mapOk_ex hy
    rw [ints_len, ints_len] at hl
    rcases ht : turned g with _ | _
    · left; exact namI_no4 (by rw [toN_ints]; exact ht)
    rw [namI_ok hf hg hl ht, ints_len]
    have h1 : MapN (backN g) := back_map hg ht
    have hb : (backN g).length = f.length := by rw [back_len]; exact hl.symm
    have h2 := behN_map h1 hf hb
    have h3 := behN_map h2 hg (by rw [behN_len, back_len])
    have := mapOf_ints h3
    rw [behN_len, behN_len, hb] at this
    exact this
  · left; exact namI_no3 hl
theorem chgI_of {xs : List Int} (kd a b : Int) (s : ByteArray) (hm : mapOk xs = true) : MapOf xs.length (chgI xs kd a b s) := by
  unfold chgI
  split
  · exact ledX_of a b hm
  split
  · exact behI_of hm
  split
  · exact powI_of a hm
  split
  · exact namI_of hm
  · exact .inl rfl
theorem madeI_of {xs : List Int} (kd a b : Int) (s : ByteArray) (hm : mapOk xs = true) : MapOf xs.length (madeI xs kd a b s) := by
  unfold madeI
  split
  · exact chgI_of kd a b s hm
  · exact .inl rfl
theorem gR_app {xss yss : List (List Int)} {k : Nat} : gR (xss ++ yss) k = if k < xss.length then gR xss k else gR yss (k - xss.length) := by
  unfold gR; simp only [List.getD]
  split
  · rename_i h; rw [List.getElem?_append_left h]
  · rename_i h; rw [List.getElem?_append_right (by omega)]
theorem gR_dropN (xss : List (List Int)) (i j : Nat) : gR (xss.drop i) j = gR xss (i + j) := by
  unfold gR; simp only [List.getD, List.getElem?_drop]
theorem gR_takeN {xss : List (List Int)} {k j : Nat} (h : j < k) : gR (xss.take k) j = gR xss j := by
  unfold gR; simp only [List.getD]; rw [List.getElem?_take_of_lt h]
/-- A desk stays a desk. -/
theorem doX_desk {xs : List Int} {yss : List (List Int)} (kd a b : Int) (s : ByteArray) (h : deskOkB xs yss = true) : deskOkB (doX xs yss kd a b s).1 (doX xs yss kd a b s).2.1 = true := by
  obtain ⟨h1, h2, h3⟩ := desk_parts h
  rcases hb : backB yss kd a b s with _ | _
  · rcases hs : stayB xs kd a b s with _ | _
    · rw [do_go h hb hs]
      have hm : mapOk (madeI xs kd a b s) = true := by
        rcases madeI_of kd a b s h1 with e | e
        · rw [stay_nil e] at hs; cases hs
        · exact e.1
      have hall : ∀ k, k < (yss ++ [xs]).length → mapOk (gR (yss ++ [xs]) k) = true := fun k hk => by
        rw [gR_app]
        split
        · exact h3 k (by assumption)
        · rw [List.length_append] at hk
          have : k - yss.length = 0 := by simp at hk; omega
          rw [this]; exact h1
      show deskOkB (madeI xs kd a b s) (pastX xs yss) = true
      unfold pastX
      split
      · exact desk_yes hm (by rw [List.length_append]; simp; omega) hall
      · refine desk_yes hm (by rw [List.length_drop, List.length_append]; simp; omega) (fun k hk => ?_)
        rw [gR_dropN]
        exact hall _ (by rw [List.length_drop] at hk; omega)
    · rw [do_stay h hb hs]; exact h
  · rw [do_back h hb]
    have hy := (back_iff.1 hb).2.2.2.2
    have hl : 0 < yss.length := by
      rcases Nat.eq_zero_or_pos yss.length with e | e
      · exact absurd (List.length_eq_zero_iff.1 e) hy
      · exact e
    refine desk_yes (h3 _ (by omega)) (by rw [List.length_take]; omega) (fun k hk => ?_)
    rw [List.length_take] at hk
    rw [gR_takeN (by omega)]
    exact h3 k (by omega)
end Go.Proofs.YtnpjelekpkgbpaaDoor
namespace Go.Proofs.YtnpjelekpkgbpaaDoor
set_option linter.unusedVariables false
open Go.RowKit

/-- The value v is a slice of slices of the call's own, between the blocks lo and hi, that holds the rows xss, each in a block of its own. -/
def Ors (w : World) (lo hi : Nat) (v : Value) (xss : List (List Int)) : Prop :=
  ∃ (vs : List Value) (gs : Nat → Nat), w.ownsRow lo 49 1 v xss.length vs ∧ (∀ k, v.ownBlock = some k → k < hi) ∧
    (∀ i j, i < j → j < xss.length → gs i ≠ gs j) ∧
    ∀ j, j < xss.length → lo ≤ gs j ∧ gs j < hi ∧ ∃ A n c, vs[j]? = some (.slice A n c) ∧ OwnIn w (gs j) (gs j + 1) A n c (gR xss j)
theorem Ors.nil_ (w : World) (lo hi : Nat) : Ors w lo hi (.slice none 0 0) [] :=
  ⟨[], fun _ => 0, World.ownsRow_nil _ _ _ _, (fun k hk => by cases hk), fun i j _ hj => absurd hj (Nat.not_lt_zero _), fun j hj => absurd hj (Nat.not_lt_zero _)⟩
theorem Ors.madeN (w : World) (lo hi cap : Nat) (cur : Array Value) (hl : lo ≤ w.heap.size) (hh : w.heap.size < hi) (hc : cap ≤ maxLen) (hs : cur.size = cap) : Ors (w.alloc (.cells cur 49)) lo hi (.slice (some ⟨w.heap.size, 0, none⟩) 0 cap) [] :=
  ⟨[], fun _ => 0, World.ownsRow_made w cur cap hl hc (by simpa using hs), (fun k hk => by cases hk; exact hh), fun i j _ hj => absurd hj (Nat.not_lt_zero _), fun j hj => absurd hj (Nat.not_lt_zero _)⟩
theorem ownsRow_keep {w w' : World} {lo hi k n : Nat} {e : TypeId} {v : Value} {vs : List Value} (h : w.ownsRow lo e k v n vs) (hh : ∀ g, v.ownBlock = some g → g < hi)
    (hk : ∀ g, lo ≤ g → g < hi → g < w.heap.size → w'.heap[g]? = w.heap[g]?) : w'.ownsRow lo e k v n vs := by
  refine ⟨h.1, h.2.elim .inl fun ⟨g, cap, cur, e', hg, hb, r⟩ => .inr ⟨g, cap, cur, e', hg, ?_, r⟩⟩
  rw [hk g hg (hh g (by rw [e']; rfl)) (Array.getElem?_eq_some_iff.1 hb).1]
  exact hb
section
variable {w w' : World} {lo hi lo' hi' : Nat} {v : Value} {xss : List (List Int)}
theorem Ors.keep (h : Ors w lo hi v xss) (hk : ∀ g, lo ≤ g → g < hi → g < w.heap.size → w'.heap[g]? = w.heap[g]?) : Ors w' lo hi v xss := by
  obtain ⟨vs, gs, hv, hb, hd, hr⟩ := h
  refine ⟨vs, gs, ownsRow_keep hv hb hk, hb, hd, fun j hj => ?_⟩
  obtain ⟨h1, h2, A, n, c, e, hO⟩ := hr j hj
  exact ⟨h1, h2, A, n, c, e, hO.keep fun k h3 h4 h5 => hk k (by omega) (by omega) h5⟩
theorem Ors.up (h : Ors w lo hi v xss) (hb : Below w.heap.size w w') : Ors w' lo hi v xss := h.keep fun k _ _ h3 => hb.block k h3
theorem Ors.chg (h : Ors w lo hi v xss) (hc : Chg lo' hi' w w') (hd : hi ≤ lo' ∨ hi' ≤ lo) : Ors w' lo hi v xss := h.keep fun k _ _ h3 => hc.block k h3 (by omega)
theorem Ors.dn (h : Ors w lo hi v xss) (m : Nat) : Ors (w.drewN m) lo hi v xss := h
theorem Ors.wide (h : Ors w lo hi v xss) (h1 : lo' ≤ lo) (h2 : hi ≤ hi') : Ors w lo' hi' v xss := by
  obtain ⟨vs, gs, hv, hb, hd, hr⟩ := h
  refine ⟨vs, gs, ⟨hv.1, hv.2.elim .inl fun ⟨g, cap, cur, e', hg, r⟩ => .inr ⟨g, cap, cur, e', by omega, r⟩⟩, fun k hk => by have := hb k hk; omega, hd, fun j hj => ?_⟩
  obtain ⟨h3, h4, r⟩ := hr j hj
  exact ⟨by omega, by omega, r⟩
theorem Ors.form (h : Ors w lo hi v xss) : ∃ A c, v = .slice A xss.length c ∧ RdR w w.heap.size A xss.length c xss := by
  obtain ⟨vs, gs, hv, hb, hd, hr⟩ := h
  rcases hv.2 with ⟨rfl, h0⟩ | ⟨g, cap, cur, rfl, hg, hh, h1, h2, h3, h4⟩
  · have : xss = [] := List.length_eq_zero_iff.1 h0
    subst this
    exact ⟨none, 0, rfl, RdR.nil_ _ _⟩
  · refine ⟨some ⟨g, 0, none⟩, cap, rfl, rfl, by first | exact h1 | omega, by first | exact h2 | omega, fun _ => ⟨g, 0, rfl, (Array.getElem?_eq_some_iff.1 hh).1, fun k hk => ?_⟩⟩
    obtain ⟨_, _, A, n, c, e, hO⟩ := hr k hk
    exact ⟨A, n, c, by rw [Nat.zero_add, hv.cellAt k (by omega)]; exact e, hO.rd⟩
end
theorem OwnIn.tight {w : World} {lo hi n c : Nat} {A : Option Addr} {xs : List Int} (h : OwnIn w lo hi A n c xs) (h0 : 0 < n) : ∃ g, lo ≤ g ∧ g < hi ∧ OwnIn w g (g + 1) A n c xs := by
  obtain ⟨g, rfl⟩ := h.some_ h0
  obtain ⟨h1, h2, h3⟩ := h.lt g rfl
  refine ⟨g, h1, h2, ⟨h.1.1, h.1.2.1, ?_⟩, fun k hk => by cases hk; exact Nat.lt_succ_self _⟩
  rcases h.1.2.2 with ⟨e, _⟩ | ⟨g', cap, cur, e, _, r⟩
  · cases e
  · cases e; exact .inr ⟨g, c, cur, rfl, Nat.le_refl _, r⟩
theorem gR_snoc_lt {xss : List (List Int)} {ys : List Int} {j : Nat} (h : j < xss.length) : gR (xss ++ [ys]) j = gR xss j := by
  unfold gR; simp only [List.getD]; rw [List.getElem?_append_left h]
theorem gR_snoc_at (xss : List (List Int)) (ys : List Int) : gR (xss ++ [ys]) xss.length = ys := by unfold gR; simp [List.getD]
theorem gR_set_ne {xss : List (List Int)} {ys : List Int} {i j : Nat} (h : i ≠ j) : gR (xss.set i ys) j = gR xss j := by
  unfold gR; simp only [List.getD]; rw [List.getElem?_set_ne h]
theorem gR_set_at {xss : List (List Int)} {ys : List Int} {i : Nat} (h : i < xss.length) : gR (xss.set i ys) i = ys := by
  unfold gR; simp only [List.getD]; rw [List.getElem?_set_self h]; rfl
/-- A whole row behind an empty row of the call's own, in a region that draws. -/
theorem step_app_row {ops : Array Oper} {o : Oper} {a : Act} {K : Act → World → Prop} {Q : Exit → Act → World → Prop} {E : Prop} (w : World) (hgd : o.guard = none) (s x : Operand)
    (ho : o.op = .call { callee := .builtin .append, args := #[s, x], argTypes := #[49, 49] })
    (B : Nat) (v : Value) (hs : a.eval s = v) (hown : OwnV w B v []) (A : Option Addr) (n c : Nat) (xs : List Int) (hx : a.eval x = .slice A n c) (hr : Rd w w.heap.size A n c xs) (h0 : 0 < n)
    (hlen : n ≤ 1000000000000) (hB : B ≤ w.heap.size)
    (h : ∀ v' w', OwnV w' B v' xs → Below B w w' → K (a.put o.dst v') w') :
    if Region.wanted o (yielded ops a.tmps) = true then Oper.wp Tryd.prog o a w K Q else E := by
  have hw : Region.wanted o (yielded ops a.tmps) = true := by simp [Region.wanted, hgd]
  rw [if_pos hw]
  obtain ⟨i0, hi, hz0, hz1, hz2⟩ := info_parts int_info
  obtain ⟨b, off, rfl, hb, hcell⟩ := hr.2.2.2 h0
  have hl := hr.len
  refine wp_append_own (P := Tryd.prog) w s x 49 ho B 3 i0 (.int .i64 0) 1 8 Tryd.underlying49 hi hz0 hz1 hz2 rfl (by decide) v 0 [] hs (by simpa [OwnV] using hown) ⟨b, off, none⟩ n c (xs.map (Value.int .i64)) hx (by simp [hl]) (fun j u hj => ?_) (by simp [Value.oneCell']) (by unfold maxLen; omega) (by omega) (by simpa using hB) ?_
  · have hjn : j < n := by
      rcases Nat.lt_or_ge j (xs.map (Value.int .i64)).length with h' | h'
      · rw [List.length_map, hl] at h'; exact h'
      · rw [List.getElem?_eq_none h'] at hj; cases hj
    rw [Addr.add_lit, hcell j hjn]
    rw [List.getElem?_map, List.getElem?_eq_getElem (by omega)] at hj
    simp only [Option.map_some, Option.some.injEq] at hj
    rw [← hj, gI_get (by omega)]
  · intro v' w' hown' hg _
    refine h v' w' ?_ ((Below.refl B w).grown hg hB (fun k hk => (World.ownsRow.lt hown k hk).1))
    unfold OwnV
    rw [hl]
    simpa using hown'
/-- A row of the rows, and how it may be changed. -/
theorem Ors.at_ {w : World} {lo hi : Nat} {P : Option Addr} {m d : Nat} {xss : List (List Int)} (h : Ors w lo hi (.slice P m d) xss) {j : Nat} (hj : j < xss.length) :
    ∃ b A n c glo ghi, P = some ⟨b, 0, none⟩ ∧ lo ≤ b ∧ b < hi ∧ b < w.heap.size ∧ w.cell? ⟨b, j, none⟩ = some (.slice A n c) ∧ lo ≤ glo ∧ ghi ≤ hi ∧ OwnIn w glo ghi A n c (gR xss j) ∧
      ∀ w' ys, Chg glo ghi w w' → OwnIn w' glo ghi A n c ys → Ors w' lo hi (.slice P m d) (xss.set j ys) := by
  obtain ⟨vs, gs, hv, hb, hd, hr⟩ := h
  have hvl : vs.length = xss.length := by have := hv.1; omega
  obtain ⟨h1, h2, A, n, c, e, hO⟩ := hr j hj
  rcases id hv.2 with ⟨hP, h0⟩ | ⟨b, cap, cur, hP, hg, hh, h5, h6, h7, h8⟩
  · omega
  cases hP
  have hbl := (Array.getElem?_eq_some_iff.1 hh).1
  have hcell : w.cell? ⟨b, j, none⟩ = some (.slice A n c) := by rw [hv.cellAt j (by omega)]; exact e
  have key : ∀ glo ghi w' ys, Chg glo ghi w w' → (∀ k, (Value.slice A n c).ownBlock = some k → k = gs j) → (glo = ghi ∨ (glo = gs j ∧ ghi = gs j + 1 ∧ b ≠ gs j)) → OwnIn w' (gs j) (gs j + 1) A n c ys → Ors w' lo hi (.slice (some ⟨b, 0, none⟩) xss.length d) (xss.set j ys) := by
    intro glo ghi w' ys hc hk hcase hy
    refine ⟨vs, gs, ⟨by rw [List.length_set]; exact hv.1, ?_⟩, hb, fun i k hik hk => hd i k hik (by rw [List.length_set] at hk; exact hk), fun k hk => ?_⟩
    · refine .inr ⟨b, d, cur, by rw [List.length_set], hg, ?_, by rw [List.length_set]; exact ⟨h5, h6, h7, h8⟩⟩
      rw [hc.block b hbl (by omega)]; exact hh
    · rw [List.length_set] at hk
      obtain ⟨h3, h4, A1, n1, c1, e1, hO1⟩ := hr k hk
      by_cases hkj : k = j
      · subst hkj
        rw [e] at e1
        cases e1
        exact ⟨h3, h4, _, _, _, e, by rw [gR_set_at hj]; exact hy⟩
      · refine ⟨h3, h4, A1, n1, c1, e1, ?_⟩
        rw [gR_set_ne (by omega)]
        have : gs k ≠ gs j := by
          rcases Nat.lt_or_gt_of_ne hkj with h' | h'
          · exact hd k j h' hj
          · exact fun e => hd j k h' hk e.symm
        exact hO1.keep fun q h9 h10 h11 => hc.block q h11 (by omega)
  rcases id hO.1.2.2 with ⟨e0, hn0⟩ | ⟨g0, cap0, cur0, e0, hg0, r⟩
  · cases e0
    refine ⟨b, none, 0, 0, lo, lo, rfl, hg, hb b rfl, hbl, hcell, Nat.le_refl _, by have := hb b rfl; omega, ⟨⟨hO.1.1, hO.1.2.1, .inl ⟨rfl, rfl⟩⟩, fun k hk => by cases hk⟩, fun w' ys hc hy => ?_⟩
    exact key lo lo w' ys hc (fun k hk => by cases hk) (.inl rfl) ⟨⟨hy.1.1, hy.1.2.1, .inl ⟨rfl, rfl⟩⟩, fun k hk => by cases hk⟩
  · cases e0
    have hg1 := hO.lt g0 rfl
    obtain rfl : g0 = gs j := by omega
    have hne : b ≠ gs j := by
      have := ne_outer hv hO b rfl
      intro e'
      apply this
      show some (gs j) = some b
      rw [e']
    refine ⟨b, _, n, c, gs j, gs j + 1, rfl, hg, hb b rfl, hbl, hcell, h1, h2, hO, fun w' ys hc hy => ?_⟩
    exact key _ _ w' ys hc (fun k hk => by cases hk; rfl) (.inr ⟨rfl, rfl, hne⟩) hy

/-! ### a desk of the call's own -/
def OwnD (w : World) (lo hi : Nat) (A : Option Addr) (n c : Nat) (xs : List Int) (P : Option Addr) (m d : Nat) (yss : List (List Int)) : Prop :=
  ∃ mid, lo ≤ mid ∧ mid ≤ hi ∧ OwnIn w lo mid A n c xs ∧ Ors w mid hi (.slice P m d) yss
section
variable {w w' : World} {lo hi lo' hi' n c m d : Nat} {A P : Option Addr} {xs : List Int} {yss : List (List Int)}
theorem OwnD.rd (h : OwnD w lo hi A n c xs P m d yss) : RdD w w.heap.size A n c xs P m d yss := by
  obtain ⟨mid, h1, h2, hO, hR⟩ := h
  obtain ⟨A', c', e, hr⟩ := hR.form
  cases e
  exact ⟨hO.rd, hr⟩
theorem OwnD.up (h : OwnD w lo hi A n c xs P m d yss) (hb : Below w.heap.size w w') : OwnD w' lo hi A n c xs P m d yss := by
  obtain ⟨mid, h1, h2, hO, hR⟩ := h
  exact ⟨mid, h1, h2, hO.up hb, hR.up hb⟩
theorem OwnD.chg (h : OwnD w lo hi A n c xs P m d yss) (hc : Chg lo' hi' w w') (hd : hi ≤ lo' ∨ hi' ≤ lo) : OwnD w' lo hi A n c xs P m d yss := by
  obtain ⟨mid, h1, h2, hO, hR⟩ := h
  exact ⟨mid, h1, h2, hO.chg hc (by omega), hR.chg hc (by omega)⟩
theorem OwnD.dn (h : OwnD w lo hi A n c xs P m d yss) (k : Nat) : OwnD (w.drewN k) lo hi A n c xs P m d yss := h
theorem OwnD.wide (h : OwnD w lo hi A n c xs P m d yss) (h1 : lo' ≤ lo) (h2 : hi ≤ hi') : OwnD w lo' hi' A n c xs P m d yss := by
  obtain ⟨mid, h3, h4, hO, hR⟩ := h
  exact ⟨mid, by omega, by omega, hO.wide h1 (Nat.le_refl _), hR.wide (Nat.le_refl _) h2⟩
theorem OwnD.zero_ (w : World) (lo hi : Nat) (h : lo ≤ hi) : OwnD w lo hi none 0 0 [] none 0 0 [] :=
  ⟨lo, Nat.le_refl _, h, OwnIn.nil_ _ _ _, Ors.nil_ _ _ _⟩
theorem OwnD.lens (h : OwnD w lo hi A n c xs P m d yss) : xs.length = n ∧ yss.length = m := ⟨h.rd.1.len, h.rd.2.len⟩
end
theorem Ors.rr {w : World} {lo hi B : Nat} {v : Value} {xss : List (List Int)} (h : Ors w lo hi v xss) (hB : B ≤ lo) (hh : hi ≤ w.heap.size) : OwnRR w B v xss := by
  obtain ⟨vs, gs, hv, hb, hd, hr⟩ := h.wide (lo' := B) hB (Nat.le_refl _)
  refine ⟨vs, hv, fun j hj => ?_⟩
  obtain ⟨h1, h2, A, n, c, e, hO⟩ := hr j hj
  exact ⟨A, n, c, e, hO.wide h1 (by omega)⟩
end Go.Proofs.YtnpjelekpkgbpaaDoor
namespace Go.Proofs.YtnpjelekpkgbpaaDoor
set_option linter.unusedVariables false
open Go.RowKit

/-- A deed in memory. -/
def Four (w : World) (g : Nat) (kd a b : Int) (s : ByteArray) : Prop :=
  g < w.heap.size ∧ w.cell? ⟨g, 0, none⟩ = some (.int .i64 kd) ∧ w.cell? ⟨g, 1, none⟩ = some (.int .i64 a) ∧ w.cell? ⟨g, 2, none⟩ = some (.int .i64 b) ∧ w.cell? ⟨g, 3, none⟩ = some (.string s)
section
variable {w w' : World} {g B lo hi : Nat} {kd a b : Int} {s : ByteArray}
theorem Four.made (w : World) (T : TypeId) (kd a b : Int) (s : ByteArray) : Four (w.alloc (.cells #[.int .i64 kd, .int .i64 a, .int .i64 b, .string s] T)) w.heap.size kd a b s :=
  ⟨by simp, (World.cell?_alloc_at _ _ _ _ rfl).trans rfl, (World.cell?_alloc_at _ _ _ _ rfl).trans rfl, (World.cell?_alloc_at _ _ _ _ rfl).trans rfl, (World.cell?_alloc_at _ _ _ _ rfl).trans rfl⟩
theorem Four.below (h : Four w g kd a b s) (hb : Below B w w') (hg : g < B) : Four w' g kd a b s :=
  ⟨Nat.lt_of_lt_of_le h.1 hb.size, (hb.cell (p := ⟨g, 0, none⟩) hg).trans h.2.1, (hb.cell (p := ⟨g, 1, none⟩) hg).trans h.2.2.1, (hb.cell (p := ⟨g, 2, none⟩) hg).trans h.2.2.2.1, (hb.cell (p := ⟨g, 3, none⟩) hg).trans h.2.2.2.2⟩
theorem Four.up (h : Four w g kd a b s) (hb : Below w.heap.size w w') : Four w' g kd a b s := h.below hb h.1
theorem Four.dn (h : Four w g kd a b s) (m : Nat) : Four (w.drewN m) g kd a b s := h
theorem Four.chg (h : Four w g kd a b s) (hc : Chg lo hi w w') (hd : g < lo ∨ hi ≤ g) : Four w' g kd a b s :=
  have e := hc.block g h.1 hd
  ⟨Nat.lt_of_lt_of_le h.1 hc.size, (World.cell?_of_block (w := w) (a := ⟨g, 0, none⟩) e).trans h.2.1, (World.cell?_of_block (w := w) (a := ⟨g, 1, none⟩) e).trans h.2.2.1, (World.cell?_of_block (w := w) (a := ⟨g, 2, none⟩) e).trans h.2.2.2.1, (World.cell?_of_block (w := w) (a := ⟨g, 3, none⟩) e).trans h.2.2.2.2⟩
end
theorem eqz {a : Int} (h : a = 0) : (a == 0) = true := by rw [h]; rfl
theorem neqz {a : Int} (h : ¬ a = 0) : (a == 0) = false := by simpa using h

theorem strE {s : ByteArray} (h : s = ⟨#[]⟩) : s.toList = [] := by rw [h, ByteArray.toList_eq]
theorem strN {s : ByteArray} (h : ¬ s = ⟨#[]⟩) : ¬ s.toList = [] := by
  rw [ByteArray.toList_eq]
  intro e
  apply h
  cases s with
  | mk d => have : d = #[] := Array.toList_eq_nil_iff.1 e; rw [this]
theorem strB {s : ByteArray} (h : ¬ s = ⟨#[]⟩) : s.toList.isEmpty = false := by
  rcases e : s.toList.isEmpty with _ | _
  · rfl
  · exact absurd (List.isEmpty_iff.1 e) (strN h)
end Go.Proofs.YtnpjelekpkgbpaaDoor
namespace Go.Proofs.YtnpjelekpkgbpaaDoor
set_option linter.unusedVariables false
open Go.RowKit

/-- how many numbers the rows have -/
def tot (xss : List (List Int)) : Nat := (xss.map List.length).sum
theorem tot_snoc (xss : List (List Int)) (ys : List Int) : tot (xss ++ [ys]) = tot xss + ys.length := by simp [tot]
theorem take_snocR (xss : List (List Int)) (k : Nat) (h : k < xss.length) : xss.take (k + 1) = xss.take k ++ [gR xss k] := by
  rw [List.take_succ_eq_append_getElem h, gR_get h]
theorem tot_take (xss : List (List Int)) (k : Nat) (h : k < xss.length) : tot (xss.take (k + 1)) = tot (xss.take k) + (gR xss k).length := by rw [take_snocR _ _ h, tot_snoc]
theorem tot_row {xss : List (List Int)} {k : Nat} (h : k < xss.length) : (gR xss k).length ≤ tot xss := by
  have h1 := tot_take xss k h
  have h2 : tot (xss.take (k + 1)) ≤ tot xss := by
    have : tot xss = tot (xss.take (k + 1)) + tot (xss.drop (k + 1)) := by
      unfold tot; rw [← List.sum_append, ← List.map_append, List.take_append_drop]
    omega
  omega
theorem tot_le {xss : List (List Int)} {k : Nat} : tot (xss.take k) ≤ tot xss := by
  have : tot xss = tot (xss.take k) + tot (xss.drop k) := by unfold tot; rw [← List.sum_append, ← List.map_append, List.take_append_drop]
  omega
def SzT (n : Nat) (left : Int) (w : World) (e : Ending) (w' : World) : Prop :=
  ∃ r : Int, e = .returned (.int .i64 r) ∧ w = w' ∧ -1 ≤ r ∧ r ≤ left ∧ (0 ≤ r → r + (n : Int) ≤ left)
def SzTT (xss : List (List Int)) (left : Int) (w : World) (e : Ending) (w' : World) : Prop :=
  ∃ r : Int, e = .returned (.int .i64 r) ∧ w = w' ∧ -1 ≤ r ∧ r ≤ left ∧ (0 ≤ r → r + (xss.length : Int) + (tot xss : Int) ≤ left)
def SzD (xs : List Int) (yss : List (List Int)) (w : World) (e : Ending) (w' : World) : Prop :=
  ∃ r : Int, e = .returned (.int .i64 r) ∧ Below w.heap.size w w' ∧ -1 ≤ r ∧ r ≤ 1048576 ∧ (0 ≤ r → xs.length + yss.length + tot yss ≤ 1048576)
theorem small_of {xs : List Int} {yss : List (List Int)} (h : xs.length + yss.length + tot yss ≤ 1048576) : xs.length ≤ 1048576 ∧ Small yss :=
  ⟨by omega, by omega, fun k hk => by have := tot_row hk; omega⟩

/-! ### copies -/
/-- The first k rows are made, each in a block of its own. -/
def RowsD (w : World) (g n k : Nat) (xss : List (List Int)) : Prop :=
  ∃ (vs : List Value) (gs : Nat → Nat), w.ownsRow g 49 1 (.slice (some ⟨g, 0, none⟩) n n) n vs ∧ vs.length = n ∧ (∀ j, k ≤ j → j < n → vs[j]? = some (.slice none 0 0)) ∧ (∀ i j, i < j → j < k → gs i ≠ gs j) ∧
    ∀ j, j < k → g < gs j ∧ gs j < w.heap.size ∧ ∃ A n' c, vs[j]? = some (.slice A n' c) ∧ OwnIn w (gs j) (gs j + 1) A n' c (gR xss j)
theorem RowsD.made {w : World} {g n : Nat} {xss : List (List Int)} (h : w.ownsRow g 49 1 (.slice (some ⟨g, 0, none⟩) n n) n (madeCells #[Value.slice none 0 0] n).toList) : RowsD w g n 0 xss :=
  ⟨List.replicate n (.slice none 0 0), fun _ => 0, by simpa [toList_madeCells_one] using h, by simp, fun j _ hj => by simp [hj], fun i j _ hj => absurd hj (Nat.not_lt_zero _), fun j hj => absurd hj (Nat.not_lt_zero _)⟩
theorem RowsD.lt {w : World} {g n k : Nat} {xss : List (List Int)} (h : RowsD w g n k xss) : g < w.heap.size := by
  obtain ⟨vs, gs, ho, _⟩ := h
  exact (ho.lt g rfl).2
theorem RowsD.old {w w' : World} {g n k : Nat} {xss : List (List Int)} (h : RowsD w g n k xss) (hb : Below w.heap.size w w') (hk : k < n) : w'.cell? ⟨g, k, none⟩ = some (.slice none 0 0) := by
  obtain ⟨vs, gs, ho, hl, h0, _⟩ := h
  rw [(vs_up ho hb).cellAt k (by omega)]
  exact h0 k (Nat.le_refl _) hk
theorem RowsD.frozen {w w' : World} {g n k : Nat} {xss : List (List Int)} (h : RowsD w g n k xss) (hb : Below w.heap.size w w') : w'.frozen? ⟨g, k, none⟩ = false := by
  obtain ⟨vs, gs, ho, _⟩ := h
  exact (vs_up ho hb).frozenAt k
theorem RowsD.next {w w' : World} {g n k n' : Nat} {xss : List (List Int)} (h : RowsD w g n k xss) (hb : Below w.heap.size w w') (hk : k < n) (hs : w.heap.size < w'.heap.size)
    (ho : Own w' w.heap.size (some ⟨w.heap.size, 0, none⟩) n' n' (gR xss k)) : RowsD (w'.setCell ⟨g, k, none⟩ (.slice (some ⟨w.heap.size, 0, none⟩) n' n')) g n (k + 1) xss := by
  have hg := h.lt
  obtain ⟨vs, gs, hv, hl, h0, hd, h1⟩ := h
  have hv' := (vs_up hv hb).stored k (.slice (some ⟨w.heap.size, 0, none⟩) n' n')
  have hch : Chg g (g + 1) w' (w'.setCell ⟨g, k, none⟩ (.slice (some ⟨w.heap.size, 0, none⟩) n' n')) := (Chg.refl g (g + 1) w').setCell (p := ⟨g, k, none⟩) (Nat.le_refl g) (Nat.lt_succ_self g) _
  have hz := hch.size
  refine ⟨vs.set k (.slice (some ⟨w.heap.size, 0, none⟩) n' n'), fun j => if j = k then w.heap.size else gs j, hv'.1, by simpa using hl, fun j h2 h3 => ?_, fun i j hij hj => ?_, fun j hj => ?_⟩
  · rw [List.getElem?_set_ne (by omega)]; exact h0 j (by omega) h3
  · show (if i = k then w.heap.size else gs i) ≠ (if j = k then w.heap.size else gs j)
    rw [if_neg (by omega)]
    by_cases he : j = k
    · rw [if_pos he]; have := (h1 i (by omega)).2.1; omega
    · rw [if_neg he]; exact hd i j hij (by omega)
  · show g < (if j = k then w.heap.size else gs j) ∧ (if j = k then w.heap.size else gs j) < (w'.setCell ⟨g, k, none⟩ (.slice (some ⟨w.heap.size, 0, none⟩) n' n')).heap.size ∧ ∃ A m c, (vs.set k (Value.slice (some ⟨w.heap.size, 0, none⟩) n' n'))[j]? = some (.slice A m c) ∧ OwnIn (w'.setCell ⟨g, k, none⟩ (.slice (some ⟨w.heap.size, 0, none⟩) n' n')) (if j = k then w.heap.size else gs j) ((if j = k then w.heap.size else gs j) + 1) A m c (gR xss j)
    rcases Nat.lt_or_ge j k with h2 | h2
    · obtain ⟨h3, h4, A, m, c, e, hO⟩ := h1 j h2
      rw [if_neg (by omega)]
      refine ⟨h3, by omega, A, m, c, by rw [List.getElem?_set_ne (by omega)]; exact e, ?_⟩
      exact (hO.up hb).chg hch (.inr (by omega))
    · obtain rfl : j = k := by omega
      rw [if_pos rfl]
      refine ⟨hg, by omega, _, _, _, by rw [List.getElem?_set_self (by omega)], ?_⟩
      have hO2 : OwnIn w' w.heap.size (w.heap.size + 1) (some ⟨w.heap.size, 0, none⟩) n' n' (gR xss j) := ⟨ho, fun q hq => by cases hq; exact Nat.lt_succ_self _⟩
      exact hO2.chg hch (.inr (by omega))
theorem RowsD.ors {w : World} {g n : Nat} {xss : List (List Int)} (h : RowsD w g n n xss) (hx : xss.length = n) : Ors w g w.heap.size (.slice (some ⟨g, 0, none⟩) n n) xss := by
  have hg := h.lt
  obtain ⟨vs, gs, hv, hl, h0, hd, h1⟩ := h
  refine ⟨vs, gs, by rw [hx]; exact hv, (fun k hk => by cases hk; exact hg), fun i j hij hj => hd i j hij (by omega), fun j hj => ?_⟩
  obtain ⟨h2, h3, r⟩ := h1 j (by omega)
  exact ⟨by omega, h3, r⟩
def ToD (w : World) (xs : List Int) (yss : List (List Int)) (e : Ending) (w' : World) : Prop :=
  ∃ A' n' c' P' m' d', e = .returned (.agg #[.slice A' n' c', .slice P' m' d']) ∧ OwnD w' w.heap.size w'.heap.size A' n' c' xs P' m' d' yss ∧ Below w.heap.size w w'
/-! ### marks -/
/-- the marks of rows, from k on -/
def markR : Nat → List (List Int) → List (List Int)
  | _, [] => []
  | k, ys :: r => marks k ys.length :: markR (k + ys.length) r
theorem markR_snoc (xss : List (List Int)) (ys : List Int) : ∀ k, markR k (xss ++ [ys]) = markR k xss ++ [marks (k + tot xss) ys.length] := by
  induction xss with
  | nil => intro k; simp [markR, tot]
  | cons x r ih =>
    intro k
    have e : tot (x :: r) = x.length + tot r := by simp [tot]
    rw [List.cons_append, markR, ih, markR, e, List.cons_append, Nat.add_assoc]
theorem markR_len (xss : List (List Int)) : ∀ k, (markR k xss).length = xss.length := by
  induction xss with
  | nil => intro k; rfl
  | cons x r ih => intro k; rw [markR, List.length_cons, ih, List.length_cons]
/-- the first i rows marked -/
def mkTo (k : Nat) (xss : List (List Int)) (i : Nat) : List (List Int) := markR k (xss.take i) ++ xss.drop i
theorem mkTo_zero (k : Nat) (xss : List (List Int)) : mkTo k xss 0 = xss := by simp [mkTo, markR]
theorem mkTo_all (k : Nat) (xss : List (List Int)) : mkTo k xss xss.length = markR k xss := by simp [mkTo]
theorem mkTo_len (k : Nat) (xss : List (List Int)) (i : Nat) (h : i ≤ xss.length) : (mkTo k xss i).length = xss.length := by
  unfold mkTo
  rw [List.length_append, markR_len, List.length_take, List.length_drop]; omega
theorem mkTo_ge {k : Nat} {xss : List (List Int)} {i : Nat} (h : i < xss.length) : gR (mkTo k xss i) i = gR xss i := by
  unfold gR mkTo
  simp only [List.getD]
  have hl : (markR k (xss.take i)).length = i := by rw [markR_len, List.length_take]; omega
  rw [List.getElem?_append_right (by omega), hl, List.getElem?_drop, Nat.sub_self, Nat.add_zero]
theorem mkTo_succ {k : Nat} {xss : List (List Int)} {i : Nat} (h : i < xss.length) : (mkTo k xss i).set i (marks (k + tot (xss.take i)) (gR xss i).length) = mkTo k xss (i + 1) := by
  unfold mkTo
  have hl : (markR k (xss.take i)).length = i := by rw [markR_len, List.length_take]; omega
  rw [List.set_append_right _ _ (by omega), hl, Nat.sub_self, List.drop_eq_getElem_cons h, List.set_cons_zero, take_snocR _ _ h, markR_snoc]
  simp
theorem markR_at {k : Nat} {xss : List (List Int)} {i : Nat} (h : i < xss.length) : gR (markR k xss) i = marks (k + tot (xss.take i)) (gR xss i).length := by
  have e : xss = xss.take i ++ gR xss i :: xss.drop (i + 1) := by
    rw [gR_get h, ← List.drop_eq_getElem_cons h, List.take_append_drop]
  have hm : ∀ (a b : List (List Int)) (k : Nat), markR k (a ++ b) = markR k a ++ markR (k + tot a) b := by
    intro a
    induction a with
    | nil => intro b k; simp [markR, tot]
    | cons x r ih =>
      intro b k
      have e : tot (x :: r) = x.length + tot r := by simp [tot]
      rw [List.cons_append, markR, ih, markR, e, List.cons_append, Nat.add_assoc]
  have hl : (markR k (xss.take i)).length = i := by rw [markR_len, List.length_take]; omega
  conv => lhs; rw [e, hm, markR]
  unfold gR
  simp only [List.getD]
  rw [List.getElem?_append_right (by omega), hl, Nat.sub_self]
  simp
end Go.Proofs.YtnpjelekpkgbpaaDoor
namespace Go.Proofs.YtnpjelekpkgbpaaDoor
set_option linter.unusedVariables false
open Go.RowKit

set_option maxRecDepth 100000 in
set_option maxHeartbeats 1600000 in
theorem bare_c (kd a b : Int) (s : ByteArray) (w : World) :
    Calls Tryd.prog 34 #[.agg #[.int .i64 kd, .int .i64 a, .int .i64 b, .string s]] w fun e w' => e = .returned (.bool (bareB kd a b s)) ∧ Below w.heap.size w w' := by
  have hb1 : Below w.heap.size w (w.alloc (.cells #[.int .i64 kd, .int .i64 a, .int .i64 b, .string s] 26)) := (Below.refl _ _).alloc (Nat.le_refl _) _
  have ca : (a == 0) = true ∨ (a == 0) = false := by cases (a == 0) <;> simp
  have cb : (b == 0) = true ∨ (b == 0) = false := by cases (b == 0) <;> simp
  have cs : (emp s = true ∧ s.toList = []) ∨ (emp s = false ∧ s.toList.isEmpty = false) := by
    by_cases h : s = ⟨#[]⟩
    · exact .inl ⟨emp_iff.2 h, strE h⟩
    · exact .inr ⟨emp_not.2 h, strB h⟩
  have ck : kd = 0 ∨ kd = 1 ∨ kd = 2 ∨ kd = 3 ∨ ((kd == 0) = false ∧ (kd == 1) = false ∧ (kd == 2) = false ∧ (kd == 3) = false) := by
    by_cases h0 : kd = 0
    · exact .inl h0
    by_cases h1 : kd = 1
    · exact .inr (.inl h1)
    by_cases h2 : kd = 2
    · exact .inr (.inr (.inl h2))
    by_cases h3 : kd = 3
    · exact .inr (.inr (.inr (.inl h3)))
    exact .inr (.inr (.inr (.inr ⟨by simpa using h0, by simpa using h1, by simpa using h2, by simpa using h3⟩)))
  rcases ck with rfl | rfl | rfl | rfl | ⟨q0, q1, q2, q3⟩ <;> rcases ca with qa | qa <;> rcases cb with qb | qb <;> rcases cs with ⟨hs, qs⟩ | ⟨hs, qs⟩
  all_goals
    have HS := Lib.hid hs
    have HA := Lib.hid qa
    have HB := Lib.hid qb
    clear hs
    go_enter Tryd.func34, Tryd.ntmps34
    go_wp2_with fail
    go_ret
    refine ⟨boolEnd ?_, hb1⟩
    unfold bareB
    rw [HA.out, HB.out, HS.out]
    first
      | rfl
      | (rw [q0, q1, q2, q3]; rfl)
/-- A row of the call's own; nil where it is empty. -/
def Row1N (xs : List Int) (w : World) (e : Ending) (w' : World) : Prop :=
  ∃ A n c, e = .returned (.slice A n c) ∧ OwnIn w' w.heap.size w'.heap.size A n c xs ∧ Below w.heap.size w w' ∧ (xs = [] → A = none ∧ n = 0 ∧ c = 0)
theorem Row1.toN {xs : List Int} {w w' : World} {e : Ending} (h : Row1 xs w e w') (hx : xs ≠ []) : Row1N xs w e w' := by
  obtain ⟨A, n, c, h1, h2, h3⟩ := h
  exact ⟨A, n, c, h1, h2, h3, fun e => absurd e hx⟩
theorem Row1N.nil_ {w w' : World} (hb : Below w.heap.size w w') : Row1N [] w (.returned (.slice none 0 0)) w' := ⟨none, 0, 0, rfl, OwnIn.nil_ _ _ _, hb, fun _ => ⟨rfl, rfl, rfl⟩⟩
theorem ints_ne {f : List Nat} (hf : MapN f) : ints f ≠ [] := by
  intro e
  have := congrArg List.length e
  rw [ints_len] at this
  have := hf.pos
  simp_all
end Go.Proofs.YtnpjelekpkgbpaaDoor
namespace Go.Proofs.YtnpjelekpkgbpaaDoor
set_option linter.unusedVariables false
open Go.RowKit

/-- Rows that are no longer than a map, and not empty. -/
def Fit (yss : List (List Int)) : Prop := yss.length ≤ 1000000 ∧ ∀ k, k < yss.length → 0 < (gR yss k).length ∧ (gR yss k).length ≤ 7
def CopyD (w : World) (xs : List Int) (yss : List (List Int)) (e : Ending) (w' : World) : Prop :=
  ∃ A n c P m d, e = .returned (.agg #[.slice A n c, .slice P m d]) ∧ OwnD w' w.heap.size w'.heap.size A n c xs P m d yss ∧ Below w.heap.size w w'
end Go.Proofs.YtnpjelekpkgbpaaDoor
namespace Go.Proofs.YtnpjelekpkgbpaaDoor
set_option linter.unusedVariables false
open Go.RowKit

end Go.Proofs.YtnpjelekpkgbpaaDoor
namespace Go.Proofs.YtnpjelekpkgbpaaDoor
set_option linter.unusedVariables false
open Go.RowKit

/-- the first k numbers of a text, and noughts behind them -/
def rdT (s : ByteArray) (k : Nat) : List Int := rdX s k ++ List.replicate (s.size - k) 0
theorem rdT_zero (s : ByteArray) : rdT s 0 = List.replicate s.size 0 := by simp [rdT, rdX]
theorem rdT_all (s : ByteArray) : rdT s s.size = rdX s s.size := by simp [rdT]
theorem rdT_succ (s : ByteArray) {k : Nat} (h : k < s.size) : (rdT s k).set k (((s.get! k).toNat : Int) - 48) = rdT s (k + 1) := by
  unfold rdT
  rw [List.set_append_right _ _ (by rw [rdX_len]; exact Nat.le_refl _), rdX_len, Nat.sub_self, show s.size - k = (s.size - (k + 1)) + 1 by omega, List.replicate_succ, List.set_cons_zero, rdX_succ]
  simp
theorem ints_rep (n : Nat) : (List.replicate n (Value.int .i64 0)) = (List.replicate n (0 : Int)).map (Value.int .i64) := by simp
theorem fresh_row {w w1 : World} {n : Nat} (h : w1.ownsRow w.heap.size 3 1 (.slice (some ⟨w.heap.size, 0, none⟩) n n) n (madeCells #[Value.int .i64 0] n).toList) : OwnIn w1 w.heap.size (w.heap.size + 1) (some ⟨w.heap.size, 0, none⟩) n n (List.replicate n (0 : Int)) := by
  refine ⟨⟨by simp, ?_⟩, fun k hk => by cases hk; exact Nat.lt_succ_self _⟩
  have e : (madeCells #[Value.int .i64 0] n).toList = (List.replicate n (0 : Int)).map (Value.int .i64) := by
    rw [← ints_rep, toList_madeCells_one]
  rw [← e]; exact h
set_option maxRecDepth 100000 in
set_option maxHeartbeats 400000 in
theorem readMap_c (s : ByteArray) (w : World) (hs : s.size ≤ 1000000000000) :
    Calls Tryd.prog 35 #[.string s] w (RowBool w (rdI s) (mapOk (rdX s s.size))) := by
  have hlen : ¬ (1 ≤ s.size ∧ s.size ≤ 7) → mapOk (rdX s s.size) = false := fun h => mapOk_len (by rw [rdX_len]; exact h)
  by_cases hz : 1 ≤ s.size ∧ s.size ≤ 7
  · clear hlen
    obtain ⟨h1, h7⟩ := hz
    obtain ⟨i0, hi, hz0, hz1, hz2⟩ := info_parts int_info
    obtain ⟨r, hr⟩ : ∃ r, r = mapOk (rdX s s.size) := ⟨_, rfl⟩
    have HE : Hid (rdI s = if r then rdX s s.size else []) := Lib.hid (by rw [hr]; rfl)
    rw [← hr]
    have HR := Lib.hid hr
    clear hr
    go_enter Tryd.func35, Tryd.ntmps35
    go_wp2_with (at_make; refine wpList_make_full _ rfl _ _ 49 rfl w.heap.size 3 i0 (.int .i64 0) 1 Tryd.underlying49 hi hz0 hz1 _ _ _ _ s.size rfl rfl rfl rfl (by rw [hz2]; omega) (by unfold maxLen; omega) (Nat.le_refl _) ?_)
    intro w1 hown1 hg1
    have hB1 : Below w.heap.size w w1 := (Below.refl _ _).grown hg1 (Nat.le_refl _) (fun k hk => by cases hk)
    have ho1 := fresh_row hown1
    rw [← rdT_zero] at ho1
    clear hown1 hg1
    go_wp2_with fail
    go_loopw [19] (fun i wr => ∃ k : Nat, k ≤ s.size ∧ i = .int .i64 k ∧ OwnIn wr w.heap.size (w.heap.size + 1) (some ⟨w.heap.size, 0, none⟩) s.size s.size (rdT s k) ∧ Below w.heap.size w wr) (fun i _ => s.size - (intOf i).toNat)
    case atStart => exact ⟨0, Nat.zero_le _, rfl, ho1, hB1⟩
    case round =>
      obtain ⟨k, hk, rfl, ho, hbw⟩ := hrel
      clear ho1 hB1 w1
      by_cases hlt : k < s.size
      · have HT := Lib.hid (rdT_succ s hlt)
        have hb : (s.get! k).toNat < 256 := (s.get! k).toNat_lt
        have hw0 : wrap64 ((s.get! k).toNat : Int) = ((s.get! k).toNat : Int) := by simp [wrap64]; omega
        have hw1 : wrap64 (((s.get! k).toNat : Int) - 48) = ((s.get! k).toNat : Int) - 48 := by simp [wrap64]; omega
        have hidx : (Instr.index 9 (.string s) (.int .i64 (k : Int))).run Tryd.prog wr = .ok (.int .u8 ((s.get! k).toNat : Int)) wr := by
          rw [run_index_string _ _ _ _ _ Tryd.underlying9]
          rw [dif_pos ⟨by omega, by omega⟩]
          rw [byte_get hlt]
          rfl
        have hold := ho.cell (j := k) hlt
        have hfz := ho.frozen k
        have HST := Lib.hid (ho.store k (((s.get! k).toNat : Int) - 48))
        have HB := Lib.hid hbw
        clear ho hbw
        generalize ((s.get! k).toNat : Int) = y at *
        go_wp2_with fail
        go_roundw
        case rel => exact ⟨k + 1, by omega, by go_num, by have := HST.out.1; rwa [HT.out] at this, HB.out.trans (HST.out.2.below' (Nat.le_refl _) (by have := HB.out.size; omega))⟩
        case measure => simp [intOf]; omega
      · have hks : k = s.size := by omega
        rw [hks, rdT_all] at ho
        have hrd := ho.rd
        have K1 := mapOk_c _ _ _ _ _ hrd
        rw [← HR.out] at K1
        have HO := Lib.hid ho
        clear ho hks hrd
        rcases r with _ | _
        · go_wp2_with (go_at_call 49; with_reducible refine K1.mono ?_; rintro e w' ⟨rfl, rfl⟩)
          go_ret2
          rw [HE.out]
          exact ⟨_, _, _, rfl, OwnIn.nil_ _ _ _, hbw⟩
        · go_wp2_with (go_at_call 49; with_reducible refine K1.mono ?_; rintro e w' ⟨rfl, rfl⟩)
          go_ret2
          rw [HE.out]
          exact ⟨_, _, _, rfl, HO.out.wide (Nat.le_refl _) (by have := (HO.out.lt w.heap.size rfl).2.2; omega), hbw⟩
  · have HM := Lib.hid (hlen hz)
    have HE := Lib.hid (rd_no (hlen hz))
    have hcase : s.size < 1 ∨ (1 ≤ s.size ∧ 7 < s.size) := by omega
    clear hlen hz
    rcases hcase with h1 | ⟨h1, h2⟩
    all_goals
      go_enter Tryd.func35, Tryd.ntmps35
      go_wp2_with fail
      go_ret2
      rw [HE.out, HM.out]
      exact ⟨_, _, _, rfl, OwnIn.nil_ _ _ _, Below.refl _ _⟩
end Go.Proofs.YtnpjelekpkgbpaaDoor
namespace Go.Proofs.YtnpjelekpkgbpaaDoor
set_option linter.unusedVariables false
open Go.RowKit

theorem Row1N.from_ {xs : List Int} {w w1 w' : World} {e : Ending} (h : Row1N xs w1 e w') (hb : Below w.heap.size w w1) : Row1N xs w e w' := by
  obtain ⟨A, n, c, h1, h2, h3, h4⟩ := h
  exact ⟨A, n, c, h1, h2.wide hb.size (Nat.le_refl _), bt hb h3, h4⟩
theorem at_has {xs : List Int} {t : Int} (hm : mapOk xs = true) : atOk xs t = hasB xs.length t := by unfold atOk; rw [hm]; rfl
end Go.Proofs.YtnpjelekpkgbpaaDoor
