/- Bundle V10. -/
import Derived.Deep.RegionLaw
import Derived.Test.YtoinlkdmfclnbaaGreatDoorYV4
import Derived.Test.YtoinlkdmfclnbaaGreatDoorYV5
import Derived.Test.YtoinlkdmfclnbaaGreatDoorYV6
import Derived.Test.YtoinlkdmfclnbaaGreatDoorYV9
namespace Go.Proofs.YtoinlkdmfclnbaaGreatDoor
set_option linter.unusedVariables false
section
def emp (s : ByteArray) : Bool := decide (s.size = 0)
theorem emp_iff {s : ByteArray} : emp s = true ↔ s = ⟨#[]⟩ := by
 unfold emp
 rw [decide_eq_true_eq]
 constructor
 · intro h
   cases s with
   | mk d => have : d.size = 0 := h; rw [Array.size_eq_zero_iff] at this; rw [this]
 · intro h; rw [h]; rfl
theorem emp_not {s : ByteArray} : emp s = false ↔ ¬ s = ⟨#[]⟩ := by rw [← emp_iff]; simp
def ledX (xs : List Int) (a b : Int) : List Int := if hasB xs.length a && hasB xs.length b then xs.set a.toNat b else []
def bareB (kd a b : Int) (s : ByteArray) : Bool := (a == 0 || (kd == 0 || kd == 2)) && (b == 0 || kd == 0) && (emp s || (kd == 1 || kd == 3))
def chgI (xs : List Int) (kd a b : Int) (s : ByteArray) : List Int :=
 if kd = 0 then ledX xs a b else if kd = 1 then behI xs (rdI s) else if kd = 2 then powI xs a else if kd = 3 then namI xs (rdI s) else []
def madeI (xs : List Int) (kd a b : Int) (s : ByteArray) : List Int := if bareB kd a b s then chgI xs kd a b s else []
theorem made_bare {xs : List Int} {kd a b : Int} {s : ByteArray} (h : bareB kd a b s = true) : madeI xs kd a b s = chgI xs kd a b s := by unfold madeI; rw [h]; rfl
theorem made_not {xs : List Int} {kd a b : Int} {s : ByteArray} (h : bareB kd a b s = false) : madeI xs kd a b s = [] := by unfold madeI; rw [h]; rfl
theorem chg_0 (xs : List Int) (a b : Int) (s : ByteArray) : chgI xs 0 a b s = ledX xs a b := rfl
theorem chg_1 (xs : List Int) (a b : Int) (s : ByteArray) : chgI xs 1 a b s = behI xs (rdI s) := rfl
theorem chg_2 (xs : List Int) (a b : Int) (s : ByteArray) : chgI xs 2 a b s = powI xs a := rfl
theorem chg_3 (xs : List Int) (a b : Int) (s : ByteArray) : chgI xs 3 a b s = namI xs (rdI s) := rfl
theorem chg_o (xs : List Int) {kd : Int} (a b : Int) (s : ByteArray) (h0 : kd ≠ 0) (h1 : kd ≠ 1) (h2 : kd ≠ 2) (h3 : kd ≠ 3) : chgI xs kd a b s = [] := by
 unfold chgI; rw [if_neg h0, if_neg h1, if_neg h2, if_neg h3]
theorem rd_no {s : ByteArray} (h : mapOk (rdX s s.size) = false) : rdI s = [] := by unfold rdI; rw [h]; rfl
theorem mapOk_nil : mapOk [] = false := rfl
theorem ledX_map {f : List Nat} (hf : MapN f) {a b : Int} (h : (hasB f.length a && hasB f.length b) = true) : ledX (ints f) a b = ints (f.set a.toNat b.toNat) ∧ MapN (f.set a.toNat b.toNat) := by
 unfold ledX
 rw [ints_len, h, if_pos rfl]
 rw [Bool.and_eq_true, hasB_iff, hasB_iff] at h
 obtain ⟨⟨h1, h2⟩, h3, h4⟩ := h
 refine ⟨?_, by rw [List.length_set]; exact hf.pos, by rw [List.length_set]; exact hf.le7, fun k hk => ?_⟩
 · unfold ints
   rw [List.map_set, Int.toNat_of_nonneg h3]
 · rw [List.length_set] at hk ⊢
   unfold nx
   simp only [List.getD]
   rw [List.getElem?_set]
   split
   · rw [if_pos (by omega)]
     simp only [Option.getD_some]; omega
   · exact hf.has k hk
def backB (yss : List (List Int)) (kd a b : Int) (s : ByteArray) : Bool := decide (kd = 4) && decide (a = 0) && decide (b = 0) && emp s && decide (yss ≠ [])
def pastX (xs : List Int) (yss : List (List Int)) : List (List Int) := if yss.length < 8 then yss ++ [xs] else (yss ++ [xs]).drop 1
def stayB (xs : List Int) (kd a b : Int) (s : ByteArray) : Bool := decide (madeI xs kd a b s = []) || decide (madeI xs kd a b s = xs)
def doX (xs : List Int) (yss : List (List Int)) (kd a b : Int) (s : ByteArray) : List Int × List (List Int) × Bool :=
 if deskOkB xs yss then
  if backB yss kd a b s then (gR yss (yss.length - 1), yss.take (yss.length - 1), true)
  else if stayB xs kd a b s then (xs, yss, false)
  else (madeI xs kd a b s, pastX xs yss, true)
 else ([], [], false)
section
variable {xs : List Int} {yss : List (List Int)} {kd a b : Int} {s : ByteArray}
theorem do_no (h : deskOkB xs yss = false) : doX xs yss kd a b s = ([], [], false) := by unfold doX; rw [h]; rfl
theorem do_back (h : deskOkB xs yss = true) (hb : backB yss kd a b s = true) : doX xs yss kd a b s = (gR yss (yss.length - 1), yss.take (yss.length - 1), true) := by unfold doX; rw [h, hb]; rfl
theorem do_stay (h : deskOkB xs yss = true) (hb : backB yss kd a b s = false) (hs : stayB xs kd a b s = true) : doX xs yss kd a b s = (xs, yss, false) := by unfold doX; rw [h, hb, hs]; rfl
theorem do_go (h : deskOkB xs yss = true) (hb : backB yss kd a b s = false) (hs : stayB xs kd a b s = false) : doX xs yss kd a b s = (madeI xs kd a b s, pastX xs yss, true) := by unfold doX; rw [h, hb, hs]; rfl
theorem back_iff : backB yss kd a b s = true ↔ kd = 4 ∧ a = 0 ∧ b = 0 ∧ s = ⟨#[]⟩ ∧ yss ≠ [] := by
 unfold backB; simp only [Bool.and_eq_true, decide_eq_true_eq, emp_iff]; constructor <;> (intro h; simp_all)
theorem desk_parts (h : deskOkB xs yss = true) : mapOk xs = true ∧ yss.length ≤ 8 ∧ ∀ k, k < yss.length → mapOk (gR yss k) = true := by
 unfold deskOkB at h
 simp only [Bool.and_eq_true, decide_eq_true_eq] at h
 refine ⟨h.1.1, h.1.2, fun k hk => ?_⟩
 rw [gR_get hk]
 exact List.all_eq_true.1 h.2 _ (List.getElem_mem hk)
theorem bare_4 (h : kd = 4) : madeI xs kd a b s = [] := by
 subst h; unfold madeI; split
 · rfl
 · rfl
theorem stay_nil (h : madeI xs kd a b s = []) : stayB xs kd a b s = true := by unfold stayB; rw [decide_eq_true h]; rfl
theorem stay_same (h : madeI xs kd a b s = xs) : stayB xs kd a b s = true := by unfold stayB; rw [decide_eq_true h, Bool.or_true]
theorem stay_not (h : ¬ madeI xs kd a b s = []) (h' : ¬ madeI xs kd a b s = xs) : stayB xs kd a b s = false := by unfold stayB; rw [decide_eq_false h, decide_eq_false h']; rfl
end
def namK (f g : List Nat) : Nat → List Nat
 | 0 => List.replicate f.length 0
 | k + 1 => (namK f g k).set (nx g k) (nx g (nx f k))
theorem namK_len (f g : List Nat) : ∀ k, (namK f g k).length = f.length
 | 0 => by simp [namK]
 | k + 1 => by rw [namK, List.length_set, namK_len f g k]
theorem nx_namK {f g : List Nat} (hg : MapN g) (hl : f.length = g.length) (ht : turned g = true) : ∀ j, j ≤ f.length → ∀ i, i < j → nx (namK f g j) (nx g i) = nx g (nx f i)
 | 0, _, i, hi => by omega
 | j + 1, hj, i, hi => by
  have hx := hg.has i (by omega)
  rw [namK, nx_set (by rw [namK_len]; omega)]
  by_cases he : nx g j = nx g i
  · rw [if_pos he]
    have := turned_inj ht (by omega) (by omega) he
    rw [this]
  · rw [if_neg he]
    refine nx_namK hg hl ht j (by omega) i ?_
    rcases Nat.lt_or_ge i j with h | h
    · exact h
    · exfalso; apply he; rw [show i = j by omega]
theorem namK_all {f g : List Nat} (hg : MapN g) (hl : f.length = g.length) (ht : turned g = true) : namK f g f.length = behN (behN (backN g) f) g := by
 refine lists_eq (by rw [namK_len, behN_len, behN_len, back_len, hl]) (fun k hk => ?_)
 rw [namK_len] at hk
 obtain ⟨i, hi, rfl⟩ := turned_has hg ht (k := k) (by omega)
 rw [nx_namK hg hl ht _ (Nat.le_refl _) i (by omega), nx_behN (by rw [behN_len, back_len]; omega), nx_behN (by rw [back_len]; omega), nx_back hg ht hi]
end
section
def MapOf (n : Nat) (xs : List Int) : Prop := xs = [] ∨ (mapOk xs = true ∧ xs.length = n)
theorem mapOf_ints {f : List Nat} (hf : MapN f) : MapOf f.length (ints f) := .inr ⟨mapOk_ints hf, ints_len f⟩
theorem ledX_of {xs : List Int} (a b : Int) (hm : mapOk xs = true) : MapOf xs.length (ledX xs a b) := by
 obtain ⟨f, rfl, hf⟩ := mapOk_ex hm
 rcases hh : hasB f.length a && hasB f.length b with _ | _
 · left; unfold ledX; rw [ints_len, hh]; rfl
 · obtain ⟨e, hm⟩ := ledX_map hf hh
   rw [e, ints_len]
   have := mapOf_ints hm
   rw [List.length_set] at this
   exact this
theorem behI_of {xs ys : List Int} (hm : mapOk xs = true) : MapOf xs.length (behI xs ys) := by
 rcases hy : mapOk ys with _ | _
 · left; exact behI_no2 hy
 by_cases hl : xs.length = ys.length
 · obtain ⟨f, rfl, hf⟩ := mapOk_ex hm
   obtain ⟨g, rfl, hg⟩ := mapOk_ex hy
   rw [ints_len, ints_len] at hl
   rw [behI_ok hf hg hl, ints_len]
   have := mapOf_ints (behN_map hf hg hl)
   rw [behN_len] at this
   exact this
 · left; exact behI_no3 hl
theorem powI_of {xs : List Int} (t : Int) (hm : mapOk xs = true) : MapOf xs.length (powI xs t) := by
 rcases hi : inB t 0 1000000 with _ | _
 · left; exact powI_no2 hi
 · obtain ⟨f, rfl, hf⟩ := mapOk_ex hm
   rw [inB_iff] at hi
   obtain ⟨k, rfl⟩ := Int.eq_ofNat_of_zero_le hi.1
   rw [powI_ok hf (by omega), ints_len]
   have := mapOf_ints (powN_map hf k)
   rw [powN_len] at this
   exact this
theorem namI_of {xs ys : List Int} (hm : mapOk xs = true) : MapOf xs.length (namI xs ys) := by
 rcases hy : mapOk ys with _ | _
 · left; exact namI_no2 hy
 by_cases hl : xs.length = ys.length
 · obtain ⟨f, rfl, hf⟩ := mapOk_ex hm
   obtain ⟨g, rfl, hg⟩ := mapOk_ex hy
   rw [ints_len, ints_len] at hl
   rcases ht : turned g with _ | _
   · left; exact namI_no4 (by rw [toN_ints]; exact ht)
   rw [namI_ok hf hg hl ht, ints_len]
   have h1 : MapN (backN g) := back_map hg ht
   have hb : (backN g).length = f.length := by rw [back_len]; exact hl.symm
   have h2 := behN_map h1 hf hb
   have h3 := behN_map h2 hg (by rw [behN_len, back_len])
   have := mapOf_ints h3
   rw [behN_len, behN_len, hb] at this
   exact this
 · left; exact namI_no3 hl
theorem chgI_of {xs : List Int} (kd a b : Int) (s : ByteArray) (hm : mapOk xs = true) : MapOf xs.length (chgI xs kd a b s) := by
 unfold chgI
 split
 · exact ledX_of a b hm
 split
 · exact behI_of hm
 split
 · exact powI_of a hm
 split
 · exact namI_of hm
 · exact .inl rfl
theorem madeI_of {xs : List Int} (kd a b : Int) (s : ByteArray) (hm : mapOk xs = true) : MapOf xs.length (madeI xs kd a b s) := by
 unfold madeI
 split
 · exact chgI_of kd a b s hm
 · exact .inl rfl
theorem gR_app {xss yss : List (List Int)} {k : Nat} : gR (xss ++ yss) k = if k < xss.length then gR xss k else gR yss (k - xss.length) := by
 unfold gR; simp only [List.getD]
 split
 · rename_i h; rw [List.getElem?_append_left h]
 · rename_i h; rw [List.getElem?_append_right (by omega)]
theorem gR_dropN (xss : List (List Int)) (i j : Nat) : gR (xss.drop i) j = gR xss (i + j) := by
 unfold gR; simp only [List.getD, List.getElem?_drop]
theorem gR_takeN {xss : List (List Int)} {k j : Nat} (h : j < k) : gR (xss.take k) j = gR xss j := by
 unfold gR; simp only [List.getD]; rw [List.getElem?_take_of_lt h]
theorem doX_desk {xs : List Int} {yss : List (List Int)} (kd a b : Int) (s : ByteArray) (h : deskOkB xs yss = true) : deskOkB (doX xs yss kd a b s).1 (doX xs yss kd a b s).2.1 = true := by
 obtain ⟨h1, h2, h3⟩ := desk_parts h
 rcases hb : backB yss kd a b s with _ | _
 · rcases hs : stayB xs kd a b s with _ | _
   · rw [do_go h hb hs]
     have hm : mapOk (madeI xs kd a b s) = true := by
      rcases madeI_of kd a b s h1 with e | e
      · rw [stay_nil e] at hs; cases hs
      · exact e.1
     have hall : ∀ k, k < (yss ++ [xs]).length → mapOk (gR (yss ++ [xs]) k) = true := fun k hk => by
      rw [gR_app]
      split
      · exact h3 k (by assumption)
      · rw [List.length_append] at hk
        have : k - yss.length = 0 := by simp at hk; omega
        rw [this]; exact h1
     show deskOkB (madeI xs kd a b s) (pastX xs yss) = true
     unfold pastX
     split
     · exact desk_yes hm (by rw [List.length_append]; simp; omega) hall
     · refine desk_yes hm (by rw [List.length_drop, List.length_append]; simp; omega) (fun k hk => ?_)
       rw [gR_dropN]
       exact hall _ (by rw [List.length_drop] at hk; omega)
   · rw [do_stay h hb hs]; exact h
 · rw [do_back h hb]
   have hy := (back_iff.1 hb).2.2.2.2
   have hl : 0 < yss.length := by
    rcases Nat.eq_zero_or_pos yss.length with e | e
    · exact absurd (List.length_eq_zero_iff.1 e) hy
    · exact e
   refine desk_yes (h3 _ (by omega)) (by rw [List.length_take]; omega) (fun k hk => ?_)
   rw [List.length_take] at hk
   rw [gR_takeN (by omega)]
   exact h3 k (by omega)
end
section
open Go.RowKit
def Ors (w : World) (lo hi : Nat) (v : Value) (xss : List (List Int)) : Prop :=
 ∃ (vs : List Value) (gs : Nat → Nat), w.ownsRow lo 23 1 v xss.length vs ∧ (∀ k, v.ownBlock = some k → k < hi) ∧
  (∀ i j, i < j → j < xss.length → gs i ≠ gs j) ∧
  ∀ j, j < xss.length → lo ≤ gs j ∧ gs j < hi ∧ ∃ A n c, vs[j]? = some (.slice A n c) ∧ OwnIn w (gs j) (gs j + 1) A n c (gR xss j)
theorem Ors.nil_ (w : World) (lo hi : Nat) : Ors w lo hi (.slice none 0 0) [] :=
 ⟨[], fun _ => 0, World.ownsRow_nil _ _ _ _, (fun k hk => by cases hk), fun i j _ hj => absurd hj (Nat.not_lt_zero _), fun j hj => absurd hj (Nat.not_lt_zero _)⟩
theorem Ors.madeN (w : World) (lo hi cap : Nat) (cur : Array Value) (hl : lo ≤ w.heap.size) (hh : w.heap.size < hi) (hc : cap ≤ maxLen) (hs : cur.size = cap) : Ors (w.alloc (.cells cur 23)) lo hi (.slice (some ⟨w.heap.size, 0, none⟩) 0 cap) [] :=
 ⟨[], fun _ => 0, World.ownsRow_made w cur cap hl hc (by simpa using hs), (fun k hk => by cases hk; exact hh), fun i j _ hj => absurd hj (Nat.not_lt_zero _), fun j hj => absurd hj (Nat.not_lt_zero _)⟩
theorem ownsRow_keep {w w' : World} {lo hi k n : Nat} {e : TypeId} {v : Value} {vs : List Value} (h : w.ownsRow lo e k v n vs) (hh : ∀ g, v.ownBlock = some g → g < hi)
    (hk : ∀ g, lo ≤ g → g < hi → g < w.heap.size → w'.heap[g]? = w.heap[g]?) : w'.ownsRow lo e k v n vs := by
 refine ⟨h.1, h.2.elim .inl fun ⟨g, cap, cur, e', hg, hb, r⟩ => .inr ⟨g, cap, cur, e', hg, ?_, r⟩⟩
 rw [hk g hg (hh g (by rw [e']; rfl)) (Array.getElem?_eq_some_iff.1 hb).1]
 exact hb
section
variable {w w' : World} {lo hi lo' hi' : Nat} {v : Value} {xss : List (List Int)}
theorem Ors.keep (h : Ors w lo hi v xss) (hk : ∀ g, lo ≤ g → g < hi → g < w.heap.size → w'.heap[g]? = w.heap[g]?) : Ors w' lo hi v xss := by
 obtain ⟨vs, gs, hv, hb, hd, hr⟩ := h
 refine ⟨vs, gs, ownsRow_keep hv hb hk, hb, hd, fun j hj => ?_⟩
 obtain ⟨h1, h2, A, n, c, e, hO⟩ := hr j hj
 exact ⟨h1, h2, A, n, c, e, hO.keep fun k h3 h4 h5 => hk k (by omega) (by omega) h5⟩
theorem Ors.up (h : Ors w lo hi v xss) (hb : Below w.heap.size w w') : Ors w' lo hi v xss := h.keep fun k _ _ h3 => hb.block k h3
theorem Ors.chg (h : Ors w lo hi v xss) (hc : Chg lo' hi' w w') (hd : hi ≤ lo' ∨ hi' ≤ lo) : Ors w' lo hi v xss := h.keep fun k _ _ h3 => hc.block k h3 (by omega)
theorem Ors.dn (h : Ors w lo hi v xss) (m : Nat) : Ors (w.drewN m) lo hi v xss := h
theorem Ors.wide (h : Ors w lo hi v xss) (h1 : lo' ≤ lo) (h2 : hi ≤ hi') : Ors w lo' hi' v xss := by
 obtain ⟨vs, gs, hv, hb, hd, hr⟩ := h
 refine ⟨vs, gs, ⟨hv.1, hv.2.elim .inl fun ⟨g, cap, cur, e', hg, r⟩ => .inr ⟨g, cap, cur, e', by omega, r⟩⟩, fun k hk => by have := hb k hk; omega, hd, fun j hj => ?_⟩
 obtain ⟨h3, h4, r⟩ := hr j hj
 exact ⟨by omega, by omega, r⟩
theorem Ors.form (h : Ors w lo hi v xss) : ∃ A c, v = .slice A xss.length c ∧ RdR w w.heap.size A xss.length c xss := by
 obtain ⟨vs, gs, hv, hb, hd, hr⟩ := h
 rcases hv.2 with ⟨rfl, h0⟩ | ⟨g, cap, cur, rfl, hg, hh, h1, h2, h3, h4⟩
 · have : xss = [] := List.length_eq_zero_iff.1 h0
   subst this
   exact ⟨none, 0, rfl, RdR.nil_ _ _⟩
 · refine ⟨some ⟨g, 0, none⟩, cap, rfl, rfl, by first | exact h1 | omega, by first | exact h2 | omega, fun _ => ⟨g, 0, rfl, (Array.getElem?_eq_some_iff.1 hh).1, fun k hk => ?_⟩⟩
   obtain ⟨_, _, A, n, c, e, hO⟩ := hr k hk
   exact ⟨A, n, c, by rw [Nat.zero_add, hv.cellAt k (by omega)]; exact e, hO.rd⟩
end
theorem OwnIn.tight {w : World} {lo hi n c : Nat} {A : Option Addr} {xs : List Int} (h : OwnIn w lo hi A n c xs) (h0 : 0 < n) : ∃ g, lo ≤ g ∧ g < hi ∧ OwnIn w g (g + 1) A n c xs := by
 obtain ⟨g, rfl⟩ := h.some_ h0
 obtain ⟨h1, h2, h3⟩ := h.lt g rfl
 refine ⟨g, h1, h2, ⟨h.1.1, h.1.2.1, ?_⟩, fun k hk => by cases hk; exact Nat.lt_succ_self _⟩
 rcases h.1.2.2 with ⟨e, _⟩ | ⟨g', cap, cur, e, _, r⟩
 · cases e
 · cases e; exact .inr ⟨g, c, cur, rfl, Nat.le_refl _, r⟩
theorem gR_snoc_lt {xss : List (List Int)} {ys : List Int} {j : Nat} (h : j < xss.length) : gR (xss ++ [ys]) j = gR xss j := by
 unfold gR; simp only [List.getD]; rw [List.getElem?_append_left h]
theorem gR_snoc_at (xss : List (List Int)) (ys : List Int) : gR (xss ++ [ys]) xss.length = ys := by unfold gR; simp [List.getD]
theorem gR_set_ne {xss : List (List Int)} {ys : List Int} {i j : Nat} (h : i ≠ j) : gR (xss.set i ys) j = gR xss j := by
 unfold gR; simp only [List.getD]; rw [List.getElem?_set_ne h]
theorem gR_set_at {xss : List (List Int)} {ys : List Int} {i : Nat} (h : i < xss.length) : gR (xss.set i ys) i = ys := by
 unfold gR; simp only [List.getD]; rw [List.getElem?_set_self h]; rfl
theorem wp_app_rs {o : Oper} {a : Act} {K : Act → World → Prop} {Q : Exit → Act → World → Prop} (w : World) (s x : Operand)
    (ho : o.op = .call { callee := .builtin .append, args := #[s, x], argTypes := #[24, 24] })
    (lo hi mid top : Nat) (v : Value) (xss : List (List Int)) (hs : a.eval s = v) (hown : Ors w lo hi v xss) (N : Nat) (hx : a.eval x = .slice (some ⟨N, 0, none⟩) 1 1)
    (A : Option Addr) (n c : Nat) (hcell : w.cell? ⟨N, 0, none⟩ = some (.slice A n c)) (ys : List Int) (hy : OwnIn w mid top A n c ys) (h0 : 0 < n)
    (hm1 : hi ≤ mid) (hm2 : lo ≤ mid) (htop : top ≤ w.heap.size) (hlen : xss.length ≤ 1000000000) (hB : lo ≤ w.heap.size) (hH : hi ≤ w.heap.size)
    (h : ∀ v' w', Ors w' lo w'.heap.size v' (xss ++ [ys]) → Below lo w w' → w.heap.size ≤ w'.heap.size → K (a.put o.dst v') w') : o.wp Tryz.prog a w K Q := by
 obtain ⟨i0, hi0, hz0, hz1, hz2⟩ := info_parts row_info
 obtain ⟨vs, gs, hv, hb, hd, hr⟩ := hown
 obtain ⟨gy, hy1, hy2, hy3⟩ := hy.tight h0
 refine wp_append_own (P := Tryz.prog) w s x 24 ho lo 23 i0 (.slice none 0 0) 1 24 Tryz.underlying24 hi0 hz0 hz1 hz2 rfl (by decide) v xss.length vs hs hv ⟨N, 0, none⟩ 1 1 [.slice A n c] hx rfl ?_ (by simp [Value.oneCell']) (by unfold maxLen; omega) (by omega) hB ?_
 · intro j u hj
   match j, hj with
   | 0, hj => simp at hj; subst hj; exact hcell
   | j + 1, hj => simp at hj
 intro v' w' hown' hg _
 have hvl : vs.length = xss.length := by have := hv.1; omega
 have hsz : w.heap.size ≤ w'.heap.size := hg.size
 refine h v' w' ⟨vs ++ [.slice A n c], fun j => if j = xss.length then gy else gs j, by rw [List.length_append]; exact hown', fun k hk => (hown'.lt k hk).2, ?_, fun j hj => ?_⟩ ?_ hsz
 · intro i j hij hj
   rw [List.length_append, List.length_singleton] at hj
   show (if i = xss.length then gy else gs i) ≠ (if j = xss.length then gy else gs j)
   rw [if_neg (by omega)]
   by_cases he : j = xss.length
   · rw [if_pos he]
     have := (hr i (by omega)).2.1
     omega
   · rw [if_neg he]; exact hd i j hij (by omega)
 · show lo ≤ (if j = xss.length then gy else gs j) ∧ (if j = xss.length then gy else gs j) < w'.heap.size ∧ ∃ A1 n1 c1, (vs ++ [Value.slice A n c])[j]? = some (Value.slice A1 n1 c1) ∧ OwnIn w' (if j = xss.length then gy else gs j) ((if j = xss.length then gy else gs j) + 1) A1 n1 c1 (gR (xss ++ [ys]) j)
   rcases Nat.lt_or_ge j xss.length with h1 | h1
   · obtain ⟨h3, h4, A1, n1, c1, e, hO⟩ := hr j h1
     rw [if_neg (by omega), gR_snoc_lt h1]
     refine ⟨h3, by omega, A1, n1, c1, by rw [List.getElem?_append_left (by omega)]; exact e, ?_⟩
     exact hO.grown hg (fun g hgg => ne_outer hv hO g hgg)
   · have hj' : j = xss.length := by rw [List.length_append] at hj; simp at hj; omega
     subst hj'
     rw [if_pos rfl, gR_snoc_at]
     refine ⟨by omega, by omega, A, n, c, by rw [← hvl]; simp, ?_⟩
     exact hy3.grown hg (fun g hgg => ne_outer hv hy3 g hgg)
 · exact (Below.refl lo w).grown hg hB (fun k hk => (hv.lt k hk).1)
theorem app_rs {ops : Array Oper} {rest : List Oper} {o : Oper} {a : Act} {Q : Exit → Act → World → Prop} (w : World) (hgd : o.guard = none) (s x : Operand)
    (ho : o.op = .call { callee := .builtin .append, args := #[s, x], argTypes := #[24, 24] })
    (lo hi mid top : Nat) (v : Value) (xss : List (List Int)) (hs : a.eval s = v) (hown : Ors w lo hi v xss) (N : Nat) (hx : a.eval x = .slice (some ⟨N, 0, none⟩) 1 1)
    (A : Option Addr) (n c : Nat) (hcell : w.cell? ⟨N, 0, none⟩ = some (.slice A n c)) (ys : List Int) (hy : OwnIn w mid top A n c ys) (h0 : 0 < n)
    (hm1 : hi ≤ mid) (hm2 : lo ≤ mid) (htop : top ≤ w.heap.size) (hlen : xss.length ≤ 1000000000) (hB : lo ≤ w.heap.size) (hH : hi ≤ w.heap.size)
    (h : ∀ v' w', Ors w' lo w'.heap.size v' (xss ++ [ys]) → Below lo w w' → w.heap.size ≤ w'.heap.size → wpList Tryz.prog ops Q rest (a.put o.dst v') w') : wpList Tryz.prog ops Q (o :: rest) a w :=
 wpList_plain hgd fun _ hK => wp_app_rs w s x ho lo hi mid top v xss hs hown N hx A n c hcell ys hy h0 hm1 hm2 htop hlen hB hH fun v' w' h2 h3 h4 => hK _ _ (h v' w' h2 h3 h4)
theorem step_app_rs {ops : Array Oper} {o : Oper} {a : Act} {K : Act → World → Prop} {Q : Exit → Act → World → Prop} {E : Prop} (w : World) (hgd : o.guard = none) (s x : Operand)
    (ho : o.op = .call { callee := .builtin .append, args := #[s, x], argTypes := #[24, 24] })
    (lo hi mid top : Nat) (v : Value) (xss : List (List Int)) (hs : a.eval s = v) (hown : Ors w lo hi v xss) (N : Nat) (hx : a.eval x = .slice (some ⟨N, 0, none⟩) 1 1)
    (A : Option Addr) (n c : Nat) (hcell : w.cell? ⟨N, 0, none⟩ = some (.slice A n c)) (ys : List Int) (hy : OwnIn w mid top A n c ys) (h0 : 0 < n)
    (hm1 : hi ≤ mid) (hm2 : lo ≤ mid) (htop : top ≤ w.heap.size) (hlen : xss.length ≤ 1000000000) (hB : lo ≤ w.heap.size) (hH : hi ≤ w.heap.size)
    (h : ∀ v' w', Ors w' lo w'.heap.size v' (xss ++ [ys]) → Below lo w w' → w.heap.size ≤ w'.heap.size → K (a.put o.dst v') w') :
    if Region.wanted o (yielded ops a.tmps) = true then Oper.wp Tryz.prog o a w K Q else E := by
 have hw : Region.wanted o (yielded ops a.tmps) = true := by simp [Region.wanted, hgd]
 rw [if_pos hw]
 exact wp_app_rs w s x ho lo hi mid top v xss hs hown N hx A n c hcell ys hy h0 hm1 hm2 htop hlen hB hH h
theorem step_app_row {ops : Array Oper} {o : Oper} {a : Act} {K : Act → World → Prop} {Q : Exit → Act → World → Prop} {E : Prop} (w : World) (hgd : o.guard = none) (s x : Operand)
    (ho : o.op = .call { callee := .builtin .append, args := #[s, x], argTypes := #[23, 23] })
    (B : Nat) (v : Value) (hs : a.eval s = v) (hown : OwnV w B v []) (A : Option Addr) (n c : Nat) (xs : List Int) (hx : a.eval x = .slice A n c) (hr : Rd w w.heap.size A n c xs) (h0 : 0 < n)
    (hlen : n ≤ 1000000000000) (hB : B ≤ w.heap.size)
    (h : ∀ v' w', OwnV w' B v' xs → Below B w w' → K (a.put o.dst v') w') :
    if Region.wanted o (yielded ops a.tmps) = true then Oper.wp Tryz.prog o a w K Q else E := by
 have hw : Region.wanted o (yielded ops a.tmps) = true := by simp [Region.wanted, hgd]
 rw [if_pos hw]
 obtain ⟨i0, hi, hz0, hz1, hz2⟩ := info_parts int_info
 obtain ⟨b, off, rfl, hb, hcell⟩ := hr.2.2.2 h0
 have hl := hr.len
 refine wp_append_own (P := Tryz.prog) w s x 23 ho B 3 i0 (.int .i64 0) 1 8 Tryz.underlying23 hi hz0 hz1 hz2 rfl (by decide) v 0 [] hs (by simpa [OwnV] using hown) ⟨b, off, none⟩ n c (xs.map (Value.int .i64)) hx (by simp [hl]) (fun j u hj => ?_) (by simp [Value.oneCell']) (by unfold maxLen; omega) (by omega) (by simpa using hB) ?_
 · have hjn : j < n := by
    rcases Nat.lt_or_ge j (xs.map (Value.int .i64)).length with h' | h'
    · rw [List.length_map, hl] at h'; exact h'
    · rw [List.getElem?_eq_none h'] at hj; cases hj
   rw [Addr.add_lit, hcell j hjn]
   rw [List.getElem?_map, List.getElem?_eq_getElem (by omega)] at hj
   simp only [Option.map_some, Option.some.injEq] at hj
   rw [← hj, gI_get (by omega)]
 · intro v' w' hown' hg _
   refine h v' w' ?_ ((Below.refl B w).grown hg hB (fun k hk => (World.ownsRow.lt hown k hk).1))
   unfold OwnV
   rw [hl]
   simpa using hown'
theorem Ors.at_ {w : World} {lo hi : Nat} {P : Option Addr} {m d : Nat} {xss : List (List Int)} (h : Ors w lo hi (.slice P m d) xss) {j : Nat} (hj : j < xss.length) :
    ∃ b A n c glo ghi, P = some ⟨b, 0, none⟩ ∧ lo ≤ b ∧ b < hi ∧ b < w.heap.size ∧ w.cell? ⟨b, j, none⟩ = some (.slice A n c) ∧ lo ≤ glo ∧ ghi ≤ hi ∧ OwnIn w glo ghi A n c (gR xss j) ∧
     ∀ w' ys, Chg glo ghi w w' → OwnIn w' glo ghi A n c ys → Ors w' lo hi (.slice P m d) (xss.set j ys) := by
 obtain ⟨vs, gs, hv, hb, hd, hr⟩ := h
 have hvl : vs.length = xss.length := by have := hv.1; omega
 obtain ⟨h1, h2, A, n, c, e, hO⟩ := hr j hj
 rcases id hv.2 with ⟨hP, h0⟩ | ⟨b, cap, cur, hP, hg, hh, h5, h6, h7, h8⟩
 · omega
 cases hP
 have hbl := (Array.getElem?_eq_some_iff.1 hh).1
 have hcell : w.cell? ⟨b, j, none⟩ = some (.slice A n c) := by rw [hv.cellAt j (by omega)]; exact e
 have key : ∀ glo ghi w' ys, Chg glo ghi w w' → (∀ k, (Value.slice A n c).ownBlock = some k → k = gs j) → (glo = ghi ∨ (glo = gs j ∧ ghi = gs j + 1 ∧ b ≠ gs j)) → OwnIn w' (gs j) (gs j + 1) A n c ys → Ors w' lo hi (.slice (some ⟨b, 0, none⟩) xss.length d) (xss.set j ys) := by
  intro glo ghi w' ys hc hk hcase hy
  refine ⟨vs, gs, ⟨by rw [List.length_set]; exact hv.1, ?_⟩, hb, fun i k hik hk => hd i k hik (by rw [List.length_set] at hk; exact hk), fun k hk => ?_⟩
  · refine .inr ⟨b, d, cur, by rw [List.length_set], hg, ?_, by rw [List.length_set]; exact ⟨h5, h6, h7, h8⟩⟩
    rw [hc.block b hbl (by omega)]; exact hh
  · rw [List.length_set] at hk
    obtain ⟨h3, h4, A1, n1, c1, e1, hO1⟩ := hr k hk
    by_cases hkj : k = j
    · subst hkj
      rw [e] at e1
      cases e1
      exact ⟨h3, h4, _, _, _, e, by rw [gR_set_at hj]; exact hy⟩
    · refine ⟨h3, h4, A1, n1, c1, e1, ?_⟩
      rw [gR_set_ne (by omega)]
      have : gs k ≠ gs j := by
       rcases Nat.lt_or_gt_of_ne hkj with h' | h'
       · exact hd k j h' hj
       · exact fun e => hd j k h' hk e.symm
      exact hO1.keep fun q h9 h10 h11 => hc.block q h11 (by omega)
 rcases id hO.1.2.2 with ⟨e0, hn0⟩ | ⟨g0, cap0, cur0, e0, hg0, r⟩
 · cases e0
   refine ⟨b, none, 0, 0, lo, lo, rfl, hg, hb b rfl, hbl, hcell, Nat.le_refl _, by have := hb b rfl; omega, ⟨⟨hO.1.1, hO.1.2.1, .inl ⟨rfl, rfl⟩⟩, fun k hk => by cases hk⟩, fun w' ys hc hy => ?_⟩
   exact key lo lo w' ys hc (fun k hk => by cases hk) (.inl rfl) ⟨⟨hy.1.1, hy.1.2.1, .inl ⟨rfl, rfl⟩⟩, fun k hk => by cases hk⟩
 · cases e0
   have hg1 := hO.lt g0 rfl
   obtain rfl : g0 = gs j := by omega
   have hne : b ≠ gs j := by
    have := ne_outer hv hO b rfl
    intro e'
    apply this
    show some (gs j) = some b
    rw [e']
   refine ⟨b, _, n, c, gs j, gs j + 1, rfl, hg, hb b rfl, hbl, hcell, h1, h2, hO, fun w' ys hc hy => ?_⟩
   exact key _ _ w' ys hc (fun k hk => by cases hk; rfl) (.inr ⟨rfl, rfl, hne⟩) hy
def OwnD (w : World) (lo hi : Nat) (A : Option Addr) (n c : Nat) (xs : List Int) (P : Option Addr) (m d : Nat) (yss : List (List Int)) : Prop :=
 ∃ mid, lo ≤ mid ∧ mid ≤ hi ∧ OwnIn w lo mid A n c xs ∧ Ors w mid hi (.slice P m d) yss
section
variable {w w' : World} {lo hi lo' hi' n c m d : Nat} {A P : Option Addr} {xs : List Int} {yss : List (List Int)}
theorem OwnD.rd (h : OwnD w lo hi A n c xs P m d yss) : RdD w w.heap.size A n c xs P m d yss := by
 obtain ⟨mid, h1, h2, hO, hR⟩ := h
 obtain ⟨A', c', e, hr⟩ := hR.form
 cases e
 exact ⟨hO.rd, hr⟩
theorem OwnD.up (h : OwnD w lo hi A n c xs P m d yss) (hb : Below w.heap.size w w') : OwnD w' lo hi A n c xs P m d yss := by
 obtain ⟨mid, h1, h2, hO, hR⟩ := h
 exact ⟨mid, h1, h2, hO.up hb, hR.up hb⟩
theorem OwnD.chg (h : OwnD w lo hi A n c xs P m d yss) (hc : Chg lo' hi' w w') (hd : hi ≤ lo' ∨ hi' ≤ lo) : OwnD w' lo hi A n c xs P m d yss := by
 obtain ⟨mid, h1, h2, hO, hR⟩ := h
 exact ⟨mid, h1, h2, hO.chg hc (by omega), hR.chg hc (by omega)⟩
theorem OwnD.dn (h : OwnD w lo hi A n c xs P m d yss) (k : Nat) : OwnD (w.drewN k) lo hi A n c xs P m d yss := h
theorem OwnD.wide (h : OwnD w lo hi A n c xs P m d yss) (h1 : lo' ≤ lo) (h2 : hi ≤ hi') : OwnD w lo' hi' A n c xs P m d yss := by
 obtain ⟨mid, h3, h4, hO, hR⟩ := h
 exact ⟨mid, by omega, by omega, hO.wide h1 (Nat.le_refl _), hR.wide (Nat.le_refl _) h2⟩
theorem OwnD.zero_ (w : World) (lo hi : Nat) (h : lo ≤ hi) : OwnD w lo hi none 0 0 [] none 0 0 [] :=
 ⟨lo, Nat.le_refl _, h, OwnIn.nil_ _ _ _, Ors.nil_ _ _ _⟩
theorem OwnD.lens (h : OwnD w lo hi A n c xs P m d yss) : xs.length = n ∧ yss.length = m := ⟨h.rd.1.len, h.rd.2.len⟩
end
theorem Ors.rr {w : World} {lo hi B : Nat} {v : Value} {xss : List (List Int)} (h : Ors w lo hi v xss) (hB : B ≤ lo) (hh : hi ≤ w.heap.size) : OwnRR w B v xss := by
 obtain ⟨vs, gs, hv, hb, hd, hr⟩ := h.wide (lo' := B) hB (Nat.le_refl _)
 refine ⟨vs, hv, fun j hj => ?_⟩
 obtain ⟨h1, h2, A, n, c, e, hO⟩ := hr j hj
 exact ⟨A, n, c, e, hO.wide h1 (by omega)⟩
end
section
open Go.RowKit
def Four (w : World) (g : Nat) (kd a b : Int) (s : ByteArray) : Prop :=
 g < w.heap.size ∧ w.cell? ⟨g, 0, none⟩ = some (.int .i64 kd) ∧ w.cell? ⟨g, 1, none⟩ = some (.int .i64 a) ∧ w.cell? ⟨g, 2, none⟩ = some (.int .i64 b) ∧ w.cell? ⟨g, 3, none⟩ = some (.string s)
section
variable {w w' : World} {g B lo hi : Nat} {kd a b : Int} {s : ByteArray}
theorem Four.made (w : World) (T : TypeId) (kd a b : Int) (s : ByteArray) : Four (w.alloc (.cells #[.int .i64 kd, .int .i64 a, .int .i64 b, .string s] T)) w.heap.size kd a b s :=
 ⟨by simp, (World.cell?_alloc_at _ _ _ _ rfl).trans rfl, (World.cell?_alloc_at _ _ _ _ rfl).trans rfl, (World.cell?_alloc_at _ _ _ _ rfl).trans rfl, (World.cell?_alloc_at _ _ _ _ rfl).trans rfl⟩
theorem Four.below (h : Four w g kd a b s) (hb : Below B w w') (hg : g < B) : Four w' g kd a b s :=
 ⟨Nat.lt_of_lt_of_le h.1 hb.size, (hb.cell (p := ⟨g, 0, none⟩) hg).trans h.2.1, (hb.cell (p := ⟨g, 1, none⟩) hg).trans h.2.2.1, (hb.cell (p := ⟨g, 2, none⟩) hg).trans h.2.2.2.1, (hb.cell (p := ⟨g, 3, none⟩) hg).trans h.2.2.2.2⟩
theorem Four.up (h : Four w g kd a b s) (hb : Below w.heap.size w w') : Four w' g kd a b s := h.below hb h.1
theorem Four.chg (h : Four w g kd a b s) (hc : Chg lo hi w w') (hd : g < lo ∨ hi ≤ g) : Four w' g kd a b s :=
 have e := hc.block g h.1 hd
 ⟨Nat.lt_of_lt_of_le h.1 hc.size, (World.cell?_of_block (w := w) (a := ⟨g, 0, none⟩) e).trans h.2.1, (World.cell?_of_block (w := w) (a := ⟨g, 1, none⟩) e).trans h.2.2.1, (World.cell?_of_block (w := w) (a := ⟨g, 2, none⟩) e).trans h.2.2.2.1, (World.cell?_of_block (w := w) (a := ⟨g, 3, none⟩) e).trans h.2.2.2.2⟩
end
theorem eqz {a : Int} (h : a = 0) : (a == 0) = true := by rw [h]; rfl
theorem neqz {a : Int} (h : ¬ a = 0) : (a == 0) = false := by simpa using h
theorem strE {s : ByteArray} (h : s = ⟨#[]⟩) : s.toList = [] := by rw [h, ByteArray.toList_eq]
theorem strN {s : ByteArray} (h : ¬ s = ⟨#[]⟩) : ¬ s.toList = [] := by
 rw [ByteArray.toList_eq]
 intro e
 apply h
 cases s with
 | mk d => have : d = #[] := Array.toList_eq_nil_iff.1 e; rw [this]
theorem strB {s : ByteArray} (h : ¬ s = ⟨#[]⟩) : s.toList.isEmpty = false := by
 rcases e : s.toList.isEmpty with _ | _
 · rfl
 · exact absurd (List.isEmpty_iff.1 e) (strN h)
set_option maxRecDepth 100000 in
set_option maxHeartbeats 300000 in
theorem made_0n (A : Option Addr) (n c : Nat) (xs : List Int) (a b : Int) (s : ByteArray) (w : World) (h : Rd w w.heap.size A n c xs) (hs : s.size ≤ 1000000000000) (h7 : n ≤ 7) (hno : (¬ s = ⟨#[]⟩) ∨ (s = ⟨#[]⟩ ∧ inB a 0 ((n : Int) - 1) = false) ∨ (s = ⟨#[]⟩ ∧ inB a 0 ((n : Int) - 1) = true ∧ inB b 0 ((n : Int) - 1) = false)) :
    Calls Tryz.prog 119 #[.slice A n c, .agg #[.int .i64 0, .int .i64 a, .int .i64 b, .string s]] w (Row1 [] w) := by
 have hb1 : Below w.heap.size w (w.alloc (.cells #[.int .i64 0, .int .i64 a, .int .i64 b, .string s] 55)) := (Below.refl _ _).alloc (Nat.le_refl _) _
 have hF := Four.made w 55 0 a b s
 have hrd := h.up hb1
 have K1 := sReadMap_c s (w.alloc (.cells #[.int .i64 0, .int .i64 a, .int .i64 b, .string s] 55)) hs
 generalize mapOk (rdX s s.size) = ok at K1
 rcases hno with hs0 | ⟨hs0, hi⟩ | ⟨hs0, hi, hj⟩
 all_goals
  first
   | (have q1 := strN hs0; have q2 := strB hs0; clear hs0)
   | (have q1 := strE hs0; clear hs0)
  go_enter Tryz.func119, Tryz.ntmps119
  go_wp2_with fail
  generalize w.alloc (.cells #[.int .i64 0, .int .i64 a, .int .i64 b, .string s] 55) = w1 at *
  refine K1.mono ?_
  rintro e w2 ⟨A1, n1, c1, rfl, hO1, hb2⟩
  have hF2 := hF.up hb2
  obtain ⟨_, k0, k1, k2, k3⟩ := hF2
  have hr2 := hrd.up hb2
  have hB := bt hb1 hb2
  clear K1 hF hrd hb1 hb2
  have hB2 : Below w.heap.size w (w2.alloc (Obj.cells #[] 3)) := hB.alloc hB.size _
  have hO2 := OwnV.made w2 w.heap.size #[] hB.size rfl
  have KA := l1In_c a 0 ((n : Int) - 1) w2
  have KB := l1In_c b 0 ((n : Int) - 1) w2
  first
   | rw [hi] at KA
   | skip
  first
   | rw [hj] at KB
   | skip
  go_wp2_with (first | (go_at_call 129; with_reducible refine KA.mono ?_; rintro e w' ⟨rfl, rfl⟩) | (go_at_call 129; with_reducible refine KB.mono ?_; rintro e w' ⟨rfl, rfl⟩))
  go_ret
  exact hO2.row hB2
set_option maxRecDepth 100000 in
set_option maxHeartbeats 300000 in
theorem made_0y (A : Option Addr) (n c : Nat) (xs : List Int) (i j : Nat) (s : ByteArray) (w : World) (h : Rd w w.heap.size A n c xs) (hs : s.size ≤ 1000000000000) (h7 : n ≤ 7) (hs0 : s = ⟨#[]⟩) (hi : i < n) (hj : j < n) :
    Calls Tryz.prog 119 #[.slice A n c, .agg #[.int .i64 0, .int .i64 (i : Int), .int .i64 (j : Int), .string s]] w (Row1 (ledX xs (i : Int) (j : Int)) w) := by
 have hb1 : Below w.heap.size w (w.alloc (.cells #[.int .i64 0, .int .i64 (i : Int), .int .i64 (j : Int), .string s] 55)) := (Below.refl _ _).alloc (Nat.le_refl _) _
 have hF := Four.made w 55 0 (i : Int) (j : Int) s
 have hrd := h.up hb1
 have K1 := sReadMap_c s (w.alloc (.cells #[.int .i64 0, .int .i64 (i : Int), .int .i64 (j : Int), .string s] 55)) hs
 generalize mapOk (rdX s s.size) = ok at K1
 have hln := h.len
 have q2 : inB (i : Int) 0 ((n : Int) - 1) = true := by rw [inB_iff]; omega
 have q3 : inB (j : Int) 0 ((n : Int) - 1) = true := by rw [inB_iff]; omega
 have HV : Hid (ledX xs (i : Int) (j : Int) = xs.set i (j : Int)) := Lib.hid (by unfold ledX; rw [hln, hasB_iff.2 (by omega), hasB_iff.2 (by omega)]; rfl)
 have q1 := strE hs0
 clear hs0
 go_enter Tryz.func119, Tryz.ntmps119
 go_wp2_with fail
 generalize w.alloc (.cells #[.int .i64 0, .int .i64 (i : Int), .int .i64 (j : Int), .string s] 55) = w1 at *
 refine K1.mono ?_
 rintro e w2 ⟨A1, n1, c1, rfl, hO1, hb2⟩
 have hF2 := hF.up hb2
 obtain ⟨_, k0, k1, k2, k3⟩ := hF2
 have hr2 := hrd.up hb2
 have hB := bt hb1 hb2
 clear K1 hF hrd hb1 hb2
 have hF2a : w.heap.size < w2.heap.size := by assumption
 have KA := l1In_c (i : Int) 0 ((n : Int) - 1) w2
 rw [q2] at KA
 have KB := l1In_c (j : Int) 0 ((n : Int) - 1) w2
 rw [q3] at KB
 clear q2 q3
 have hb3 : Below w2.heap.size w2 (w2.alloc (Obj.cells #[] 3)) := (Below.refl _ _).alloc (Nat.le_refl _) _
 have hO3 := OwnV.made w2 w2.heap.size #[] (Nat.le_refl _) rfl
 have hr3 := hr2.up hb3
 have hz3 := hb3.size
 go_wp2_with (first
  | (go_at_call 129; with_reducible refine KA.mono ?_; rintro e w' ⟨rfl, rfl⟩) | (go_at_call 129; with_reducible refine KB.mono ?_; rintro e w' ⟨rfl, rfl⟩)
  | (at_builtin; refine app_row (w2.alloc (Obj.cells #[] 3)) rfl _ _ rfl w2.heap.size _ rfl hO3 A n c xs rfl hr3 (by omega) (by omega) hz3 ?_; intro v' w4 hown hb4; obtain ⟨A4, c4, rfl, hI4⟩ := hown.slice_; rw [hln] at hI4 ⊢; obtain ⟨g4, rfl⟩ := hI4.some_ (by omega); have hold := hI4.cell (j := i) hi; have hfz := hI4.frozen i; have HF4 := (Four.below (B := w2.heap.size) ⟨hF2a, k0, k1, k2, k3⟩ (hb3.trans hb4) hF2a); obtain ⟨_, p0, p1, p2, p3⟩ := HF4))
 go_ret
 have hST := hI4.store i (j : Int)
 have hbb := hb3.trans hb4
 have hz4 := hbb.size
 have hz0 := hB.size
 exact ⟨_, _, _, rfl, (by rw [HV.out]; exact hST.1.wide hz0 hST.2.size), (hB.trans (hbb.mono hz0)).trans (hST.2.belowLo (by omega) (by omega))⟩
set_option maxRecDepth 100000 in
set_option maxHeartbeats 300000 in
theorem made_1n (A : Option Addr) (n c : Nat) (xs : List Int) (a b : Int) (s : ByteArray) (w : World) (h : Rd w w.heap.size A n c xs) (hs : s.size ≤ 1000000000000) (h7 : n ≤ 7) (hno : mapOk (rdX s s.size) = false ∨ (mapOk (rdX s s.size) = true ∧ ¬ a = 0) ∨ (mapOk (rdX s s.size) = true ∧ a = 0 ∧ ¬ b = 0)) :
    Calls Tryz.prog 119 #[.slice A n c, .agg #[.int .i64 1, .int .i64 a, .int .i64 b, .string s]] w (Row1 [] w) := by
 have hb1 : Below w.heap.size w (w.alloc (.cells #[.int .i64 1, .int .i64 a, .int .i64 b, .string s] 55)) := (Below.refl _ _).alloc (Nat.le_refl _) _
 have hF := Four.made w 55 1 a b s
 have hrd := h.up hb1
 rcases hno with hok | ⟨hok, ha⟩ | ⟨hok, ha, hb⟩
 all_goals
  have K1 := sReadMap_c s (w.alloc (.cells #[.int .i64 1, .int .i64 a, .int .i64 b, .string s] 55)) hs
  rw [hok] at K1
  clear hok
  first
   | (have q1 := neqz ha; clear ha)
   | (have q2 := neqz hb; have q1 := eqz ha; clear ha hb)
   | skip
  go_enter Tryz.func119, Tryz.ntmps119
  go_wp2_with fail
  generalize w.alloc (.cells #[.int .i64 1, .int .i64 a, .int .i64 b, .string s] 55) = w1 at *
  refine K1.mono ?_
  rintro e w2 ⟨A1, n1, c1, rfl, hO1, hb2⟩
  have hF2 := hF.up hb2
  obtain ⟨_, k0, k1, k2, k3⟩ := hF2
  have hr2 := hrd.up hb2
  have hB := bt hb1 hb2
  clear K1 hF hrd hb1 hb2
  have hB2 : Below w.heap.size w (w2.alloc (Obj.cells #[] 3)) := hB.alloc hB.size _
  have hO2 := OwnV.made w2 w.heap.size #[] hB.size rfl
  go_wp2_with fail
  go_ret
  exact hO2.row hB2
set_option maxRecDepth 100000 in
set_option maxHeartbeats 300000 in
theorem made_1y (A : Option Addr) (n c : Nat) (xs : List Int) (a b : Int) (s : ByteArray) (w : World) (h : Rd w w.heap.size A n c xs) (hs : s.size ≤ 1000000000000) (h7 : n ≤ 7) (hok : mapOk (rdX s s.size) = true) (ha : a = 0) (hb : b = 0) :
    Calls Tryz.prog 119 #[.slice A n c, .agg #[.int .i64 1, .int .i64 a, .int .i64 b, .string s]] w (Row1 (behI xs (rdI s)) w) := by
 have hb1 : Below w.heap.size w (w.alloc (.cells #[.int .i64 1, .int .i64 a, .int .i64 b, .string s] 55)) := (Below.refl _ _).alloc (Nat.le_refl _) _
 have hF := Four.made w 55 1 a b s
 have hrd := h.up hb1
 have K1 := sReadMap_c s (w.alloc (.cells #[.int .i64 1, .int .i64 a, .int .i64 b, .string s] 55)) hs
 rw [hok] at K1
 clear hok
 have q1 := eqz ha
 have q2 := eqz hb
 clear ha hb
 go_enter Tryz.func119, Tryz.ntmps119
 go_wp2_with fail
 generalize w.alloc (.cells #[.int .i64 1, .int .i64 a, .int .i64 b, .string s] 55) = w1 at *
 refine K1.mono ?_
 rintro e w2 ⟨A1, n1, c1, rfl, hO1, hb2⟩
 have hF2 := hF.up hb2
 obtain ⟨_, k0, k1, k2, k3⟩ := hF2
 have hr2 := hrd.up hb2
 have hB := bt hb1 hb2
 clear K1 hF hrd hb1 hb2
 have hrI := hO1.rd
 go_wp2_with fail
 refine (sBehindOf_c _ _ _ _ _ _ _ _ _ hr2 hrI).mono ?_
 rintro e w3 ⟨A3, n3, c3, rfl, hO3, hb3⟩
 have hO3' := hO3.wide (lo' := w.heap.size) hB.size (Nat.le_refl _)
 have hB3 := bt hB hb3
 go_wp2_with fail
 go_ret
 exact ⟨_, _, _, rfl, hO3', hB3⟩
set_option maxRecDepth 100000 in
set_option maxHeartbeats 300000 in
theorem made_3n (A : Option Addr) (n c : Nat) (xs : List Int) (a b : Int) (s : ByteArray) (w : World) (h : Rd w w.heap.size A n c xs) (hs : s.size ≤ 1000000000000) (h7 : n ≤ 7) (hno : mapOk (rdX s s.size) = false ∨ (mapOk (rdX s s.size) = true ∧ ¬ a = 0) ∨ (mapOk (rdX s s.size) = true ∧ a = 0 ∧ ¬ b = 0)) :
    Calls Tryz.prog 119 #[.slice A n c, .agg #[.int .i64 3, .int .i64 a, .int .i64 b, .string s]] w (Row1 [] w) := by
 have hb1 : Below w.heap.size w (w.alloc (.cells #[.int .i64 3, .int .i64 a, .int .i64 b, .string s] 55)) := (Below.refl _ _).alloc (Nat.le_refl _) _
 have hF := Four.made w 55 3 a b s
 have hrd := h.up hb1
 rcases hno with hok | ⟨hok, ha⟩ | ⟨hok, ha, hb⟩
 all_goals
  have K1 := sReadMap_c s (w.alloc (.cells #[.int .i64 3, .int .i64 a, .int .i64 b, .string s] 55)) hs
  rw [hok] at K1
  clear hok
  first
   | (have q1 := neqz ha; clear ha)
   | (have q2 := neqz hb; have q1 := eqz ha; clear ha hb)
   | skip
  go_enter Tryz.func119, Tryz.ntmps119
  go_wp2_with fail
  generalize w.alloc (.cells #[.int .i64 3, .int .i64 a, .int .i64 b, .string s] 55) = w1 at *
  refine K1.mono ?_
  rintro e w2 ⟨A1, n1, c1, rfl, hO1, hb2⟩
  have hF2 := hF.up hb2
  obtain ⟨_, k0, k1, k2, k3⟩ := hF2
  have hr2 := hrd.up hb2
  have hB := bt hb1 hb2
  clear K1 hF hrd hb1 hb2
  have hB2 : Below w.heap.size w (w2.alloc (Obj.cells #[] 3)) := hB.alloc hB.size _
  have hO2 := OwnV.made w2 w.heap.size #[] hB.size rfl
  go_wp2_with fail
  go_ret
  exact hO2.row hB2
set_option maxRecDepth 100000 in
set_option maxHeartbeats 300000 in
theorem made_3y (A : Option Addr) (n c : Nat) (xs : List Int) (a b : Int) (s : ByteArray) (w : World) (h : Rd w w.heap.size A n c xs) (hs : s.size ≤ 1000000000000) (h7 : n ≤ 7) (hok : mapOk (rdX s s.size) = true) (ha : a = 0) (hb : b = 0) :
    Calls Tryz.prog 119 #[.slice A n c, .agg #[.int .i64 3, .int .i64 a, .int .i64 b, .string s]] w (Row1 (namI xs (rdI s)) w) := by
 have hb1 : Below w.heap.size w (w.alloc (.cells #[.int .i64 3, .int .i64 a, .int .i64 b, .string s] 55)) := (Below.refl _ _).alloc (Nat.le_refl _) _
 have hF := Four.made w 55 3 a b s
 have hrd := h.up hb1
 have K1 := sReadMap_c s (w.alloc (.cells #[.int .i64 3, .int .i64 a, .int .i64 b, .string s] 55)) hs
 rw [hok] at K1
 clear hok
 have q1 := eqz ha
 have q2 := eqz hb
 clear ha hb
 go_enter Tryz.func119, Tryz.ntmps119
 go_wp2_with fail
 generalize w.alloc (.cells #[.int .i64 3, .int .i64 a, .int .i64 b, .string s] 55) = w1 at *
 refine K1.mono ?_
 rintro e w2 ⟨A1, n1, c1, rfl, hO1, hb2⟩
 have hF2 := hF.up hb2
 obtain ⟨_, k0, k1, k2, k3⟩ := hF2
 have hr2 := hrd.up hb2
 have hB := bt hb1 hb2
 clear K1 hF hrd hb1 hb2
 have hrI := hO1.rd
 go_wp2_with fail
 refine (sNamedOf_c _ _ _ _ _ _ _ _ _ hr2 hrI).mono ?_
 rintro e w3 ⟨A3, n3, c3, rfl, hO3, hb3⟩
 have hO3' := hO3.wide (lo' := w.heap.size) hB.size (Nat.le_refl _)
 have hB3 := bt hB hb3
 go_wp2_with fail
 go_ret
 exact ⟨_, _, _, rfl, hO3', hB3⟩
set_option maxRecDepth 100000 in
set_option maxHeartbeats 300000 in
theorem made_2n (A : Option Addr) (n c : Nat) (xs : List Int) (a b : Int) (s : ByteArray) (w : World) (h : Rd w w.heap.size A n c xs) (hs : s.size ≤ 1000000000000) (h7 : n ≤ 7) (hno : (¬ s = ⟨#[]⟩) ∨ (s = ⟨#[]⟩ ∧ ¬ b = 0)) :
    Calls Tryz.prog 119 #[.slice A n c, .agg #[.int .i64 2, .int .i64 a, .int .i64 b, .string s]] w (Row1 [] w) := by
 have hb1 : Below w.heap.size w (w.alloc (.cells #[.int .i64 2, .int .i64 a, .int .i64 b, .string s] 55)) := (Below.refl _ _).alloc (Nat.le_refl _) _
 have hF := Four.made w 55 2 a b s
 have hrd := h.up hb1
 have K1 := sReadMap_c s (w.alloc (.cells #[.int .i64 2, .int .i64 a, .int .i64 b, .string s] 55)) hs
 generalize mapOk (rdX s s.size) = ok at K1
 rcases hno with hs0 | ⟨hs0, hb⟩
 all_goals
  first
   | (have q2 := neqz hb; have q1 := strE hs0; clear hs0 hb)
   | (have q1 := strN hs0; have q2 := strB hs0; clear hs0)
  go_enter Tryz.func119, Tryz.ntmps119
  go_wp2_with fail
  generalize w.alloc (.cells #[.int .i64 2, .int .i64 a, .int .i64 b, .string s] 55) = w1 at *
  refine K1.mono ?_
  rintro e w2 ⟨A1, n1, c1, rfl, hO1, hb2⟩
  have hF2 := hF.up hb2
  obtain ⟨_, k0, k1, k2, k3⟩ := hF2
  have hr2 := hrd.up hb2
  have hB := bt hb1 hb2
  clear K1 hF hrd hb1 hb2
  have hB2 : Below w.heap.size w (w2.alloc (Obj.cells #[] 3)) := hB.alloc hB.size _
  have hO2 := OwnV.made w2 w.heap.size #[] hB.size rfl
  go_wp2_with fail
  go_ret
  exact hO2.row hB2
set_option maxRecDepth 100000 in
set_option maxHeartbeats 300000 in
theorem made_2y (A : Option Addr) (n c : Nat) (xs : List Int) (a b : Int) (s : ByteArray) (w : World) (h : Rd w w.heap.size A n c xs) (hs : s.size ≤ 1000000000000) (h7 : n ≤ 7) (hs0 : s = ⟨#[]⟩) (hb : b = 0) :
    Calls Tryz.prog 119 #[.slice A n c, .agg #[.int .i64 2, .int .i64 a, .int .i64 b, .string s]] w (Row1 (powI xs a) w) := by
 have hb1 : Below w.heap.size w (w.alloc (.cells #[.int .i64 2, .int .i64 a, .int .i64 b, .string s] 55)) := (Below.refl _ _).alloc (Nat.le_refl _) _
 have hF := Four.made w 55 2 a b s
 have hrd := h.up hb1
 have K1 := sReadMap_c s (w.alloc (.cells #[.int .i64 2, .int .i64 a, .int .i64 b, .string s] 55)) hs
 generalize mapOk (rdX s s.size) = ok at K1
 have q1 := strE hs0
 have q2 := eqz hb
 clear hs0 hb
 go_enter Tryz.func119, Tryz.ntmps119
 go_wp2_with fail
 generalize w.alloc (.cells #[.int .i64 2, .int .i64 a, .int .i64 b, .string s] 55) = w1 at *
 refine K1.mono ?_
 rintro e w2 ⟨A1, n1, c1, rfl, hO1, hb2⟩
 have hF2 := hF.up hb2
 obtain ⟨_, k0, k1, k2, k3⟩ := hF2
 have hr2 := hrd.up hb2
 have hB := bt hb1 hb2
 clear K1 hF hrd hb1 hb2
 go_wp2_with fail
 refine (sPowerOf_c A n c xs a _ hr2).mono ?_
 rintro e w3 ⟨A3, n3, c3, rfl, hO3, hb3⟩
 have hO3' := hO3.wide (lo' := w.heap.size) hB.size (Nat.le_refl _)
 have hB3 := bt hB hb3
 go_wp2_with fail
 go_ret
 exact ⟨_, _, _, rfl, hO3', hB3⟩
set_option maxRecDepth 100000 in
set_option maxHeartbeats 300000 in
theorem made_on (A : Option Addr) (n c : Nat) (xs : List Int) (kd a b : Int) (s : ByteArray) (w : World) (h : Rd w w.heap.size A n c xs) (hs : s.size ≤ 1000000000000) (h7 : n ≤ 7) (h0 : ¬ kd = 0) (h1 : ¬ kd = 1) (h2 : ¬ kd = 2) (h3 : ¬ kd = 3) :
    Calls Tryz.prog 119 #[.slice A n c, .agg #[.int .i64 kd, .int .i64 a, .int .i64 b, .string s]] w (Row1 [] w) := by
 have hb1 : Below w.heap.size w (w.alloc (.cells #[.int .i64 kd, .int .i64 a, .int .i64 b, .string s] 55)) := (Below.refl _ _).alloc (Nat.le_refl _) _
 have hF := Four.made w 55 kd a b s
 have hrd := h.up hb1
 have K1 := sReadMap_c s (w.alloc (.cells #[.int .i64 kd, .int .i64 a, .int .i64 b, .string s] 55)) hs
 generalize mapOk (rdX s s.size) = ok at K1
 have q0 := neqz h0
 have q1 : (kd == 1) = false := by simpa using h1
 have q2 : (kd == 2) = false := by simpa using h2
 have q3 : (kd == 3) = false := by simpa using h3
 clear h0 h1 h2 h3
 go_enter Tryz.func119, Tryz.ntmps119
 go_wp2_with fail
 generalize w.alloc (.cells #[.int .i64 kd, .int .i64 a, .int .i64 b, .string s] 55) = w1 at *
 refine K1.mono ?_
 rintro e w2 ⟨A1, n1, c1, rfl, hO1, hb2⟩
 have hF2 := hF.up hb2
 obtain ⟨_, k0, k1, k2, k3⟩ := hF2
 have hr2 := hrd.up hb2
 have hB := bt hb1 hb2
 clear K1 hF hrd hb1 hb2
 have hB2 : Below w.heap.size w (w2.alloc (Obj.cells #[] 3)) := hB.alloc hB.size _
 have hO2 := OwnV.made w2 w.heap.size #[] hB.size rfl
 go_wp2_with fail
 go_ret
 exact hO2.row hB2
theorem sMade_c (A : Option Addr) (n c : Nat) (xs : List Int) (kd a b : Int) (s : ByteArray) (w : World) (h : Rd w w.heap.size A n c xs) (hs : s.size ≤ 1000000000000) (hm : mapOk xs = true) :
    Calls Tryz.prog 119 #[.slice A n c, .agg #[.int .i64 kd, .int .i64 a, .int .i64 b, .string s]] w (Row1 (madeI xs kd a b s) w) := by
 have hb7 := mapOk_bounds hm
 have hln := h.len
 have h7 : n ≤ 7 := by omega
 by_cases h0 : kd = 0
 · subst h0
   have e : bareB 0 a b s = emp s := by unfold bareB; simp
   by_cases hs0 : s = ⟨#[]⟩
   · rw [made_bare (by rw [e]; exact emp_iff.2 hs0), chg_0]
     by_cases hi : hasB n a = true ∧ hasB n b = true
     · obtain ⟨hi1, hi2⟩ := hi
       rw [hasB_iff] at hi1 hi2
       obtain ⟨i, rfl⟩ := Int.eq_ofNat_of_zero_le hi1.1
       obtain ⟨j, rfl⟩ := Int.eq_ofNat_of_zero_le hi2.1
       exact made_0y A n c xs i j s w h hs h7 hs0 (by omega) (by omega)
     · have e2 : ledX xs a b = [] := by
        unfold ledX; rw [hln]
        rcases h1 : hasB n a with _ | _
        · rfl
        · rcases h2 : hasB n b with _ | _
          · rfl
          · exact absurd ⟨h1, h2⟩ hi
       rw [e2]
       refine made_0n A n c xs a b s w h hs h7 (.inr ?_)
       rcases h1 : hasB n a with _ | _
       · exact .inl ⟨hs0, by rw [hasB_inB, h1]⟩
       · refine .inr ⟨hs0, by rw [hasB_inB, h1], ?_⟩
         rw [hasB_inB]
         rcases h2 : hasB n b with _ | _
         · rfl
         · exact absurd ⟨h1, h2⟩ hi
   · rw [made_not (by rw [e]; exact emp_not.2 hs0)]
     exact made_0n A n c xs a b s w h hs h7 (.inl hs0)
 by_cases h1 : kd = 1
 · subst h1
   have e : bareB 1 a b s = ((a == 0) && (b == 0)) := by unfold bareB; simp
   by_cases ha : a = 0
   · by_cases hb : b = 0
     · rw [made_bare (by rw [e, eqz ha, eqz hb]; rfl), chg_1]
       rcases hok : mapOk (rdX s s.size) with _ | _
       · rw [rd_no hok, behI_no2 mapOk_nil]; exact made_1n A n c xs a b s w h hs h7 (.inl hok)
       · exact made_1y A n c xs a b s w h hs h7 hok ha hb
     · rw [made_not (by rw [e, neqz hb, Bool.and_false])]
       rcases hok : mapOk (rdX s s.size) with _ | _
       · exact made_1n A n c xs a b s w h hs h7 (.inl hok)
       · exact made_1n A n c xs a b s w h hs h7 (.inr (.inr ⟨hok, ha, hb⟩))
   · rw [made_not (by rw [e, neqz ha]; rfl)]
     rcases hok : mapOk (rdX s s.size) with _ | _
     · exact made_1n A n c xs a b s w h hs h7 (.inl hok)
     · exact made_1n A n c xs a b s w h hs h7 (.inr (.inl ⟨hok, ha⟩))
 by_cases h2 : kd = 2
 · subst h2
   have e : bareB 2 a b s = ((b == 0) && emp s) := by unfold bareB; simp
   by_cases hs0 : s = ⟨#[]⟩
   · by_cases hb : b = 0
     · rw [made_bare (by rw [e, eqz hb, emp_iff.2 hs0]; rfl), chg_2]
       exact made_2y A n c xs a b s w h hs h7 hs0 hb
     · rw [made_not (by rw [e, neqz hb]; rfl)]
       exact made_2n A n c xs a b s w h hs h7 (.inr ⟨hs0, hb⟩)
   · rw [made_not (by rw [e, emp_not.2 hs0, Bool.and_false])]
     exact made_2n A n c xs a b s w h hs h7 (.inl hs0)
 by_cases h3 : kd = 3
 · subst h3
   have e : bareB 3 a b s = ((a == 0) && (b == 0)) := by unfold bareB; simp
   by_cases ha : a = 0
   · by_cases hb : b = 0
     · rw [made_bare (by rw [e, eqz ha, eqz hb]; rfl), chg_3]
       rcases hok : mapOk (rdX s s.size) with _ | _
       · rw [rd_no hok, namI_no2 mapOk_nil]; exact made_3n A n c xs a b s w h hs h7 (.inl hok)
       · exact made_3y A n c xs a b s w h hs h7 hok ha hb
     · rw [made_not (by rw [e, neqz hb, Bool.and_false])]
       rcases hok : mapOk (rdX s s.size) with _ | _
       · exact made_3n A n c xs a b s w h hs h7 (.inl hok)
       · exact made_3n A n c xs a b s w h hs h7 (.inr (.inr ⟨hok, ha, hb⟩))
   · rw [made_not (by rw [e, neqz ha]; rfl)]
     rcases hok : mapOk (rdX s s.size) with _ | _
     · exact made_3n A n c xs a b s w h hs h7 (.inl hok)
     · exact made_3n A n c xs a b s w h hs h7 (.inr (.inl ⟨hok, ha⟩))
 have e2 : madeI xs kd a b s = [] := by
  unfold madeI; split
  · exact chg_o xs a b s h0 h1 h2 h3
  · rfl
 rw [e2]
 exact made_on A n c xs kd a b s w h hs h7 h0 h1 h2 h3
end
section
open Go.RowKit
def tot (xss : List (List Int)) : Nat := (xss.map List.length).sum
theorem take_snocR (xss : List (List Int)) (k : Nat) (h : k < xss.length) : xss.take (k + 1) = xss.take k ++ [gR xss k] := by
 rw [List.take_succ_eq_append_getElem h, gR_get h]
def SzT (n : Nat) (left : Int) (w : World) (e : Ending) (w' : World) : Prop :=
 ∃ r : Int, e = .returned (.int .i64 r) ∧ w = w' ∧ -1 ≤ r ∧ r ≤ left ∧ (0 ≤ r → r + (n : Int) ≤ left)
set_option maxHeartbeats 400000 in
theorem szIntS_t (A : Option Addr) (n c : Nat) (xs : List Int) (left : Int) (w : World) (h : Rd w w.heap.size A n c xs) (h0 : 0 ≤ left) (h1 : left ≤ 1048576) :
    Calls Tryz.prog 71 #[.slice A n c, .int .i64 left] w (SzT n left w) := by
 have hm := h.max
 have hc := h.cap
 unfold maxLen at hm
 by_cases hn : (n : Int) ≤ left
 · go_enter Tryz.func71, Tryz.ntmps71
   go_wp2
   go_ret
   exact ⟨_, rfl, rfl, by omega, by omega, fun _ => by omega⟩
 · go_enter Tryz.func71, Tryz.ntmps71
   go_wp2
   go_ret
   exact ⟨_, rfl, rfl, by omega, by omega, fun h => by omega⟩
end
section
open Go.RowKit
set_option maxRecDepth 100000 in
set_option maxHeartbeats 1600000 in
theorem bare_c (kd a b : Int) (s : ByteArray) (w : World) :
    Calls Tryz.prog 87 #[.agg #[.int .i64 kd, .int .i64 a, .int .i64 b, .string s]] w fun e w' => e = .returned (.bool (bareB kd a b s)) ∧ Below w.heap.size w w' := by
 have hb1 : Below w.heap.size w (w.alloc (.cells #[.int .i64 kd, .int .i64 a, .int .i64 b, .string s] 55)) := (Below.refl _ _).alloc (Nat.le_refl _) _
 have ca : (a == 0) = true ∨ (a == 0) = false := by cases (a == 0) <;> simp
 have cb : (b == 0) = true ∨ (b == 0) = false := by cases (b == 0) <;> simp
 have cs : (emp s = true ∧ s.toList = []) ∨ (emp s = false ∧ s.toList.isEmpty = false) := by
  by_cases h : s = ⟨#[]⟩
  · exact .inl ⟨emp_iff.2 h, strE h⟩
  · exact .inr ⟨emp_not.2 h, strB h⟩
 have ck : kd = 0 ∨ kd = 1 ∨ kd = 2 ∨ kd = 3 ∨ ((kd == 0) = false ∧ (kd == 1) = false ∧ (kd == 2) = false ∧ (kd == 3) = false) := by
  by_cases h0 : kd = 0
  · exact .inl h0
  by_cases h1 : kd = 1
  · exact .inr (.inl h1)
  by_cases h2 : kd = 2
  · exact .inr (.inr (.inl h2))
  by_cases h3 : kd = 3
  · exact .inr (.inr (.inr (.inl h3)))
  exact .inr (.inr (.inr (.inr ⟨by simpa using h0, by simpa using h1, by simpa using h2, by simpa using h3⟩)))
 rcases ck with rfl | rfl | rfl | rfl | ⟨q0, q1, q2, q3⟩ <;> rcases ca with qa | qa <;> rcases cb with qb | qb <;> rcases cs with ⟨hs, qs⟩ | ⟨hs, qs⟩
 all_goals
  have HS := Lib.hid hs
  have HA := Lib.hid qa
  have HB := Lib.hid qb
  clear hs
  go_enter Tryz.func87, Tryz.ntmps87
  go_wp2_with fail
  go_ret
  refine ⟨boolEnd ?_, hb1⟩
  unfold bareB
  rw [HA.out, HB.out, HS.out]
  first
   | rfl
   | (rw [q0, q1, q2, q3]; rfl)
set_option maxRecDepth 100000 in
set_option maxHeartbeats 400000 in
theorem eqSl_c (A A' : Option Addr) (n c n' c' : Nat) (xs ys : List Int) (w : World) (h : Rd w w.heap.size A n c xs) (h' : Rd w w.heap.size A' n' c' ys) :
    Calls Tryz.prog 103 #[.slice A n c, .slice A' n' c'] w fun e w' => e = .returned (.bool (eqB xs ys)) ∧ ∃ m, w' = w.drewN m := by
 have HL := Lib.hid h.len
 have HL' := Lib.hid h'.len
 have hm := h.max
 have hc := h.cap
 have hm' := h'.max
 have hc' := h'.cap
 unfold maxLen at hm hm'
 by_cases hne : n = n'
 · subst hne
   have hqn : ((n : Int) != (n : Int)) = false := by simp
   go_enter Tryz.func103, Tryz.ntmps103
   go_wp2
   go_loopw [13] (fun i wr => ∃ k : Nat, k ≤ n ∧ i = .int .i64 k ∧ (∀ j, j < k → gI xs j = gI ys j) ∧ ∃ m, wr = w.drewN m) (fun i _ => n - (intOf i).toNat)
   case atStart => exact ⟨0, Nat.zero_le _, rfl, fun j hj => absurd hj (Nat.not_lt_zero _), 0, rfl⟩
   case round =>
    obtain ⟨k, hk, rfl, hall, m, rfl⟩ := hrel
    have HA := Lib.hid hall
    clear hall
    by_cases hlt : k < n
    · obtain ⟨b, off, rfl, hb, hcell⟩ := h.at_ hlt
      obtain ⟨b', off', rfl, hb', hcell'⟩ := h'.at_ hlt
      by_cases he : gI xs k = gI ys k
      · have hq : (gI xs k != gI ys k) = false := by simp [he]
        have HE := Lib.hid he
        clear he
        go_wp2
        go_quiet (fail)
        go_wp2
        go_roundw
        case rel => exact ⟨k + 1, by omega, by go_num, fun j hj => by
         rcases Nat.lt_or_ge j k with h' | h'
         · exact HA.out j h'
         · obtain rfl : j = k := by omega
           exact HE.out, _, rfl⟩
        case measure => simp [intOf]; omega
      · have hq : (gI xs k != gI ys k) = true := by simp [he]
        have HE := Lib.hid he
        clear he
        go_wp2
        go_quiet (fail)
        go_wp2
        go_ret
        exact ⟨boolEnd (decide_eq_false (fun e => HE.out (by rw [e]))).symm, _, World.drewN_drewN ..⟩
    · go_wp2
      go_ret
      exact ⟨boolEnd (decide_eq_true (eq_of_gI (by rw [HL.out, HL'.out]) (fun j hj => HA.out j (by have := HL.out; omega)))).symm, _, rfl⟩
 · have hq : ((n : Int) != (n' : Int)) = true := by rw [bne_iff_ne]; omega
   go_enter Tryz.func103, Tryz.ntmps103
   go_wp2
   go_ret
   exact ⟨boolEnd (decide_eq_false (fun e => hne (by rw [← HL.out, ← HL'.out, e]))).symm, 0, rfl⟩
def Row1N (xs : List Int) (w : World) (e : Ending) (w' : World) : Prop :=
 ∃ A n c, e = .returned (.slice A n c) ∧ OwnIn w' w.heap.size w'.heap.size A n c xs ∧ Below w.heap.size w w' ∧ (xs = [] → A = none ∧ n = 0 ∧ c = 0)
theorem Row1.toN {xs : List Int} {w w' : World} {e : Ending} (h : Row1 xs w e w') (hx : xs ≠ []) : Row1N xs w e w' := by
 obtain ⟨A, n, c, h1, h2, h3⟩ := h
 exact ⟨A, n, c, h1, h2, h3, fun e => absurd e hx⟩
theorem Row1N.nil_ {w w' : World} (hb : Below w.heap.size w w') : Row1N [] w (.returned (.slice none 0 0)) w' := ⟨none, 0, 0, rfl, OwnIn.nil_ _ _ _, hb, fun _ => ⟨rfl, rfl, rfl⟩⟩
theorem ints_ne {f : List Nat} (hf : MapN f) : ints f ≠ [] := by
 intro e
 have := congrArg List.length e
 rw [ints_len] at this
 have := hf.pos
 simp_all
set_option maxRecDepth 100000 in
set_option maxHeartbeats 400000 in
theorem behindOf_N (A A' : Option Addr) (n c n' c' : Nat) (xs ys : List Int) (w : World) (h : Rd w w.heap.size A n c xs) (h' : Rd w w.heap.size A' n' c' ys) (hm : mapOk xs = true) :
    Calls Tryz.prog 142 #[.slice A n c, .slice A' n' c'] w (Row1N (behI xs ys) w) := by
 have hl := h.len
 have hl' := h'.len
 have K1 := mapOk_c _ _ _ _ _ h
 have K2 := mapOk_c _ _ _ _ _ h'
 rw [hm] at K1
 rcases hy : mapOk ys with _ | _
 · have HE := Lib.hid (behI_no2 (xs := xs) hy)
   rw [hy] at K2
   clear hm hy hl hl'
   go_enter Tryz.func142, Tryz.ntmps142
   go_wp2_with (first | (go_at_call 68; with_reducible refine K1.mono ?_; rintro e w' ⟨rfl, rfl⟩) | (go_at_call 68; with_reducible refine K2.mono ?_; rintro e w' ⟨rfl, rfl⟩))
   go_ret
   rw [HE.out]
   exact Row1N.nil_ (Below.refl _ _)
 · by_cases hn : n = n'
   · obtain ⟨f, rfl, hf⟩ := mapOk_ex hm
     obtain ⟨g, rfl, hg⟩ := mapOk_ex hy
     rw [ints_len] at hl hl'
     have hfg : f.length = g.length := by omega
     rw [behI_ok hf hg hfg]
     exact (behindOf_ok' A A' n n' c c' f g w h h' hf hg hfg).mono fun e w' hr => hr.toN (ints_ne (behN_map hf hg hfg))
   · have HE := Lib.hid (behI_no3 (xs := xs) (ys := ys) (by omega))
     have hq : ((n : Int) != (n' : Int)) = true := by rw [bne_iff_ne]; omega
     rw [hy] at K2
     clear hm hy hl hl' hn
     go_enter Tryz.func142, Tryz.ntmps142
     go_wp2_with (first | (go_at_call 68; with_reducible refine K1.mono ?_; rintro e w' ⟨rfl, rfl⟩) | (go_at_call 68; with_reducible refine K2.mono ?_; rintro e w' ⟨rfl, rfl⟩))
     go_ret
     rw [HE.out]
     exact Row1N.nil_ (Below.refl _ _)
set_option maxRecDepth 100000 in
set_option maxHeartbeats 400000 in
theorem powerOf_N (A : Option Addr) (n c : Nat) (xs : List Int) (t : Int) (w : World) (h : Rd w w.heap.size A n c xs) (hm : mapOk xs = true) :
    Calls Tryz.prog 143 #[.slice A n c, .int .i64 t] w (Row1N (powI xs t) w) := by
 have K1 := mapOk_c _ _ _ _ _ h
 rw [hm] at K1
 rcases hi : inB t 0 1000000 with _ | _
 · have HE := Lib.hid (powI_no2 (xs := xs) hi)
   have hin := inB_not.1 hi
   have hcase : t < 0 ∨ (0 ≤ t ∧ 1000000 < t) := by omega
   clear hin hi hm
   rcases hcase with h2 | ⟨h2, h3⟩
   all_goals
    go_enter Tryz.func143, Tryz.ntmps143
    go_wp2_with (go_at_call 68; with_reducible refine K1.mono ?_; rintro e w' ⟨rfl, rfl⟩)
    go_ret
    rw [HE.out]
    exact Row1N.nil_ (Below.refl _ _)
 · obtain ⟨f, rfl, hf⟩ := mapOk_ex hm
   obtain rfl : n = f.length := by rw [← h.len, ints_len]
   obtain ⟨h2, h3⟩ := inB_iff.1 hi
   obtain ⟨k, rfl⟩ := Int.eq_ofNat_of_zero_le h2
   have hk : k ≤ 1000000 := by omega
   have HE := Lib.hid (powI_ok hf hk)
   have hk2 : ¬ ((k : Int) < 0) := by omega
   have hk3 : ¬ (1000000 < (k : Int)) := by omega
   clear hi h2 h3 hm
   go_enter Tryz.func143, Tryz.ntmps143
   go_wp2_with (go_at_call 68; with_reducible refine K1.mono ?_; rintro e w' ⟨rfl, rfl⟩)
   refine (powerOf_ok A c f hf k _ hk h).mono ?_
   rintro e w1 ⟨A1, n1, c1, rfl, hO1, hb1⟩
   go_wp2_with fail
   go_ret
   rw [HE.out]
   exact ⟨_, _, _, rfl, hO1, hb1, fun e => absurd e (ints_ne (powN_map hf k))⟩
end
section
open Go.RowKit
def Fit (yss : List (List Int)) : Prop := yss.length ≤ 1000000 ∧ ∀ k, k < yss.length → 0 < (gR yss k).length ∧ (gR yss k).length ≤ 7
theorem makeRows (n : Nat) (w : World) (hn : n ≤ 1000000) :
    (Instr.makeSlice 24 (.int .i64 0) (.int .i64 (n : Int))).run Tryz.prog w = .ok (.slice (some ⟨w.heap.size, 0, none⟩) 0 n) (w.alloc (.cells (madeCells #[Value.slice none 0 0] n) 23)) := by
 obtain ⟨i0, hi, hz0, hz1, hz2⟩ := info_parts row_info
 have hr := run_make (P := Tryz.prog) w 24 23 i0 (.slice none 0 0) Tryz.underlying24 hi hz0 .i64 .i64 0 (n : Int) (by omega) (by omega) (by rw [hz2]; omega) (by omega)
 simp only [Int.toNat_natCast] at hr
 rw [hz1, Nat.mul_one] at hr
 exact hr
set_option maxRecDepth 100000 in
set_option maxHeartbeats 800000 in
theorem copiedRows_c (P : Option Addr) (m d : Nat) (yss : List (List Int)) (w : World) (h : RdR w w.heap.size P m d yss) (hf : Fit yss) :
    Calls Tryz.prog 101 #[.slice P m d] w fun e w' => ∃ P' d', e = .returned (.slice P' m d') ∧ Ors w' w.heap.size w'.heap.size (.slice P' m d') yss ∧ Below w.heap.size w w' := by
 have HL := Lib.hid h.len
 have hm := h.max
 have hc := h.cap
 unfold maxLen at hm
 have hmm : m ≤ 1000000 := by have := hf.1; have := h.len; omega
 have hmk := makeRows m w hmm
 have HF := Lib.hid hf
 have hb1 : Below w.heap.size w (w.alloc (.cells (madeCells #[Value.slice none 0 0] m) 23)) := (Below.refl _ _).alloc (Nat.le_refl _) _
 have hO1 : Ors (w.alloc (.cells (madeCells #[Value.slice none 0 0] m) 23)) w.heap.size (w.heap.size + 1) (.slice (some ⟨w.heap.size, 0, none⟩) 0 m) [] := Ors.madeN w w.heap.size (w.heap.size + 1) m _ (Nat.le_refl _) (Nat.lt_succ_self _) (by unfold maxLen; omega) (by simp [size_madeCells])
 have hz1 : (w.alloc (.cells (madeCells #[Value.slice none 0 0] m) 23)).heap.size = w.heap.size + 1 := by simp
 rw [← hz1] at hO1
 clear hf hz1
 go_enter Tryz.func101, Tryz.ntmps101
 go_wp2_with fail
 generalize w.alloc (.cells (madeCells #[Value.slice none 0 0] m) 23) = w1 at *
 clear hmk
 go_loopw [3, 11] (fun v i wr => ∃ k : Nat, k ≤ m ∧ i = .int .i64 k ∧ Ors wr w.heap.size wr.heap.size v (yss.take k) ∧ Below w.heap.size w wr) (fun _ i _ => m - (intOf i).toNat)
 case atStart => exact ⟨0, Nat.zero_le _, rfl, hO1, hb1⟩
 case round =>
  obtain ⟨k, hk, rfl, hO, hbw⟩ := hrel
  clear hO1 hb1
  by_cases hlt : k < m
  · obtain ⟨b, off, A1, n1, c1, rfl, hb, hcell0, hrk⟩ := h.at_ hlt
    have hcell := (hbw.cell (p := ⟨b, off + k, none⟩) hb).trans hcell0
    have hr1 := (hrk.below hbw).more hbw.size
    have hfk := HF.out.2 k (by rw [HL.out]; exact hlt)
    rw [hrk.len] at hfk
    have HT := Lib.hid (take_snocR yss k (by rw [HL.out]; exact hlt))
    have hlen : (yss.take k).length ≤ 1000000000 := by rw [List.length_take]; omega
    have HB := Lib.hid hbw
    have HO := Lib.hid hO
    clear hbw hcell0 hO hrk
    go_wp2_with fail
    refine (clone_c A1 n1 c1 _ _ hr1 hfk.1 (by omega)).mono ?_
    rintro e w2 ⟨A2, c2, rfl, hI, hb2⟩
    have hb3 : Below w2.heap.size w2 (w2.alloc (.cells #[.slice A2 n1 c2] 23)) := (Below.refl _ _).alloc (Nat.le_refl _) _
    have hO3 := (HO.out.up hb2).up hb3
    have hI3 := hI.up hb3
    have hz1 := HB.out.size
    have hz2 := hb2.size
    have hz3 := hb3.size
    have hB3 := bt (bt HB.out hb2) hb3
    have hcl : (w2.alloc (.cells #[.slice A2 n1 c2] 23)).cell? ⟨w2.heap.size, 0, none⟩ = some (.slice A2 n1 c2) := (World.cell?_alloc_at _ _ _ _ rfl).trans rfl
    clear hb2 hb3 hI hcell
    go_wp2_with (at_builtin; refine app_rs (w2.alloc (.cells #[.slice A2 n1 c2] 23)) rfl _ _ rfl w.heap.size wr.heap.size wr.heap.size w2.heap.size _ (yss.take k) rfl hO3 w2.heap.size rfl A2 n1 c2 hcl _ hI3 hfk.1 (Nat.le_refl _) hz1 hz3 hlen (by omega) (by omega) ?_; intro v' w4 hO4 hb4 hz4)
    have hB4 := hB3.trans hb4
    clear hcl hB3 hb4 hO3 hI3
    go_wp2_with fail
    go_roundw
    case rel => exact ⟨k + 1, by omega, by go_num, by rw [HT.out]; exact hO4, hB4⟩
    case measure => simp [intOf]; omega
  · have hkm : k = m := by omega
    rw [show yss.take k = yss from List.take_of_length_le (by rw [HL.out]; omega)] at hO
    obtain ⟨P', d', rfl, _⟩ := hO.form
    rw [HL.out] at hO ⊢
    clear hkm
    go_wp2_with fail
    go_ret
    exact ⟨P', d', rfl, hO, hbw⟩
def CopyD (w : World) (xs : List Int) (yss : List (List Int)) (e : Ending) (w' : World) : Prop :=
 ∃ A n c P m d, e = .returned (.agg #[.slice A n c, .slice P m d]) ∧ OwnD w' w.heap.size w'.heap.size A n c xs P m d yss ∧ Below w.heap.size w w'
set_option maxRecDepth 100000 in
set_option maxHeartbeats 800000 in
theorem copied_c (A P : Option Addr) (n c m d : Nat) (xs : List Int) (yss : List (List Int)) (w : World) (h : RdD w w.heap.size A n c xs P m d yss) (h0 : 0 < n) (h7 : n ≤ 7) (hf : Fit yss) :
    Calls Tryz.prog 44 #[.agg #[.slice A n c, .slice P m d]] w (CopyD w xs yss) := by
 have ha := (Two.made w 26 (.slice A n c) (.slice P m d)).alloc (.cells #[.slice none 0 0, .slice none 0 0] 26)
 have hr := Two.made (w.alloc (.cells #[.slice A n c, .slice P m d] 26)) 26 (.slice none 0 0) (.slice none 0 0)
 have hb1 : Below w.heap.size w ((w.alloc (.cells #[.slice A n c, .slice P m d] 26)).alloc (.cells #[.slice none 0 0, .slice none 0 0] 26)) := ((Below.refl _ _).alloc (Nat.le_refl _) _).alloc (by simp) _
 simp only [World.size_alloc] at hr
 go_enter Tryz.func44, Tryz.ntmps44
 go_wp2_with fail
 generalize (w.alloc (.cells #[.slice A n c, .slice P m d] 26)).alloc (.cells #[.slice none 0 0, .slice none 0 0] 26) = w1 at *
 have h1 := h.up hb1
 have h11 : RdD w1.drew w1.drew.heap.size A n c xs P m d yss := ⟨h1.1.dn 1, h1.2.dn 1⟩
 have ha1 : Two w1.drew w.heap.size (.slice A n c) (.slice P m d) := ha
 have hr1 : Two w1.drew (w.heap.size + 1) (.slice none 0 0) (.slice none 0 0) := hr
 have hbw1 : Below w.heap.size w w1.drew := bd hb1 1
 clear h1 ha hr hb1
 go_region_held3 (fun w' => w'.cell? ⟨w.heap.size, 0, none⟩ = some (.slice A n c) ∧ w'.cell? ⟨w.heap.size, 1, none⟩ = some (.slice P m d))
  (first
   | exact ⟨ha1.2.1, ha1.2.2.1⟩
   | exact ⟨ha2.2.1, ha2.2.2.1⟩
   | exact ⟨ha3.2.1, ha3.2.2.1⟩
   | exact ⟨((ha3.far (p := ⟨w.heap.size + 1, 0, none⟩) (by simp) _).far (p := ⟨w.heap.size + 1, 1, none⟩) (by simp) _).2.1, ((ha3.far (p := ⟨w.heap.size + 1, 0, none⟩) (by simp) _).far (p := ⟨w.heap.size + 1, 1, none⟩) (by simp) _).2.2.1⟩)
  (first
   | (go_at_call 100; refine (clone_c A n c xs _ h11.1 h0 (by omega)).mono ?_; rintro e w2 ⟨A2, c2, rfl, hI2, hb2⟩; have ha2 := ha1.up hb2; have h2 := h11.2.up hb2)
   | (go_at_call 101; refine (copiedRows_c P m d yss _ h2 hf).mono ?_; rintro e w3 ⟨P3, d3, rfl, hR3, hb3⟩; have ha3 := ha2.up hb3; have hr3 := (hr1.up hb2).up hb3; obtain ⟨hr30, hr31, hr32, hr33, hr34⟩ := id hr3))
 all_goals
  go_wp2_with fail
  have hend := (hr3.set0 (.slice A2 n c2)).set1 (.slice P3 m d3)
  have hch : Chg (w.heap.size + 1) (w.heap.size + 2) w3 ((w3.setCell ⟨w.heap.size + 1, 0, none⟩ (.slice A2 n c2)).setCell ⟨w.heap.size + 1, 1, none⟩ (.slice P3 m d3)) :=
   ((Chg.refl _ _ w3).setCell (p := ⟨w.heap.size + 1, 0, none⟩) (by simp) (by simp) _).setCell (p := ⟨w.heap.size + 1, 1, none⟩) (by simp) (by simp) _
  have hz1 : w.heap.size + 1 < w1.heap.size := hr1.1
  have hz1' : w1.drew.heap.size = w1.heap.size := rfl
  have hz2 := hb2.size
  have hz3 := hb3.size
  have hbe := (bt (bt hbw1 hb2) hb3).trans (hch.belowLo (B := w.heap.size) (by omega) (by omega))
  have hpost : CopyD w xs yss (.returned (.agg #[.slice A2 n c2, .slice P3 m d3])) ((w3.setCell ⟨w.heap.size + 1, 0, none⟩ (.slice A2 n c2)).setCell ⟨w.heap.size + 1, 1, none⟩ (.slice P3 m d3)) :=
   ⟨_, _, _, _, _, _, rfl, ⟨w2.heap.size, by omega, by have := hch.size; omega, ((hI2.up hb3).chg hch (.inr (by omega))).wide (by omega) (Nat.le_refl _), (hR3.chg hch (.inr (by omega))).wide (Nat.le_refl _) hch.size⟩, hbe⟩
  (try simp only [Exit.inBlock, Exit.then])
  refine bodyPost_ret (v := .agg #[.slice A2 n c2, .slice P3 m d3]) ?_ rfl hpost
  exact results_two rfl _ _ (w.heap.size + 1) _ _ _ rfl hend Tryz.underlying26 rfl desk_size
end
section
open Go.RowKit
set_option maxRecDepth 100000 in
set_option maxHeartbeats 800000 in
theorem sCopy_c (A P : Option Addr) (n c m d : Nat) (xs : List Int) (yss : List (List Int)) (w : World) (h : RdD w w.heap.size A n c xs P m d yss) (h0 : 0 < n) (h7 : n ≤ 7) (hf : Fit yss) :
    Calls Tryz.prog 47 #[.agg #[.slice A n c, .slice P m d]] w (CopyD w xs yss) := by
 have e1 : ((w.alloc (.cells #[.slice A n c, .slice P m d] 26)).alloc (.cells #[.slice none 0 0, .slice none 0 0] 26)).heap.size = w.heap.size + 1 + 1 := by simp
 have ha := (Two.made w 26 (.slice A n c) (.slice P m d)).alloc (.cells #[.slice none 0 0, .slice none 0 0] 26)
 have hr := Two.made (w.alloc (.cells #[.slice A n c, .slice P m d] 26)) 26 (.slice none 0 0) (.slice none 0 0)
 have hb1 : Below w.heap.size w ((w.alloc (.cells #[.slice A n c, .slice P m d] 26)).alloc (.cells #[.slice none 0 0, .slice none 0 0] 26)) := ((Below.refl _ _).alloc (Nat.le_refl _) _).alloc (by simp) _
 simp only [World.size_alloc] at hr
 have h1 := h.up hb1
 have hb2 : Below ((w.alloc (.cells #[.slice A n c, .slice P m d] 26)).alloc (.cells #[.slice none 0 0, .slice none 0 0] 26)).heap.size ((w.alloc (.cells #[.slice A n c, .slice P m d] 26)).alloc (.cells #[.slice none 0 0, .slice none 0 0] 26)) (((w.alloc (.cells #[.slice A n c, .slice P m d] 26)).alloc (.cells #[.slice none 0 0, .slice none 0 0] 26)).alloc (Obj.cells #[] 3)) := (Below.refl _ _).alloc (Nat.le_refl _) _
 have hO : OwnV (((w.alloc (.cells #[.slice A n c, .slice P m d] 26)).alloc (.cells #[.slice none 0 0, .slice none 0 0] 26)).alloc (Obj.cells #[] 3)) (w.heap.size + 1 + 1) (.slice (some ⟨w.heap.size + 1 + 1, 0, none⟩) 0 0) [] := by
  rw [← e1]; exact OwnV.made _ _ #[] (Nat.le_refl _) rfl
 have hrd := h1.1.up hb2
 have hs2 : w.heap.size + 1 + 1 ≤ (((w.alloc (.cells #[.slice A n c, .slice P m d] 26)).alloc (.cells #[.slice none 0 0, .slice none 0 0] 26)).alloc (Obj.cells #[] 3)).heap.size := by rw [← e1]; exact hb2.size
 have HL := Lib.hid h1.1.len
 rw [e1] at hb2
 go_enter Tryz.func47, Tryz.ntmps47
 go_wp2_with (at_builtin; refine app_row (((w.alloc (.cells #[.slice A n c, .slice P m d] 26)).alloc (.cells #[.slice none 0 0, .slice none 0 0] 26)).alloc (Obj.cells #[] 3)) rfl _ _ rfl (w.heap.size + 1 + 1) _ rfl hO A n c xs rfl hrd h0 (by omega) hs2 ?_; intro v' w3 hown hb3; obtain ⟨A3, c3, rfl, hI3⟩ := hown.slice_; rw [HL.out] at hI3 ⊢; have hb23 := hb2.trans hb3; have hb13 := hb1.trans (hb23.mono (by omega)); have ha3 := ha.below (B := w.heap.size + 1 + 1) hb23 (by omega); have hr3 := hr.below (B := w.heap.size + 1 + 1) hb23 (by omega); have hz3 := hb23.size; rw [e1] at hz3; clear hb2 hb3 hb23 ha hr hrd hs2 hO h1 hb1 e1)
 have hE : Below w3.heap.size w3 (w3.alloc (.cells #[.slice A3 n c3, .slice none 0 0] 26)) := (Below.refl _ _).alloc (Nat.le_refl _) _
 have ht4 := Two.made w3 26 (.slice A3 n c3) (.slice none 0 0)
 have ha4 := ha3.up hE
 have hr4 := hr3.up hE
 have hI4 := hI3.up hE
 have hb4 := bt hb13 hE
 have hn4 := Ors.nil_ (w3.alloc (.cells #[.slice A3 n c3, .slice none 0 0] 26)) (w3.heap.size + 1) (w3.alloc (.cells #[.slice A3 n c3, .slice none 0 0] 26)).heap.size
 have hlm := h.2.len
 have hmx := h.2.max
 have hcp := h.2.cap
 unfold maxLen at hmx
 have HM := Lib.hid hlm
 have hmm : m ≤ 1000000 := by have := hf.1; omega
 have HF := Lib.hid hf
 clear hE ha3 hr3 hI3 hb13 hown hlm hf
 go_wp2_with fail
 generalize hw4 : (w3.alloc (.cells #[.slice A3 n c3, .slice none 0 0] 26)) = w4 at *
 clear hw4
 generalize hg3 : w3.heap.size = g3 at *
 clear hg3 w3
 go_loopw [4] (fun i wr => ∃ (k : Nat) (v : Value), k ≤ m ∧ i = .int .i64 k ∧ Two wr g3 (.slice A3 n c3) v ∧ Two wr w.heap.size (.slice A n c) (.slice P m d) ∧ Two wr (w.heap.size + 1) (.slice none 0 0) (.slice none 0 0) ∧ OwnIn wr (w.heap.size + 1 + 1) g3 A3 n c3 xs ∧ Ors wr (g3 + 1) wr.heap.size v (yss.take k) ∧ Below w.heap.size w wr) (fun i _ => m - (intOf i).toNat)
 case atStart => exact ⟨0, _, Nat.zero_le _, rfl, ht4, ha4, hr4, hI4, hn4, hb4⟩
 case round =>
  clear ht4 ha4 hr4 hI4 hn4 hb4 w4
  obtain ⟨k, v, hk, rfl, ht, ha, hr, hI, hO, hbw⟩ := hrel
  obtain ⟨P1, d1, rfl, hro⟩ := hO.form
  have hkl : (yss.take k).length = k := by rw [List.length_take, HM.out]; omega
  have HKL := Lib.hid hkl
  rw [hkl] at ht hO hro
  have hcp1 := hro.cap
  have hmx1 := hro.max
  unfold maxLen at hmx1
  have hg3 := ht.1
  have hwz := ha.1
  have hwz2 := hr.1
  clear hro hkl
  by_cases hlt : k < m
  · obtain ⟨b, off, A1, n1, c1, rfl, hb, hcell0, hrk⟩ := h.2.at_ hlt
    have hcell := (hbw.cell (p := ⟨b, off + k, none⟩) hb).trans hcell0
    have hfk := HF.out.2 k (by rw [HM.out]; exact hlt)
    rw [hrk.len] at hfk
    have hn0 := hfk.1
    have hn7 : n1 ≤ 1000000000000 := by omega
    have HT := Lib.hid (take_snocR yss k (by rw [HM.out]; exact hlt))
    have HLk := Lib.hid hrk.len
    have hrd1 := (hrk.below hbw).more hbw.size
    have hAl : Below wr.heap.size wr (wr.alloc (Obj.cells #[] 3)) := (Below.refl _ _).alloc (Nat.le_refl _) _
    have hOv : OwnV (wr.alloc (Obj.cells #[] 3)).drew wr.heap.size (.slice (some ⟨wr.heap.size, 0, none⟩) 0 0) [] := OwnV.made wr wr.heap.size #[] (Nat.le_refl _) rfl
    have hRv : Rd (wr.alloc (Obj.cells #[] 3)).drew (wr.alloc (Obj.cells #[] 3)).drew.heap.size A1 n1 c1 (gR yss k) := (hrd1.up hAl).dn 1
    have hsv : wr.heap.size ≤ (wr.alloc (Obj.cells #[] 3)).drew.heap.size := hAl.size
    have hsvw : wr.heap.size ≤ (wr.alloc (Obj.cells #[] 3)).heap.size := hAl.size
    have hbwr : b < wr.heap.size := by have := hbw.size; omega
    have hk0 : (0 : Int) ≤ (k : Int) := Int.natCast_nonneg _
    have hk1 : (k : Int) < (m : Int) := by omega
    have hcA : (wr.alloc (Obj.cells #[] 3)).cell? ⟨b, off + k, none⟩ = some (.slice A1 n1 c1) := (hAl.cell (p := ⟨b, off + k, none⟩) hbwr).trans hcell
    have htA := ht.up hAl
    have haA := ha.up hAl
    have hbA := bt hbw hAl
    clear hfk hrk hcell0
    obtain ⟨_, a0, a1, _, _⟩ := id ha
    go_wp2_with fail
    obtain ⟨_, s0, s1, s2, s3⟩ := id ht
    obtain ⟨_, sA0, sA1, sA2, sA3⟩ := id htA
    obtain ⟨_, aA0, aA1, _, _⟩ := id haA
    go_region_law
     (first
      | (refine step_app_row _ (by rfl) _ _ (by rfl) wr.heap.size _ (by rfl) hOv A1 n1 c1 _ (by rfl) hRv hn0 hn7 hsv ?_; intro v4 w4 hown4 hb4; obtain ⟨A4, c4, rfl, hI4⟩ := hown4.slice_; rw [HLk.out] at hI4 ⊢; have hb4' : Below wr.heap.size wr w4 := ⟨hb4.os, hb4.tape, hb4.output, Nat.le_trans hsvw hb4.size, fun q hq => (hb4.block q hq).trans (hAl.block q hq)⟩; have hz4 := hb4'.size; have ht4 := ht.up hb4'; have ha4 := ha.up hb4'; have hc4 := (hb4'.cell (p := ⟨b, off + k, none⟩) hbwr).trans hcell; have hA4 : Below w4.heap.size w4 (w4.alloc (.cells #[.slice A4 n1 c4] 23)) := (Below.refl _ _).alloc (Nat.le_refl _) _; have hz5 := hA4.size; obtain ⟨_, s40, s41, s42, s43⟩ := id ht4; have ht5 := ht4.up hA4; have ha5 := ha4.up hA4; obtain ⟨_, s50, s51, s52, s53⟩ := id ht5; have hc5 := (hA4.cell (p := ⟨b, off + k, none⟩) (by show b < w4.heap.size; omega)).trans hc4; have hO5 : Ors (w4.alloc (.cells #[.slice A4 n1 c4] 23)).drew (g3 + 1) wr.heap.size (.slice P1 k d1) (yss.take k) := ((hO.up hb4').up hA4).dn 1; have hI5 : OwnIn (w4.alloc (.cells #[.slice A4 n1 c4] 23)).drew wr.heap.size w4.heap.size A4 n1 c4 (gR yss k) := (hI4.up hA4).dn 1; have hcl5 : (w4.alloc (.cells #[.slice A4 n1 c4] 23)).drew.cell? ⟨w4.heap.size, 0, none⟩ = some (.slice A4 n1 c4) := (World.cell?_alloc_at _ _ _ _ rfl).trans rfl; have hz5' : w4.heap.size ≤ (w4.alloc (.cells #[.slice A4 n1 c4] 23)).drew.heap.size := hz5)
      | (refine step_app_rs _ (by rfl) _ _ (by rfl) (g3 + 1) wr.heap.size wr.heap.size w4.heap.size _ _ (by rfl) hO5 w4.heap.size (by rfl) A4 n1 c4 hcl5 _ hI5 hn0 (Nat.le_refl _) hg3 hz5' (by rw [HKL.out]; omega) (by omega) (by omega) ?_; intro v6 w6 hO6 hb6 hz6; obtain ⟨P6, d6, rfl, hro6⟩ := hO6.form; clear hro6; have e6 : (yss.take k ++ [gR yss k]).length = k + 1 := (by rw [List.length_append, HKL.out]; rfl); rw [e6] at hO6 ⊢; clear e6; have hb6' : Below (g3 + 1) wr w6 := ⟨hb6.os.trans hb4'.os, hb6.tape.trans hb4'.tape, hb6.output.trans hb4'.output, by omega, fun q hq => (hb6.block q hq).trans (((hb4'.trans (hA4.mono hz4)).block q (by omega)))⟩; have ht6 := ht.below hb6' (by omega); have ha6 := ha.below hb6' (by omega); have hr6 := hr.below hb6' (by omega); obtain ⟨_, s60, s61, s62, s63⟩ := id ht6))
    all_goals
     have HO6 := Lib.hid hO6
     have HI6 := Lib.hid ((hI.up hb4').keep (w' := w6) fun q h1 h2 h3 => (hb6.block q (by omega)).trans (hA4.block q (by omega)))
     have HT6 := Lib.hid (ht6.set1 (.slice P6 (k + 1) d6))
     have HA6 := Lib.hid (ha6.far (p := ⟨g3, 1, none⟩) (by show w.heap.size ≠ g3; omega) (.slice P6 (k + 1) d6))
     have HR6 := Lib.hid (hr6.far (p := ⟨g3, 1, none⟩) (by show w.heap.size + 1 ≠ g3; omega) (.slice P6 (k + 1) d6))
     have HC6 := Lib.hid ((Chg.refl g3 (g3 + 1) w6).setCell (p := ⟨g3, 1, none⟩) (Nat.le_refl g3) (Nat.lt_succ_self g3) (.slice P6 (k + 1) d6))
     have HB6 := Lib.hid (hbw.trans (hb6'.mono (B' := w.heap.size) (by omega)))
     have hz66 : w.heap.size + 1 + 1 ≤ w6.heap.size := by omega
     clear hO6 ht6 ha6 hr6 hb6 hb6' ht5 ha5 hc5 ht4 ha4 hc4 hO5 hI5 hcl5 hI4 hb4 hb4' hA4 hown4 s40 s41 s42 s43 s50 s51 s52 s53 s60 s61 s62 s63
     go_wp2_with fail
     go_roundw
     case rel => exact ⟨k + 1, _, by omega, by go_num, HT6.out, HA6.out, HR6.out, HI6.out.chg HC6.out (.inl (Nat.le_refl _)), by rw [HT.out]; exact (HO6.out.chg HC6.out (.inr (Nat.le_refl _))).wide (Nat.le_refl _) HC6.out.size, HB6.out.trans (HC6.out.belowLo (by omega) (by omega))⟩
     case measure => simp [intOf]; omega
  · have hkm : k = m := by omega
    obtain rfl := hkm
    rw [show yss.take k = yss from List.take_of_length_le (by rw [HM.out]; exact Nat.le_refl _)] at hO
    obtain ⟨_, s0, s1, s2, s3⟩ := id ht
    obtain ⟨_, a0, a1, _, _⟩ := id ha
    obtain ⟨_, r0, r1, r2, r3⟩ := id hr
    have hend := (hr.set0 (.slice A3 n c3)).set1 (.slice P1 k d1)
    have hch : Chg (w.heap.size + 1) (w.heap.size + 2) wr ((wr.setCell ⟨w.heap.size + 1, 0, none⟩ (.slice A3 n c3)).setCell ⟨w.heap.size + 1, 1, none⟩ (.slice P1 k d1)) :=
     ((Chg.refl _ _ wr).setCell (p := ⟨w.heap.size + 1, 0, none⟩) (by simp) (by simp) _).setCell (p := ⟨w.heap.size + 1, 1, none⟩) (by simp) (by simp) _
    have hbe := hbw.trans (hch.belowLo (B := w.heap.size) (by omega) (by omega))
    have hpost : CopyD w xs yss (.returned (.agg #[.slice A3 n c3, .slice P1 k d1])) ((wr.setCell ⟨w.heap.size + 1, 0, none⟩ (.slice A3 n c3)).setCell ⟨w.heap.size + 1, 1, none⟩ (.slice P1 k d1)) :=
     ⟨_, _, _, _, _, _, rfl, ⟨g3 + 1, by omega, by have := hch.size; omega, (hI.chg hch (.inr (by omega))).wide (by omega) (by omega), (hO.chg hch (.inr (by omega))).wide (Nat.le_refl _) hch.size⟩, hbe⟩
    have HP := Lib.hid hpost
    have HE := Lib.hid hend
    clear hpost hend hbe hch
    go_wp2_with fail
    (try simp only [Exit.inBlock, Exit.then])
    refine bodyPost_ret (v := .agg #[.slice A3 n c3, .slice P1 k d1]) ?_ rfl HP.out
    exact results_two rfl _ _ (w.heap.size + 1) _ _ _ rfl HE.out Tryz.underlying26 rfl desk_size
end
section
open Go.RowKit
def rdT (s : ByteArray) (k : Nat) : List Int := rdX s k ++ List.replicate (s.size - k) 0
theorem rdT_zero (s : ByteArray) : rdT s 0 = List.replicate s.size 0 := by simp [rdT, rdX]
theorem rdT_all (s : ByteArray) : rdT s s.size = rdX s s.size := by simp [rdT]
theorem rdT_succ (s : ByteArray) {k : Nat} (h : k < s.size) : (rdT s k).set k (((s.get! k).toNat : Int) - 48) = rdT s (k + 1) := by
 unfold rdT
 rw [List.set_append_right _ _ (by rw [rdX_len]; exact Nat.le_refl _), rdX_len, Nat.sub_self, show s.size - k = (s.size - (k + 1)) + 1 by omega, List.replicate_succ, List.set_cons_zero, rdX_succ]
 simp
theorem ints_rep (n : Nat) : (List.replicate n (Value.int .i64 0)) = (List.replicate n (0 : Int)).map (Value.int .i64) := by simp
theorem fresh_row {w w1 : World} {n : Nat} (h : w1.ownsRow w.heap.size 3 1 (.slice (some ⟨w.heap.size, 0, none⟩) n n) n (madeCells #[Value.int .i64 0] n).toList) : OwnIn w1 w.heap.size (w.heap.size + 1) (some ⟨w.heap.size, 0, none⟩) n n (List.replicate n (0 : Int)) := by
 refine ⟨⟨by simp, ?_⟩, fun k hk => by cases hk; exact Nat.lt_succ_self _⟩
 have e : (madeCells #[Value.int .i64 0] n).toList = (List.replicate n (0 : Int)).map (Value.int .i64) := by
  rw [← ints_rep, toList_madeCells_one]
 rw [← e]; exact h
set_option maxRecDepth 100000 in
set_option maxHeartbeats 400000 in
theorem readMap_c (s : ByteArray) (w : World) (hs : s.size ≤ 1000000000000) :
    Calls Tryz.prog 88 #[.string s] w (RowBool w (rdI s) (mapOk (rdX s s.size))) := by
 have hlen : ¬ (1 ≤ s.size ∧ s.size ≤ 7) → mapOk (rdX s s.size) = false := fun h => mapOk_len (by rw [rdX_len]; exact h)
 by_cases hz : 1 ≤ s.size ∧ s.size ≤ 7
 · clear hlen
   obtain ⟨h1, h7⟩ := hz
   obtain ⟨i0, hi, hz0, hz1, hz2⟩ := info_parts int_info
   obtain ⟨r, hr⟩ : ∃ r, r = mapOk (rdX s s.size) := ⟨_, rfl⟩
   have HE : Hid (rdI s = if r then rdX s s.size else []) := Lib.hid (by rw [hr]; rfl)
   rw [← hr]
   have HR := Lib.hid hr
   clear hr
   go_enter Tryz.func88, Tryz.ntmps88
   go_wp2_with (at_make; refine wpList_make_full _ rfl _ _ 23 rfl w.heap.size 3 i0 (.int .i64 0) 1 Tryz.underlying23 hi hz0 hz1 _ _ _ _ s.size rfl rfl rfl rfl (by rw [hz2]; omega) (by unfold maxLen; omega) (Nat.le_refl _) ?_)
   intro w1 hown1 hg1
   have hB1 : Below w.heap.size w w1 := (Below.refl _ _).grown hg1 (Nat.le_refl _) (fun k hk => by cases hk)
   have ho1 := fresh_row hown1
   rw [← rdT_zero] at ho1
   clear hown1 hg1
   go_wp2_with fail
   go_loopw [19] (fun i wr => ∃ k : Nat, k ≤ s.size ∧ i = .int .i64 k ∧ OwnIn wr w.heap.size (w.heap.size + 1) (some ⟨w.heap.size, 0, none⟩) s.size s.size (rdT s k) ∧ Below w.heap.size w wr) (fun i _ => s.size - (intOf i).toNat)
   case atStart => exact ⟨0, Nat.zero_le _, rfl, ho1, hB1⟩
   case round =>
    obtain ⟨k, hk, rfl, ho, hbw⟩ := hrel
    clear ho1 hB1 w1
    by_cases hlt : k < s.size
    · have HT := Lib.hid (rdT_succ s hlt)
      have hb : (s.get! k).toNat < 256 := (s.get! k).toNat_lt
      have hw0 : wrap64 ((s.get! k).toNat : Int) = ((s.get! k).toNat : Int) := by simp [wrap64]; omega
      have hw1 : wrap64 (((s.get! k).toNat : Int) - 48) = ((s.get! k).toNat : Int) - 48 := by simp [wrap64]; omega
      have hidx : (Instr.index 9 (.string s) (.int .i64 (k : Int))).run Tryz.prog wr = .ok (.int .u8 ((s.get! k).toNat : Int)) wr := by
       rw [run_index_string _ _ _ _ _ Tryz.underlying9]
       rw [dif_pos ⟨by omega, by omega⟩]
       rw [byte_get hlt]
       rfl
      have hold := ho.cell (j := k) hlt
      have hfz := ho.frozen k
      have HST := Lib.hid (ho.store k (((s.get! k).toNat : Int) - 48))
      have HB := Lib.hid hbw
      clear ho hbw
      generalize ((s.get! k).toNat : Int) = y at *
      go_wp2_with fail
      go_roundw
      case rel => exact ⟨k + 1, by omega, by go_num, by have := HST.out.1; rwa [HT.out] at this, HB.out.trans (HST.out.2.below' (Nat.le_refl _) (by have := HB.out.size; omega))⟩
      case measure => simp [intOf]; omega
    · have hks : k = s.size := by omega
      rw [hks, rdT_all] at ho
      have hrd := ho.rd
      have K1 := mapOk_c _ _ _ _ _ hrd
      rw [← HR.out] at K1
      have HO := Lib.hid ho
      clear ho hks hrd
      rcases r with _ | _
      · go_wp2_with (go_at_call 68; with_reducible refine K1.mono ?_; rintro e w' ⟨rfl, rfl⟩)
        go_ret2
        rw [HE.out]
        exact ⟨_, _, _, rfl, OwnIn.nil_ _ _ _, hbw⟩
      · go_wp2_with (go_at_call 68; with_reducible refine K1.mono ?_; rintro e w' ⟨rfl, rfl⟩)
        go_ret2
        rw [HE.out]
        exact ⟨_, _, _, rfl, HO.out.wide (Nat.le_refl _) (by have := (HO.out.lt w.heap.size rfl).2.2; omega), hbw⟩
 · have HM := Lib.hid (hlen hz)
   have HE := Lib.hid (rd_no (hlen hz))
   have hcase : s.size < 1 ∨ (1 ≤ s.size ∧ 7 < s.size) := by omega
   clear hlen hz
   rcases hcase with h1 | ⟨h1, h2⟩
   all_goals
    go_enter Tryz.func88, Tryz.ntmps88
    go_wp2_with fail
    go_ret2
    rw [HE.out, HM.out]
    exact ⟨_, _, _, rfl, OwnIn.nil_ _ _ _, Below.refl _ _⟩
set_option maxRecDepth 100000 in
set_option maxHeartbeats 400000 in
theorem turnedOf_c (A : Option Addr) (n c : Nat) (ys : List Int) (w : World) (h : Rd w w.heap.size A n c ys) :
    Calls Tryz.prog 175 #[.slice A n c] w (RowBool w (turI ys) (turB ys)) := by
 rcases hy : mapOk ys with _ | _
 · have HE : Hid (turI ys = []) := Lib.hid (by unfold turI; rw [hy]; rfl)
   have HB : Hid (turB ys = false) := Lib.hid (by unfold turB; rw [hy]; rfl)
   have K1 := mapOk_c _ _ _ _ _ h
   rw [hy] at K1
   clear hy
   go_enter Tryz.func175, Tryz.ntmps175
   go_wp2_with (go_at_call 68; with_reducible refine K1.mono ?_; rintro e w' ⟨rfl, rfl⟩)
   go_ret2
   rw [HE.out, HB.out]
   exact ⟨_, _, _, rfl, OwnIn.nil_ _ _ _, Below.refl _ _⟩
 · obtain ⟨g, rfl, hg⟩ := mapOk_ex hy
   have hl := h.len
   rw [ints_len] at hl
   subst hl
   have e1 : turI (ints g) = if turned g then ints (backN g) else [] := by unfold turI; rw [hy, toN_ints]; rfl
   have e2 : turB (ints g) = turned g := by unfold turB; rw [hy, toN_ints]; rfl
   rw [e1, e2]
   exact turnedOf_ok A c g w h hg
set_option maxRecDepth 100000 in
set_option maxHeartbeats 800000 in
theorem namedOf_N (A A' : Option Addr) (n c n' c' : Nat) (xs ys : List Int) (w : World) (h : Rd w w.heap.size A n c xs) (h' : Rd w w.heap.size A' n' c' ys) (hm : mapOk xs = true) :
    Calls Tryz.prog 144 #[.slice A n c, .slice A' n' c'] w (Row1N (namI xs ys) w) := by
 have hl := h.len
 have hl' := h'.len
 have hb7 := mapOk_bounds hm
 have K1 := mapOk_c _ _ _ _ _ h
 rw [hm] at K1
 by_cases hn : n = n'
 · subst hn
   have hqn : ((n : Int) != (n : Int)) = false := by simp
   have K2 := turnedOf_c A' n c' ys w h'
   rcases hy : mapOk ys with _ | _
   · have HE := Lib.hid (namI_no2 (xs := xs) hy)
     rw [show turB ys = false by unfold turB; rw [hy]; rfl] at K2
     generalize turI ys = zs at K2
     clear hm hy hl hl' hb7
     go_enter Tryz.func144, Tryz.ntmps144
     go_wp2_with (go_at_call 68; with_reducible refine K1.mono ?_; rintro e w' ⟨rfl, rfl⟩)
     refine K2.mono ?_
     rintro e w2 ⟨A2, n2, c2, rfl, hO2, hb2⟩
     go_wp2_with fail
     go_ret
     rw [HE.out]
     exact Row1N.nil_ hb2
   · obtain ⟨f, rfl, hf⟩ := mapOk_ex hm
     obtain ⟨g, rfl, hg⟩ := mapOk_ex hy
     rw [ints_len] at hl hl' hb7
     rcases ht : turned g with _ | _
     · have HE := Lib.hid (namI_no4 (xs := ints f) (ys := ints g) (by rw [toN_ints]; exact ht))
       rw [show turB (ints g) = false by unfold turB; rw [hy, toN_ints, ht]; rfl] at K2
       generalize turI (ints g) = zs at K2
       clear hm hy hl hl' hb7 ht
       go_enter Tryz.func144, Tryz.ntmps144
       go_wp2_with (go_at_call 68; with_reducible refine K1.mono ?_; rintro e w' ⟨rfl, rfl⟩)
       refine K2.mono ?_
       rintro e w2 ⟨A2, n2, c2, rfl, hO2, hb2⟩
       go_wp2_with fail
       go_ret
       rw [HE.out]
       exact Row1N.nil_ hb2
     · have hfg : f.length = g.length := by omega
       have HE := Lib.hid (namI_ok hf hg hfg ht)
       have HK := Lib.hid (namK_all hg hfg ht)
       have HNE : Hid (ints (namK f g f.length) ≠ []) := Lib.hid (by
        intro e
        have := congrArg List.length e
        rw [ints_len, namK_len] at this
        change f.length = 0 at this
        have := hf.pos
        omega)
       have HL : Hid (f.length = n) := Lib.hid hl
       have HG : Hid (g.length = n) := Lib.hid hl'
       rw [show turB (ints g) = true by unfold turB; rw [hy, toN_ints, ht]; rfl] at K2
       generalize turI (ints g) = zs at K2
       obtain ⟨b1, off1, rfl, hbb1, hcells1⟩ := h.2.2.2 (by omega)
       obtain ⟨b2, off2, rfl, hbb2, hcells2⟩ := h'.2.2.2 (by omega)
       have HC1 := Lib.hid hcells1
       have HC2 := Lib.hid hcells2
       have hcp := h.cap
       have hmx := h.max
       unfold maxLen at hmx
       have hn0 : 0 < n := by omega
       have hn7 : n ≤ 7 := by omega
       obtain ⟨i0, hi, hz0, hz1, hz2⟩ := info_parts int_info
       clear hm hy hl hl' hb7 ht hfg hcells1 hcells2
       go_enter Tryz.func144, Tryz.ntmps144
       go_wp2_with (go_at_call 68; with_reducible refine K1.mono ?_; rintro e w' ⟨rfl, rfl⟩)
       refine K2.mono ?_
       rintro e w2 ⟨A2, n2, c2, rfl, hO2, hb2⟩
       clear K2 hO2
       go_wp2_with (at_make; refine wpList_make_full _ rfl _ _ 23 rfl w2.heap.size 3 i0 (.int .i64 0) 1 Tryz.underlying23 hi hz0 hz1 _ _ _ _ n rfl rfl rfl rfl (by rw [hz2]; omega) (by unfold maxLen; omega) (Nat.le_refl _) ?_)
       intro w3 hown3 hg3
       have hB3 : Below w2.heap.size w2 w3 := (Below.refl _ _).grown hg3 (Nat.le_refl _) (fun k hk => by cases hk)
       have hbw3 := bt hb2 hB3
       have hz22 := hb2.size
       have ho3 : OwnIn w3 w2.heap.size (w2.heap.size + 1) (some ⟨w2.heap.size, 0, none⟩) n n (ints (namK f g 0)) := by
        have := fresh_row hown3
        rw [show ints (namK f g 0) = List.replicate n (0 : Int) by rw [namK, HL.out]; simp [ints]]
        exact this
       have hrd0 := h.up hb2
       clear hown3 hg3 hB3
       go_wp2_with fail
       go_loopw [32] (fun i wr => ∃ k : Nat, k ≤ n ∧ i = .int .i64 k ∧ OwnIn wr w2.heap.size (w2.heap.size + 1) (some ⟨w2.heap.size, 0, none⟩) n n (ints (namK f g k)) ∧ Below w.heap.size w wr ∧ w2.heap.size < wr.heap.size) (fun i _ => n - (intOf i).toNat)
       case atStart => exact ⟨0, Nat.zero_le _, rfl, ho3, hbw3, (ho3.lt w2.heap.size rfl).2.2⟩
       case round =>
        obtain ⟨k, hk, rfl, ho, hbw, hsw⟩ := hrel
        clear ho3 hbw3 w3
        by_cases hlt : k < n
        · have hx := hf.has k (by rw [HL.out]; exact hlt)
          have hy := hg.has k (by rw [HG.out]; exact hlt)
          rw [HL.out] at hx
          rw [HG.out] at hy
          have hyz := hg.has (nx f k) (by rw [HG.out]; exact hx)
          have hc1 := (hbw.cell (p := ⟨b1, off1 + k, none⟩) hbb1).trans (HC1.out k hlt)
          have hc2 := (hbw.cell (p := ⟨b2, off2 + k, none⟩) hbb2).trans (HC2.out k hlt)
          have hc3 := (hbw.cell (p := ⟨b2, off2 + nx f k, none⟩) hbb2).trans (HC2.out (nx f k) hx)
          rw [gI_ints] at hc1 hc2 hc3
          have hold := ho.cell (j := nx g k) hy
          have hfz := ho.frozen (nx g k)
          have HST := Lib.hid (ho.store (nx g k) ((nx g (nx f k) : Nat) : Int))
          have HT : Hid ((namK f g k).set (nx g k) (nx g (nx f k)) = namK f g (k + 1)) := Lib.hid rfl
          have HB := Lib.hid hbw
          have hp0 : (0 : Int) ≤ (nx g k : Int) := Int.natCast_nonneg _
          have hp1 : ((nx g k : Nat) : Int) < (n : Int) := by omega
          have hp2 : (0 : Int) ≤ (nx f k : Int) := Int.natCast_nonneg _
          have hp3 : ((nx f k : Nat) : Int) < (n : Int) := by omega
          have hp4 : (0 : Int) ≤ (k : Int) := Int.natCast_nonneg _
          have hp5 : (k : Int) < (n : Int) := by omega
          generalize nx g (nx f k) = z at *
          generalize nx g k = y at *
          generalize nx f k = x at *
          clear ho hbw
          go_wp2_with fail
          go_region
          all_goals
           go_wp2_with fail
           go_roundw
           case rel => exact ⟨k + 1, by omega, by go_num, by have := HST.out.1; rw [← ints_set, HT.out] at this; exact this, HB.out.trans ((HST.out.2.drewN 1).belowLo (by omega) (by omega)), by have := HST.out.2.size; exact Nat.lt_of_lt_of_le hsw this⟩
           case measure => simp [intOf]; omega
        · have hkn : k = n := by omega
          have HO : Hid (OwnIn wr w2.heap.size (w2.heap.size + 1) (some ⟨w2.heap.size, 0, none⟩) n n (ints (namK f g f.length))) := Lib.hid (by rw [HL.out, ← hkn]; rw [hkn]; rw [hkn] at ho; exact ho)
          clear ho hkn
          go_wp2_with fail
          go_ret
          refine ⟨_, _, _, rfl, ?_, hbw, ?_⟩
          · rw [HE.out, ← HK.out]; exact HO.out.wide hz22 (by omega)
          · rw [HE.out, ← HK.out]; intro e; exact absurd e HNE.out
 · have HE := Lib.hid (namI_no3 (xs := xs) (ys := ys) (by omega))
   have hq : ((n' : Int) != (n : Int)) = true := by rw [bne_iff_ne]; omega
   clear hm hl hl' hn hb7
   go_enter Tryz.func144, Tryz.ntmps144
   go_wp2_with (go_at_call 68; with_reducible refine K1.mono ?_; rintro e w' ⟨rfl, rfl⟩)
   go_ret
   rw [HE.out]
   exact Row1N.nil_ (Below.refl _ _)
end
section
open Go.RowKit
theorem Row1N.from_ {xs : List Int} {w w1 w' : World} {e : Ending} (h : Row1N xs w1 e w') (hb : Below w.heap.size w w1) : Row1N xs w e w' := by
 obtain ⟨A, n, c, h1, h2, h3, h4⟩ := h
 exact ⟨A, n, c, h1, h2.wide hb.size (Nat.le_refl _), bt hb h3, h4⟩
theorem at_has {xs : List Int} {t : Int} (hm : mapOk xs = true) : atOk xs t = hasB xs.length t := by unfold atOk; rw [hm]; rfl
set_option maxRecDepth 100000 in
set_option maxHeartbeats 400000 in
theorem chg_0n (A : Option Addr) (n c : Nat) (xs : List Int) (a b : Int) (s : ByteArray) (w : World) (h : Rd w w.heap.size A n c xs) (hs : s.size ≤ 1000000000000) (hm : mapOk xs = true) (hno : hasB n a = false ∨ (hasB n a = true ∧ hasB n b = false)) :
    Calls Tryz.prog 102 #[.agg #[.int .i64 0, .int .i64 a, .int .i64 b, .string s], .slice A n c] w (Row1N [] w) := by
 have hb1 : Below w.heap.size w (w.alloc (.cells #[.int .i64 0, .int .i64 a, .int .i64 b, .string s] 55)) := (Below.refl _ _).alloc (Nat.le_refl _) _
 have hF := Four.made w 55 0 a b s
 have hrd := h.up hb1
 obtain ⟨_, k0, k1, k2, k3⟩ := id hF
 have hl := h.len
 have KA := thingOk_c A n c xs a _ hrd
 have KB := thingOk_c A n c xs b _ hrd
 rw [at_has hm, hl] at KA KB
 clear hl hm
 rcases hno with h1 | ⟨h1, h2⟩
 all_goals
  go_enter Tryz.func102, Tryz.ntmps102
  first
   | rw [h1] at KA
   | skip
  first
   | rw [h2] at KB
   | skip
  clear h1
  go_wp2_with (first | (go_at_call 116; with_reducible refine KA.mono ?_; rintro e w' ⟨rfl, rfl⟩) | (go_at_call 116; with_reducible refine KB.mono ?_; rintro e w' ⟨rfl, rfl⟩))
  go_ret
  exact Row1N.nil_ hb1
set_option maxRecDepth 100000 in
set_option maxHeartbeats 400000 in
theorem chg_0y (A : Option Addr) (n c : Nat) (xs : List Int) (i j : Nat) (s : ByteArray) (w : World) (h : Rd w w.heap.size A n c xs) (hs : s.size ≤ 1000000000000) (hm : mapOk xs = true) (hi : i < n) (hj : j < n) :
    Calls Tryz.prog 102 #[.agg #[.int .i64 0, .int .i64 (i : Int), .int .i64 (j : Int), .string s], .slice A n c] w (Row1N (ledX xs (i : Int) (j : Int)) w) := by
 have hb1 : Below w.heap.size w (w.alloc (.cells #[.int .i64 0, .int .i64 (i : Int), .int .i64 (j : Int), .string s] 55)) := (Below.refl _ _).alloc (Nat.le_refl _) _
 have hF := Four.made w 55 0 (i : Int) (j : Int) s
 have hrd := h.up hb1
 obtain ⟨_, k0, k1, k2, k3⟩ := id hF
 have hl := h.len
 have hb7 := mapOk_bounds hm
 have KA := thingOk_c A n c xs (i : Int) _ hrd
 have KB := thingOk_c A n c xs (j : Int) _ hrd
 rw [at_has hm, hl, hasB_iff.2 (by omega)] at KA KB
 have HV : Hid (ledX xs (i : Int) (j : Int) = xs.set i (j : Int)) := Lib.hid (by unfold ledX; rw [hl, hasB_iff.2 (by omega), hasB_iff.2 (by omega)]; rfl)
 have HN : Hid (xs.set i (j : Int) ≠ []) := Lib.hid (by intro e; have := congrArg List.length e; rw [List.length_set] at this; change xs.length = 0 at this; omega)
 have hn0 : 0 < n := by omega
 have hn7 : n ≤ 1000000000000 := by omega
 clear hl hm hb7
 go_enter Tryz.func102, Tryz.ntmps102
 go_wp2_with (first | (go_at_call 116; with_reducible refine KA.mono ?_; rintro e w' ⟨rfl, rfl⟩) | (go_at_call 116; with_reducible refine KB.mono ?_; rintro e w' ⟨rfl, rfl⟩))
 generalize w.alloc (.cells #[.int .i64 0, .int .i64 (i : Int), .int .i64 (j : Int), .string s] 55) = w1 at *
 refine (clone_c A n c xs _ hrd hn0 hn7).mono ?_
 rintro e w2 ⟨A2, c2, rfl, hI2, hb2⟩
 have hF2 := hF.up hb2
 obtain ⟨_, p0, p1, p2, p3⟩ := hF2
 obtain ⟨g2, rfl⟩ := hI2.some_ hn0
 have hold := hI2.cell (j := i) hi
 have hfz := hI2.frozen i
 have hp0 : (0 : Int) ≤ (i : Int) := Int.natCast_nonneg _
 have hp1 : (i : Int) < (n : Int) := by omega
 have HST := Lib.hid (hI2.store i (j : Int))
 have hz1 := hb1.size
 have hz2 := hb2.size
 have hB := bt hb1 hb2
 clear hI2 hF k0 k1 k2 k3 KA KB
 go_wp2_with fail
 go_ret
 rw [HV.out]
 exact ⟨_, _, _, rfl, HST.out.1.wide hz1 HST.out.2.size, hB.trans (HST.out.2.belowLo (by omega) (by omega)), fun e => absurd e HN.out⟩
set_option maxRecDepth 100000 in
set_option maxHeartbeats 400000 in
theorem chg_1y (A : Option Addr) (n c : Nat) (xs : List Int) (a b : Int) (s : ByteArray) (w : World) (h : Rd w w.heap.size A n c xs) (hs : s.size ≤ 1000000000000) (hm : mapOk xs = true) :
    Calls Tryz.prog 102 #[.agg #[.int .i64 1, .int .i64 a, .int .i64 b, .string s], .slice A n c] w (Row1N (behI xs (rdI s)) w) := by
 have hb1 : Below w.heap.size w (w.alloc (.cells #[.int .i64 1, .int .i64 a, .int .i64 b, .string s] 55)) := (Below.refl _ _).alloc (Nat.le_refl _) _
 have hF := Four.made w 55 1 a b s
 have hrd := h.up hb1
 obtain ⟨_, k0, k1, k2, k3⟩ := id hF
 have K1 := readMap_c s (w.alloc (.cells #[.int .i64 1, .int .i64 a, .int .i64 b, .string s] 55)) hs
 go_enter Tryz.func102, Tryz.ntmps102
 go_wp2_with fail
 generalize w.alloc (.cells #[.int .i64 1, .int .i64 a, .int .i64 b, .string s] 55) = w1 at *
 refine K1.mono ?_
 rintro e w2 ⟨A2, n2, c2, rfl, hO2, hb2⟩
 have hr2 := hrd.up hb2
 have hrI := hO2.rd
 have hF2 := hF.up hb2
 obtain ⟨_, p0, p1, p2, p3⟩ := hF2
 have hB := bt hb1 hb2
 clear K1 hF k0 k1 k2 k3 hb1 hb2 hO2 hrd
 go_wp2_with fail
 refine (behindOf_N _ _ _ _ _ _ _ _ _ hr2 hrI hm).mono ?_
 rintro e w3 hrow
 have hrow2 := hrow.from_ hB
 clear hrow
 obtain ⟨A3, n3, c3, rfl, hx1, hx2, hx3⟩ := hrow2
 have HX := Lib.hid hx3
 clear hx3
 go_wp2_with fail
 go_ret
 exact ⟨_, _, _, rfl, hx1, hx2, HX.out⟩
set_option maxRecDepth 100000 in
set_option maxHeartbeats 400000 in
theorem chg_3y (A : Option Addr) (n c : Nat) (xs : List Int) (a b : Int) (s : ByteArray) (w : World) (h : Rd w w.heap.size A n c xs) (hs : s.size ≤ 1000000000000) (hm : mapOk xs = true) :
    Calls Tryz.prog 102 #[.agg #[.int .i64 3, .int .i64 a, .int .i64 b, .string s], .slice A n c] w (Row1N (namI xs (rdI s)) w) := by
 have hb1 : Below w.heap.size w (w.alloc (.cells #[.int .i64 3, .int .i64 a, .int .i64 b, .string s] 55)) := (Below.refl _ _).alloc (Nat.le_refl _) _
 have hF := Four.made w 55 3 a b s
 have hrd := h.up hb1
 obtain ⟨_, k0, k1, k2, k3⟩ := id hF
 have K1 := readMap_c s (w.alloc (.cells #[.int .i64 3, .int .i64 a, .int .i64 b, .string s] 55)) hs
 go_enter Tryz.func102, Tryz.ntmps102
 go_wp2_with fail
 generalize w.alloc (.cells #[.int .i64 3, .int .i64 a, .int .i64 b, .string s] 55) = w1 at *
 refine K1.mono ?_
 rintro e w2 ⟨A2, n2, c2, rfl, hO2, hb2⟩
 have hr2 := hrd.up hb2
 have hrI := hO2.rd
 have hF2 := hF.up hb2
 obtain ⟨_, p0, p1, p2, p3⟩ := hF2
 have hB := bt hb1 hb2
 clear K1 hF k0 k1 k2 k3 hb1 hb2 hO2 hrd
 go_wp2_with fail
 refine (namedOf_N _ _ _ _ _ _ _ _ _ hr2 hrI hm).mono ?_
 rintro e w3 hrow
 have hrow2 := hrow.from_ hB
 clear hrow
 obtain ⟨A3, n3, c3, rfl, hx1, hx2, hx3⟩ := hrow2
 have HX := Lib.hid hx3
 clear hx3
 go_wp2_with fail
 go_ret
 exact ⟨_, _, _, rfl, hx1, hx2, HX.out⟩
set_option maxRecDepth 100000 in
set_option maxHeartbeats 400000 in
theorem chg_2y (A : Option Addr) (n c : Nat) (xs : List Int) (a b : Int) (s : ByteArray) (w : World) (h : Rd w w.heap.size A n c xs) (hs : s.size ≤ 1000000000000) (hm : mapOk xs = true) :
    Calls Tryz.prog 102 #[.agg #[.int .i64 2, .int .i64 a, .int .i64 b, .string s], .slice A n c] w (Row1N (powI xs a) w) := by
 have hb1 : Below w.heap.size w (w.alloc (.cells #[.int .i64 2, .int .i64 a, .int .i64 b, .string s] 55)) := (Below.refl _ _).alloc (Nat.le_refl _) _
 have hF := Four.made w 55 2 a b s
 have hrd := h.up hb1
 obtain ⟨_, k0, k1, k2, k3⟩ := id hF
 clear hs
 go_enter Tryz.func102, Tryz.ntmps102
 go_wp2_with fail
 generalize w.alloc (.cells #[.int .i64 2, .int .i64 a, .int .i64 b, .string s] 55) = w1 at *
 refine (powerOf_N _ _ _ _ _ _ hrd hm).mono ?_
 rintro e w3 hrow
 have hrow2 := hrow.from_ hb1
 clear hrow
 obtain ⟨A3, n3, c3, rfl, hx1, hx2, hx3⟩ := hrow2
 have HX := Lib.hid hx3
 clear hx3
 go_wp2_with fail
 go_ret
 exact ⟨_, _, _, rfl, hx1, hx2, HX.out⟩
set_option maxRecDepth 100000 in
set_option maxHeartbeats 400000 in
theorem chg_on (A : Option Addr) (n c : Nat) (xs : List Int) (kd a b : Int) (s : ByteArray) (w : World) (h : Rd w w.heap.size A n c xs) (hs : s.size ≤ 1000000000000) (hm : mapOk xs = true) (h0 : ¬ kd = 0) (h1 : ¬ kd = 1) (h2 : ¬ kd = 2) (h3 : ¬ kd = 3) :
    Calls Tryz.prog 102 #[.agg #[.int .i64 kd, .int .i64 a, .int .i64 b, .string s], .slice A n c] w (Row1N [] w) := by
 have hb1 : Below w.heap.size w (w.alloc (.cells #[.int .i64 kd, .int .i64 a, .int .i64 b, .string s] 55)) := (Below.refl _ _).alloc (Nat.le_refl _) _
 have hF := Four.made w 55 kd a b s
 have hrd := h.up hb1
 obtain ⟨_, k0, k1, k2, k3⟩ := id hF
 have q0 := neqz h0
 have q1 : (kd == 1) = false := by simpa using h1
 have q2 : (kd == 2) = false := by simpa using h2
 have q3 : (kd == 3) = false := by simpa using h3
 clear h0 h1 h2 h3 hs hm
 go_enter Tryz.func102, Tryz.ntmps102
 go_wp2_with fail
 go_ret
 exact Row1N.nil_ hb1
theorem changed_c (A : Option Addr) (n c : Nat) (xs : List Int) (kd a b : Int) (s : ByteArray) (w : World) (h : Rd w w.heap.size A n c xs) (hs : s.size ≤ 1000000000000) (hm : mapOk xs = true) :
    Calls Tryz.prog 102 #[.agg #[.int .i64 kd, .int .i64 a, .int .i64 b, .string s], .slice A n c] w (Row1N (chgI xs kd a b s) w) := by
 have hln := h.len
 by_cases h0 : kd = 0
 · subst h0
   rw [chg_0]
   by_cases hi : hasB n a = true ∧ hasB n b = true
   · obtain ⟨hi1, hi2⟩ := hi
     rw [hasB_iff] at hi1 hi2
     obtain ⟨i, rfl⟩ := Int.eq_ofNat_of_zero_le hi1.1
     obtain ⟨j, rfl⟩ := Int.eq_ofNat_of_zero_le hi2.1
     exact chg_0y A n c xs i j s w h hs hm (by omega) (by omega)
   · have hno : hasB n a = false ∨ (hasB n a = true ∧ hasB n b = false) := by
      rcases h1 : hasB n a with _ | _
      · exact .inl rfl
      · rcases h2 : hasB n b with _ | _
        · exact .inr ⟨rfl, rfl⟩
        · exact absurd ⟨h1, h2⟩ hi
     have e2 : ledX xs a b = [] := by
      unfold ledX; rw [hln]
      rcases hno with h1 | ⟨h1, h2⟩
      · rw [h1]; rfl
      · rw [h1, h2]; rfl
     rw [e2]
     exact chg_0n A n c xs a b s w h hs hm hno
 by_cases h1 : kd = 1
 · subst h1; rw [chg_1]; exact chg_1y A n c xs a b s w h hs hm
 by_cases h2 : kd = 2
 · subst h2; rw [chg_2]; exact chg_2y A n c xs a b s w h hs hm
 by_cases h3 : kd = 3
 · subst h3; rw [chg_3]; exact chg_3y A n c xs a b s w h hs hm
 rw [chg_o xs a b s h0 h1 h2 h3]
 exact chg_on A n c xs kd a b s w h hs hm h0 h1 h2 h3
end
end Go.Proofs.YtoinlkdmfclnbaaGreatDoor
