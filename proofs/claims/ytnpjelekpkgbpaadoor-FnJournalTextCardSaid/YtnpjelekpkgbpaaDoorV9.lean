/- Plain laws: how many things are led to one; images and leaves; the map that leads all to one thing. · Plain laws: a table that is filled from its first place on. · Plain laws: powers of maps. · Walks: l20Code, l20Tree, the drawings of trees and codes (spec). Printed by gen_w45.py. · Walks: LotsOf (impl); the law FnTreeOk. · Walks: SameOf, BehindOf, powerOf, PowerOf (impl). · Walk: SameOf of the reference. · Walks: BehindOf of the reference. · Walks: PowerOf of the reference. · Plain laws: maps turned round, and named anew. · Walks: TurnedOf and NamedOf of the reference. · Walks: NamedOf of the reference. · Walks: l6Same, l1Number of a digit, MapText, ReadMap of the reference. · Walks: l1Number of a digit, MapText of the reference. · Walk: MapText of the reference. · Walk: ReadMap of the reference. · Walk: PowerOf of the reference, whatever the row. · Walk: l20Names of the reference. -/
import Derived.Lib.SlBytesRow
import Derived.Lib.MinMax
import Derived.Test.YtnpjelekpkgbpaaDoorP
import Derived.Test.YtnpjelekpkgbpaaDoorV8
import Derived.Test.YtnpjelekpkgbpaaDoorV4
import Derived.Test.YtnpjelekpkgbpaaDoorV3
import Derived.Test.YtnpjelekpkgbpaaDoorQ
import Derived.Test.YtnpjelekpkgbpaaDoorV5
namespace Go.Proofs.YtnpjelekpkgbpaaDoor
set_option linter.unusedVariables false

theorem fromX_count (f : List Nat) (t : Nat) : ∀ k, k ≤ f.length → (fromX (ints f) (t : Int) k).length = (f.take k).count t
  | 0, _ => by simp [fromX]
  | k + 1, hk => by
    have ih := fromX_count f t k (by omega)
    rw [List.take_succ_eq_append_getElem (by omega), List.count_append, ← ih, List.count_singleton]
    have e : gI (ints f) k = ((f[k]'(by omega) : Nat) : Int) := by rw [gI_ints, nx_get (by omega)]
    by_cases h : f[k]'(by omega) = t
    · rw [fromX_t (by rw [e, h]), List.length_append]; simp [h]
    · rw [fromX_f (by rw [e]; omega)]; simp [h]
theorem fromI_count {f : List Nat} (hf : MapN f) (t : Nat) : (fromI (ints f) (t : Int)).length = f.count t := by
  rw [fromI_ok _ (mapOk_ints hf), fromX_count _ _ _ (by rw [ints_len]; exact Nat.le_refl _), ints_len, List.take_length]
/-- the map that leads all to the first thing -/
theorem zero_tree (n : Nat) (h1 : 1 ≤ n) (h7 : n ≤ 7) : TreeN (List.replicate n 0) 0 := by
  have hz : ∀ k, nx (List.replicate n 0) k = 0 := fun k => by
    unfold nx; simp only [List.getD, List.getElem?_replicate]; split <;> rfl
  refine ⟨⟨by simpa using h1, by simpa using h7, fun k hk => by rw [hz]; simp; omega⟩, by simp; omega, hz 0, fun k hk => ⟨1, by rw [it_one, hz]⟩⟩
/-- a tree is a map with one loop of one thing -/
theorem treeB_iff {f : List Nat} (hf : MapN f) : treeOkI (ints f) = true ↔ nx f (lo f 0) = lo f 0 ∧ ∀ k, k < f.length → lo f k = lo f 0 := by
  constructor
  · intro h
    obtain ⟨g, e, hg, h1, h2⟩ := tree_ex h
    obtain rfl : f = g := by
      have := congrArg toN e
      rwa [toN_ints, toN_ints] at this
    have hT := treeN_of hf h1 h2
    exact ⟨hT.fix, fun k hk => by rw [hT.lo hk]⟩
  · rintro ⟨h1, h2⟩
    have h0 := lo_lt hf (k := 0) hf.pos
    exact treeOkI_tree (r := lo f 0) ⟨hf, h0, h1, fun k hk => by
      obtain ⟨i, _, _, e⟩ := lo_mem hf hk
      exact ⟨i, by rw [e, h2 k hk]⟩⟩
end Go.Proofs.YtnpjelekpkgbpaaDoor
namespace Go.Proofs.YtnpjelekpkgbpaaDoor
set_option linter.unusedVariables false

/-- g 0, .., g (k - 1), and noughts up to n -/
def tab (g : Nat → Nat) (n k : Nat) : List Nat := (List.range n).map (fun j => if j < k then g j else 0)
theorem tab_len (g : Nat → Nat) (n k : Nat) : (tab g n k).length = n := by simp [tab]
theorem tab_zero (g : Nat → Nat) (n : Nat) : tab g n 0 = List.replicate n 0 := by
  apply List.ext_getElem (by simp [tab_len])
  intro k h1 h2
  simp [tab]
theorem tab_succ (g : Nat → Nat) {n k : Nat} (hk : k < n) : (tab g n k).set k (g k) = tab g n (k + 1) := by
  apply List.ext_getElem (by simp [tab_len])
  intro j h1 h2
  rw [List.getElem_set]
  simp only [tab, List.getElem_map, List.getElem_range]
  split
  · rename_i e; subst e; rw [if_pos (by omega)]
  · rename_i e
    by_cases h : j < k
    · rw [if_pos h, if_pos (by omega)]
    · rw [if_neg h, if_neg (by omega)]
theorem tab_all (g : Nat → Nat) (n : Nat) : tab g n n = (List.range n).map g := by
  unfold tab
  exact List.map_congr_left (fun j hj => by rw [if_pos (by simpa using hj)])
theorem nx_tab {g : Nat → Nat} {n k j : Nat} (hj : j < n) : nx (tab g n k) j = if j < k then g j else 0 := by
  rw [nx_get (by rw [tab_len]; exact hj)]; simp [tab]
theorem nx_maps {g : Nat → Nat} {n j : Nat} (hj : j < n) : nx ((List.range n).map g) j = g j := by
  rw [nx_get (by simpa using hj)]; simp
/-- Whether the loop of the first thing is of one thing alone, and the first k things have it. -/
def oneK (f : List Nat) : Nat → Bool
  | 0 => nx f (lo f 0) == lo f 0
  | k + 1 => oneK f k && (lo f k == lo f 0)
theorem oneK_iff (f : List Nat) : ∀ k, oneK f k = true ↔ nx f (lo f 0) = lo f 0 ∧ ∀ j, j < k → lo f j = lo f 0
  | 0 => by simp [oneK]
  | k + 1 => by
    rw [oneK, Bool.and_eq_true, oneK_iff f k, beq_iff_eq]
    constructor
    · rintro ⟨⟨h1, h2⟩, h3⟩
      refine ⟨h1, fun j hj => ?_⟩
      rcases Nat.lt_or_ge j k with h | h
      · exact h2 j h
      · obtain rfl : j = k := by omega
        exact h3
    · rintro ⟨h1, h2⟩
      exact ⟨⟨h1, fun j hj => h2 j (by omega)⟩, h2 k (by omega)⟩
theorem treeB_one {f : List Nat} (hf : MapN f) : treeOkI (ints f) = oneK f f.length := by
  rw [Bool.eq_iff_iff, treeB_iff hf, oneK_iff]
end Go.Proofs.YtnpjelekpkgbpaaDoor
namespace Go.Proofs.YtnpjelekpkgbpaaDoor
set_option linter.unusedVariables false

/-- f, and then g -/
def behN (f g : List Nat) : List Nat := (List.range f.length).map (fun k => nx g (nx f k))
theorem behN_len (f g : List Nat) : (behN f g).length = f.length := by simp [behN]
theorem nx_behN {f g : List Nat} {k : Nat} (hk : k < f.length) : nx (behN f g) k = nx g (nx f k) := nx_maps hk
theorem behN_map {f g : List Nat} (hf : MapN f) (hg : MapN g) (hl : f.length = g.length) : MapN (behN f g) :=
  ⟨by rw [behN_len]; exact hf.pos, by rw [behN_len]; exact hf.le7, fun k hk => by
    rw [behN_len] at hk ⊢
    rw [nx_behN hk]
    have := hg.has _ (by rw [← hl]; exact hf.has k hk)
    omega⟩
/-- f so many times -/
def powN (f : List Nat) (t : Nat) : List Nat := (List.range f.length).map (it f t)
theorem powN_len (f : List Nat) (t : Nat) : (powN f t).length = f.length := by simp [powN]
theorem nx_powN {f : List Nat} {t k : Nat} (hk : k < f.length) : nx (powN f t) k = it f t k := nx_maps hk
theorem powN_map {f : List Nat} (hf : MapN f) (t : Nat) : MapN (powN f t) :=
  ⟨by rw [powN_len]; exact hf.pos, by rw [powN_len]; exact hf.le7, fun k hk => by rw [powN_len] at hk ⊢; rw [nx_powN hk]; exact it_lt hf hk t⟩
theorem powN_beh {f : List Nat} (hf : MapN f) (a b : Nat) : behN (powN f a) (powN f b) = powN f (b + a) := by
  refine lists_eq (by rw [behN_len, powN_len, powN_len]) (fun k hk => ?_)
  rw [behN_len, powN_len] at hk
  rw [nx_behN (by rw [powN_len]; exact hk), nx_powN hk, nx_powN hk, nx_powN (it_lt hf hk a), it_add]
theorem powN_one {f : List Nat} : powN f 1 = f := by
  refine lists_eq (powN_len f 1) (fun k hk => ?_)
  rw [powN_len] at hk
  rw [nx_powN hk, it_one]
theorem powN_half {f : List Nat} (hf : MapN f) {t : Nat} (h : t % 2 = 0) : behN (powN f (t / 2)) (powN f (t / 2)) = powN f t := by
  rw [powN_beh hf]; congr 1; omega
theorem powN_odd {f : List Nat} (hf : MapN f) {t : Nat} (h : t % 2 = 1) : behN (behN (powN f (t / 2)) (powN f (t / 2))) f = powN f t := by
  rw [powN_beh hf]
  have := powN_beh hf (t / 2 + t / 2) 1
  rw [powN_one] at this
  rw [this]; congr 1; omega
theorem same_pow (f : List Nat) : (List.range f.length).map (fun k => k) = powN f 0 := by
  unfold powN; exact List.map_congr_left (fun j _ => rfl)
def behI (xs ys : List Int) : List Int := if mapOk xs && mapOk ys && decide (xs.length = ys.length) then ints (behN (toN xs) (toN ys)) else []
theorem behI_ok {f g : List Nat} (hf : MapN f) (hg : MapN g) (hl : f.length = g.length) : behI (ints f) (ints g) = ints (behN f g) := by
  unfold behI; rw [mapOk_ints hf, mapOk_ints hg, ints_len, ints_len, decide_eq_true hl, toN_ints, toN_ints]; rfl
theorem behI_no1 {xs : List Int} (ys : List Int) (h : mapOk xs = false) : behI xs ys = [] := by unfold behI; rw [h]; rfl
theorem behI_no2 {xs ys : List Int} (h : mapOk ys = false) : behI xs ys = [] := by unfold behI; rw [h, Bool.and_false]; rfl
theorem behI_no3 {xs ys : List Int} (h : ¬ xs.length = ys.length) : behI xs ys = [] := by unfold behI; rw [decide_eq_false h, Bool.and_false]; rfl
def powI (xs : List Int) (t : Int) : List Int := if mapOk xs && inB t 0 1000000 then ints (powN (toN xs) t.toNat) else []
theorem powI_ok {f : List Nat} {t : Nat} (hf : MapN f) (ht : t ≤ 1000000) : powI (ints f) (t : Int) = ints (powN f t) := by
  unfold powI
  have : inB (t : Int) 0 1000000 = true := by rw [inB_iff]; omega
  rw [mapOk_ints hf, this, toN_ints]; simp
theorem powI_no1 {xs : List Int} (t : Int) (h : mapOk xs = false) : powI xs t = [] := by unfold powI; rw [h]; rfl
theorem powI_no2 {xs : List Int} {t : Int} (h : inB t 0 1000000 = false) : powI xs t = [] := by unfold powI; rw [h, Bool.and_false]; rfl
end Go.Proofs.YtnpjelekpkgbpaaDoor
namespace Go.Proofs.YtnpjelekpkgbpaaDoor
set_option linter.unusedVariables false
open Go.RowKit

/-- A drawing function of one row, over a reader. -/
def RowDrawn (w : World) (lo g p : Nat) (e : Ending) (w' : World) : Prop :=
  ∃ (A : Option Addr) (n c : Nat) (xs : List Int), e = .returned (.slice A n c) ∧ OwnIn w' w.heap.size w'.heap.size A n c xs ∧ Rdr w' lo g p ∧ Chg g (g + 1) w w'
def RowOut (w : World) (e : Ending) (w' : World) : Prop :=
  ∃ (A : Option Addr) (n c : Nat) (xs : List Int), e = .returned (.slice A n c) ∧ OwnIn w' w.heap.size w'.heap.size A n c xs ∧ Below w.heap.size w w'
end Go.Proofs.YtnpjelekpkgbpaaDoor
namespace Go.Proofs.YtnpjelekpkgbpaaDoor
set_option linter.unusedVariables false
open Go.RowKit

/-- a table just made, of noughts -/
theorem tab_start {w : World} {B n : Nat} (g : Nat → Nat) (h : w.ownsRow B 3 1 (.slice (some ⟨B, 0, none⟩) n n) n (madeCells #[Value.int .i64 0] n).toList) :
    OwnIn w B (B + 1) (some ⟨B, 0, none⟩) n n (ints (tab g n 0)) := by
  rw [tab_zero]
  refine ⟨⟨by rw [ints_len]; simp, ?_⟩, fun k hk => by cases hk; exact Nat.lt_succ_self _⟩
  rw [ints_replicate, List.map_replicate]
  simpa [toList_madeCells_one, Value.cells] using h
theorem OwnIn.all_ {w : World} {B n c : Nat} {A : Option Addr} {xs : List Int} {g : Nat} (h : OwnIn w B g A n c xs) (hg : g ≤ w.heap.size) : OwnIn w B w.heap.size A n c xs := h.wide (Nat.le_refl _) hg
def lotsN (f : List Nat) : List Nat := (List.range f.length).map (lo f)
theorem lotsN_len (f : List Nat) : (lotsN f).length = f.length := by simp [lotsN]
end Go.Proofs.YtnpjelekpkgbpaaDoor
namespace Go.Proofs.YtnpjelekpkgbpaaDoor
set_option linter.unusedVariables false
open Go.RowKit

theorem Row1.eq_ {xs ys : List Int} {w w' : World} {e : Ending} (h : Row1 xs w e w') (he : xs = ys) : Row1 ys w e w' := by rw [← he]; exact h

end Go.Proofs.YtnpjelekpkgbpaaDoor
namespace Go.Proofs.YtnpjelekpkgbpaaDoor
set_option linter.unusedVariables false
open Go.RowKit

/-- the first k things, as they are -/
def smX (k : Nat) : List Int := ints ((List.range k).map (fun j => j))
theorem smX_len (k : Nat) : (smX k).length = k := by simp [smX, ints_len]
theorem smX_succ (k : Nat) : smX (k + 1) = smX k ++ [(k : Int)] := by simp [smX, ints, List.range_succ]
end Go.Proofs.YtnpjelekpkgbpaaDoor
namespace Go.Proofs.YtnpjelekpkgbpaaDoor
set_option linter.unusedVariables false
open Go.RowKit

theorem sMapOk_b (A : Option Addr) (n c : Nat) (xs : List Int) (b : Bool) (w : World) (h : Rd w w.heap.size A n c xs) (hb : mapOk xs = b) :
    Calls Tryd.prog 55 #[.slice A n c] w fun e w' => e = .returned (.bool b) ∧ w = w' := by
  subst hb
  exact sMapOk_c _ _ _ _ _ h
/-- the first k of f, and then g -/
def behX (f g : List Nat) (k : Nat) : List Int := ints ((List.range k).map (fun j => nx g (nx f j)))
theorem behX_len (f g : List Nat) (k : Nat) : (behX f g k).length = k := by simp [behX, ints_len]
theorem behX_succ (f g : List Nat) (k : Nat) : behX f g (k + 1) = behX f g k ++ [((nx g (nx f k) : Nat) : Int)] := by simp [behX, ints, List.range_succ]
end Go.Proofs.YtnpjelekpkgbpaaDoor
namespace Go.Proofs.YtnpjelekpkgbpaaDoor
set_option linter.unusedVariables false
open Go.RowKit

theorem pw_odd {a s m t : Nat} (h : a + s * m = t) (hm : m % 2 = 1) : s + a + (s + s) * (m / 2) = t := by
  have h2 : s * m = s * (2 * (m / 2) + 1) := congrArg (s * ·) (by omega)
  rw [h2, Nat.mul_add, Nat.mul_left_comm] at h
  rw [Nat.add_mul]
  omega
theorem pw_even {a s m t : Nat} (h : a + s * m = t) (hm : m % 2 = 0) : a + (s + s) * (m / 2) = t := by
  have h2 : s * m = s * (2 * (m / 2)) := congrArg (s * ·) (by omega)
  rw [h2, Nat.mul_left_comm] at h
  rw [Nat.add_mul]
  omega
end Go.Proofs.YtnpjelekpkgbpaaDoor
namespace Go.Proofs.YtnpjelekpkgbpaaDoor
set_option linter.unusedVariables false

theorem turned_inj {f : List Nat} (ht : turned f = true) {i j : Nat} (hi : i < f.length) (hj : j < f.length) (he : nx f i = nx f j) : i = j := by
  unfold turned at ht
  rw [decide_eq_true_eq] at ht
  rw [nx_get hi, nx_get hj] at he
  exact (List.getElem_inj ht).1 he
theorem nx_backK {f : List Nat} (hf : MapN f) (ht : turned f = true) : ∀ j, j ≤ f.length → ∀ i, i < j → nx (backK f j) (nx f i) = i
  | 0, _, i, hi => by omega
  | j + 1, hj, i, hi => by
    have hx := hf.has i (by omega)
    rw [backK, nx_set (by rw [backK_len]; exact hx)]
    by_cases he : nx f j = nx f i
    · rw [if_pos he]; exact turned_inj ht (by omega) (by omega) he
    · rw [if_neg he]
      refine nx_backK hf ht j (by omega) i ?_
      rcases Nat.lt_or_ge i j with h | h
      · exact h
      · exfalso; apply he; rw [show i = j by omega]
theorem nx_back {f : List Nat} (hf : MapN f) (ht : turned f = true) {i : Nat} (hi : i < f.length) : nx (backN f) (nx f i) = i := nx_backK hf ht f.length (Nat.le_refl _) i hi
theorem turned_has {f : List Nat} (hf : MapN f) (ht : turned f = true) {k : Nat} (hk : k < f.length) : ∃ i, i < f.length ∧ nx f i = k := by
  unfold turned at ht
  rw [decide_eq_true_eq] at ht
  obtain ⟨i, hi, e⟩ := List.mem_iff_getElem.1 (nodup_all hf ht hk)
  exact ⟨i, hi, by rw [nx_get hi]; exact e⟩
theorem back_len (f : List Nat) : (backN f).length = f.length := backK_len f _
theorem back_map {f : List Nat} (hf : MapN f) (ht : turned f = true) : MapN (backN f) :=
  ⟨by rw [back_len]; exact hf.pos, by rw [back_len]; exact hf.le7, fun k hk => by
    rw [back_len] at hk ⊢
    obtain ⟨i, hi, rfl⟩ := turned_has hf ht hk
    rw [nx_back hf ht hi]; exact hi⟩
theorem fromX_one {f : List Nat} (ht : turned f = true) {i : Nat} (hi : i < f.length) : ∀ m, m ≤ f.length → fromX (ints f) ((nx f i : Nat) : Int) m = if i < m then [(i : Int)] else []
  | 0, _ => by simp [fromX]
  | m + 1, hm => by
    have ih := fromX_one ht hi m (by omega)
    by_cases he : nx f m = nx f i
    · have hmi := turned_inj ht (by omega) hi he
      subst hmi
      rw [fromX_t (by rw [gI_ints]), ih, if_neg (by omega), if_pos (by omega)]; rfl
    · rw [fromX_f (by rw [gI_ints]; omega), ih]
      have hne : i ≠ m := fun e => he (by rw [e])
      by_cases h2 : i < m
      · rw [if_pos h2, if_pos (by omega)]
      · rw [if_neg h2, if_neg (by omega)]
theorem fromI_one {f : List Nat} (hf : MapN f) (ht : turned f = true) {k : Nat} (hk : k < f.length) : fromI (ints f) (k : Int) = [((nx (backN f) k : Nat) : Int)] := by
  obtain ⟨i, hi, rfl⟩ := turned_has hf ht hk
  rw [fromI_ok _ (mapOk_ints hf), ints_len, fromX_one ht hi _ (Nat.le_refl _), if_pos hi, nx_back hf ht hi]
theorem turned_ones {f : List Nat} (hf : MapN f) (h : ∀ k, k < f.length → (fromI (ints f) (k : Int)).length = 1) : turned f = true := by
  unfold turned
  rw [decide_eq_true_eq]
  refine all_nodup (fun j hj => ?_)
  have h2 := h j hj
  rw [fromI_count hf] at h2
  exact List.count_pos_iff.1 (by omega)
/-- A map named anew. -/
def namI (xs ys : List Int) : List Int := if mapOk xs && mapOk ys && decide (xs.length = ys.length) && turned (toN ys) then ints (behN (behN (backN (toN ys)) (toN xs)) (toN ys)) else []
theorem namI_ok {f g : List Nat} (hf : MapN f) (hg : MapN g) (hl : f.length = g.length) (ht : turned g = true) : namI (ints f) (ints g) = ints (behN (behN (backN g) f) g) := by
  unfold namI; rw [mapOk_ints hf, mapOk_ints hg, ints_len, ints_len, decide_eq_true hl, toN_ints, toN_ints, ht]; rfl
theorem namI_no1 {xs : List Int} (ys : List Int) (h : mapOk xs = false) : namI xs ys = [] := by unfold namI; rw [h]; rfl
theorem namI_no2 {xs ys : List Int} (h : mapOk ys = false) : namI xs ys = [] := by unfold namI; rw [h, Bool.and_false]; rfl
theorem namI_no3 {xs ys : List Int} (h : ¬ xs.length = ys.length) : namI xs ys = [] := by unfold namI; rw [decide_eq_false h, Bool.and_false]; rfl
theorem namI_no4 {xs ys : List Int} (h : turned (toN ys) = false) : namI xs ys = [] := by unfold namI; rw [h, Bool.and_false]; rfl
end Go.Proofs.YtnpjelekpkgbpaaDoor
namespace Go.Proofs.YtnpjelekpkgbpaaDoor
set_option linter.unusedVariables false
open Go.RowKit

theorem OwnV.rowB {xs : List Int} {w w' : World} {v : Value} (b : Bool) (hO : OwnV w' w.heap.size v xs) (hb : Below w.heap.size w w') : RowBool w xs b (.returned (.tuple #[v, .bool b])) w' := by
  obtain ⟨A, c, rfl, hI⟩ := hO.slice_
  exact ⟨A, _, c, rfl, hI, hb⟩
/-- the first k things of a row -/
def tkX (f : List Nat) (k : Nat) : List Int := ints ((List.range k).map (nx f))
theorem tkX_len (f : List Nat) (k : Nat) : (tkX f k).length = k := by simp [tkX, ints_len]
theorem tkX_succ (f : List Nat) (k : Nat) : tkX f (k + 1) = tkX f k ++ [((nx f k : Nat) : Int)] := by simp [tkX, ints, List.range_succ]
theorem tkX_all (f : List Nat) : tkX f f.length = ints f := by
  unfold tkX
  congr 1
  refine lists_eq (by simp) (fun k hk => ?_)
  rw [List.length_map, List.length_range] at hk
  exact nx_maps hk
def turI (xs : List Int) : List Int := if mapOk xs && turned (toN xs) then ints (backN (toN xs)) else []
def turB (xs : List Int) : Bool := mapOk xs && turned (toN xs)
end Go.Proofs.YtnpjelekpkgbpaaDoor
namespace Go.Proofs.YtnpjelekpkgbpaaDoor
set_option linter.unusedVariables false
open Go.RowKit

end Go.Proofs.YtnpjelekpkgbpaaDoor
namespace Go.Proofs.YtnpjelekpkgbpaaDoor
set_option linter.unusedVariables false
open Go.RowKit

end Go.Proofs.YtnpjelekpkgbpaaDoor
namespace Go.Proofs.YtnpjelekpkgbpaaDoor
set_option linter.unusedVariables false
open Go.RowKit

/-- the text of one digit -/
def dig (d : Nat) : ByteArray := ⟨#[UInt8.ofNat (48 + d)]⟩
theorem dig_bytes (d b : Nat) (w : World) (hd : d ≤ 9) (h : w.cell? ⟨b, 0, none⟩ = some (.int .u8 (48 + (d : Int)))) : Lib.Bytes w b 0 (dig d) := by
  intro i hi
  obtain rfl : i = 0 := by have : (dig d).size = 1 := rfl; omega
  rw [Nat.add_zero, h]
  show some (Value.int .u8 (48 + (d : Int))) = some (Value.int .u8 (((UInt8.ofNat (48 + d)).toNat : Nat) : Int))
  have : (UInt8.ofNat (48 + d)).toNat = 48 + d := by rw [UInt8.toNat_ofNat']; omega
  rw [this]; simp
set_option maxRecDepth 100000 in
set_option maxHeartbeats 800000 in
theorem l1Number_d (d : Nat) (w : World) (hd : d ≤ 9) :
    Calls Tryd.prog 33 #[.int .i64 (d : Int)] w fun e w' => e = .returned (.string (dig d)) ∧ Below w.heap.size w w' := by
  have hwr : IntKind.u8.wrap (48 + (d : Int)) = 48 + (d : Int) := (by decide : ∀ d : Fin 10, IntKind.u8.wrap (48 + ((d : Nat) : Int)) = 48 + ((d : Nat) : Int)) ⟨d, by omega⟩
  have hb : Below w.heap.size w (w.alloc (.cells #[.int .u8 (48 + (d : Int))] 5)) := (Below.refl _ _).alloc (Nat.le_refl _) _
  have kc : (convert 40 9 (.slice (some ⟨w.heap.size, 0, none⟩) 1 1)).run Tryd.prog (w.alloc (.cells #[.int .u8 (48 + (d : Int))] 5)) = .ok (.string (dig d)) (w.alloc (.cells #[.int .u8 (48 + (d : Int))] 5)) :=
    Lib.run_convert_whole (P := Tryd.prog) _ 40 5 9 Tryd.underlying40 Tryd.underlying5 Tryd.underlying9 w.heap.size 0 (dig d) (dig_bytes d _ _ hd ((World.cell?_alloc_at _ _ _ _ rfl).trans rfl)) 1
  have h0 : ¬ (0 : Int) > (d : Int) := by omega
  go_enter Tryd.func33, Tryd.ntmps33
  go_wp2_with fail
  go_ret
  exact ⟨rfl, hb⟩
end Go.Proofs.YtnpjelekpkgbpaaDoor
namespace Go.Proofs.YtnpjelekpkgbpaaDoor
set_option linter.unusedVariables false
open Go.RowKit

/-- the text of the first k things -/
def mtX (f : List Nat) : Nat → ByteArray
  | 0 => ⟨#[]⟩
  | k + 1 => mtX f k ++ dig (nx f k)
theorem mtX_size (f : List Nat) : ∀ k, (mtX f k).size = k
  | 0 => rfl
  | k + 1 => by rw [mtX, ByteArray.size_append, mtX_size f k]; rfl
theorem mtX_succ (f : List Nat) (k : Nat) : mtX f (k + 1) = mtX f k ++ dig (nx f k) := rfl
def mtI (xs : List Int) : ByteArray := if mapOk xs then mtX (toN xs) xs.length else ⟨#[]⟩
set_option maxRecDepth 100000 in
set_option maxHeartbeats 1600000 in
theorem mapText_c (A : Option Addr) (n c : Nat) (xs : List Int) (w : World) (h : Rd w w.heap.size A n c xs) :
    Calls Tryd.prog 62 #[.slice A n c] w fun e w' => e = .returned (.string (mtI xs)) ∧ Below w.heap.size w w' := by
  have hl := h.len
  have hcp := h.cap
  have hmx := h.max
  unfold maxLen at hmx
  rcases hs : mapOk xs with _ | _
  · have hE : mtI xs = ⟨#[]⟩ := by unfold mtI; rw [hs]; rfl
    rw [hE]
    have K1 := sMapOk_b _ _ _ _ _ _ h hs
    clear hE hl
    go_enter Tryd.func62, Tryd.ntmps62
    go_wp2_with fail
    go_loopw [3, 4] (fun v i wr => v = .string ⟨#[]⟩ ∧ i = .int .i64 0 ∧ wr = w) (fun _ i _ => 0)
    case atStart => exact ⟨rfl, rfl, rfl⟩
    case round =>
      obtain ⟨rfl, rfl, rfl⟩ := hrel
      by_cases hn : 0 < n
      · go_wp2_with (go_at_call 55; with_reducible refine K1.mono ?_; rintro e w' ⟨rfl, rfl⟩)
        go_ret
        exact ⟨rfl, Below.refl _ _⟩
      · go_wp2_with fail
        go_ret
        exact ⟨rfl, Below.refl _ _⟩
  · obtain ⟨f, rfl, hf⟩ := mapOk_ex hs
    rw [ints_len] at hl
    subst hl
    have h7 := hf.le7
    have h1 := hf.pos
    have hE : mtI (ints f) = mtX f f.length := by unfold mtI; rw [hs, toN_ints, ints_len]; rfl
    rw [hE]
    clear hE
    obtain ⟨b1, off1, rfl, hbb1, hcells1⟩ := h.2.2.2 (by omega)
    have HC1 := Lib.hid hcells1
    clear hcells1
    go_enter Tryd.func62, Tryd.ntmps62
    go_wp2_with fail
    go_loopw [3, 4] (fun v i wr => ∃ (k : Nat), k ≤ f.length ∧ i = .int .i64 k ∧ v = .string (mtX f k) ∧ Below w.heap.size w wr) (fun _ i _ => f.length - (intOf i).toNat)
    case atStart => exact ⟨0, Nat.zero_le _, rfl, rfl, Below.refl _ _⟩
    case round =>
      obtain ⟨k, hk, rfl, rfl, hbw⟩ := hrel
      have hrd := h.up hbw
      have K1 := sMapOk_b _ _ _ _ _ _ hrd hs
      by_cases hlt : k < f.length
      · have hx := hf.has k hlt
        have hc1 := (hbw.cell (p := ⟨b1, off1 + k, none⟩) hbb1).trans (HC1.out k hlt)
        rw [gI_ints] at hc1
        have HT := Lib.hid (mtX_succ f k)
        have hna : ¬ (9223372036854775807 < (mtX f k).size + (dig (nx f k)).size) := by rw [mtX_size, show (dig (nx f k)).size = 1 from rfl]; omega
        have K2 := l1Number_d (nx f k) wr (by omega)
        generalize nx f k = y at *
        go_wp2_with (go_at_call 55; with_reducible refine K1.mono ?_; rintro e w' ⟨rfl, rfl⟩)
        refine K2.mono ?_
        rintro e w3 ⟨rfl, hb3⟩
        have hB3 := bt hbw hb3
        go_wp2_with fail
        go_roundw
        case rel => exact ⟨k + 1, by omega, by go_num, by rw [HT.out], hB3⟩
        case measure => simp [intOf]; omega
      · obtain rfl : k = f.length := by omega
        go_wp2_with fail
        go_ret
        exact ⟨rfl, hbw⟩
end Go.Proofs.YtnpjelekpkgbpaaDoor
namespace Go.Proofs.YtnpjelekpkgbpaaDoor
set_option linter.unusedVariables false
open Go.RowKit

/-- the numbers of the first k bytes of a text -/
def rdX (s : ByteArray) : Nat → List Int
  | 0 => []
  | k + 1 => rdX s k ++ [((s.get! k).toNat : Int) - 48]
theorem rdX_len (s : ByteArray) : ∀ k, (rdX s k).length = k
  | 0 => rfl
  | k + 1 => by rw [rdX, List.length_append, rdX_len s k]; rfl
theorem rdX_succ (s : ByteArray) (k : Nat) : rdX s (k + 1) = rdX s k ++ [((s.get! k).toNat : Int) - 48] := rfl
theorem byte_get {s : ByteArray} {k : Nat} (h : k < s.size) : s.get! k = s[k] := by
  show s.data[k]! = s.data[k]
  exact getElem!_pos s.data k h
def rdI (s : ByteArray) : List Int := if mapOk (rdX s s.size) then rdX s s.size else []
set_option maxRecDepth 100000 in
set_option maxHeartbeats 1600000 in
theorem sReadMap_c (s : ByteArray) (w : World) (hsz : s.size ≤ 1000000000000) :
    Calls Tryd.prog 31 #[.string s] w (RowBool w (rdI s) (mapOk (rdX s s.size))) := by
  have hB0 : Below w.heap.size w (w.alloc (Obj.cells #[] 3)) := (Below.refl _ _).alloc (Nat.le_refl _) _
  have hO0 := OwnV.made w w.heap.size #[] (Nat.le_refl _) rfl
  go_enter Tryd.func31, Tryd.ntmps31
  go_wp2_with fail
  generalize w.alloc (Obj.cells #[] 3) = w0 at hB0 hO0 ⊢
  go_loopw [4, 5] (fun v i wr => ∃ (k : Nat), k ≤ s.size ∧ i = .int .i64 k ∧ OwnV wr w.heap.size v (rdX s k) ∧ Below w.heap.size w wr) (fun _ i _ => s.size - (intOf i).toNat)
  case atStart => exact ⟨0, Nat.zero_le _, rfl, hO0, hB0⟩
  case round =>
    obtain ⟨k, hk, rfl, hown, hbw⟩ := hrel
    have hs := hbw.size
    have hln : (rdX s k).length ≤ 1000000000000 := by rw [rdX_len]; omega
    by_cases hlt : k < s.size
    · have HT := Lib.hid (rdX_succ s k)
      have hb : (s.get! k).toNat < 256 := (s.get! k).toNat_lt
      have hw0 : wrap64 ((s.get! k).toNat : Int) = ((s.get! k).toNat : Int) := by simp [wrap64]; omega
      have hw1 : wrap64 (((s.get! k).toNat : Int) - 48) = ((s.get! k).toNat : Int) - 48 := by simp [wrap64]; omega
      have hidx : (Instr.index 9 (.string s) (.int .i64 (k : Int))).run Tryd.prog wr = .ok (.int .u8 ((s.get! k).toNat : Int)) wr := by
        rw [run_index_string _ _ _ _ _ Tryd.underlying9]
        rw [dif_pos ⟨by omega, by omega⟩]
        rw [byte_get hlt]
        rfl
      generalize ((s.get! k).toNat : Int) = y at *
      go_wp2_with (at_builtin; refine app_int wr _ rfl _ _ rfl w.heap.size _ (rdX s k) rfl hown rfl hln hs ?_; intro v' w3 hown3 hb3)
      go_roundw
      case rel => exact ⟨k + 1, by omega, by go_num, by rw [HT.out]; exact hown3, hbw.trans hb3⟩
      case measure => simp [intOf]; omega
    · obtain rfl : k = s.size := by omega
      obtain ⟨A3, c3, rfl, hI3⟩ := hown.slice_
      rw [rdX_len] at hI3 ⊢
      have hr3 := hI3.rd
      rcases (show mapOk (rdX s s.size) = false ∨ mapOk (rdX s s.size) = true by cases mapOk (rdX s s.size) <;> simp) with hm | hm
      · have hE : rdI s = [] := by unfold rdI; rw [hm]; rfl
        have K1 := sMapOk_b _ _ _ _ _ _ hr3 hm
        have HE := Lib.hid hE
        have HM := Lib.hid hm
        clear hE hm
        have hB4 : Below w.heap.size w (wr.alloc (Obj.cells #[] 3)) := hbw.alloc hbw.size _
        have hO4 := OwnV.made wr w.heap.size #[] hbw.size rfl
        go_wp2_with (go_at_call 55; with_reducible refine K1.mono ?_; rintro e w' ⟨rfl, rfl⟩)
        go_ret2
        rw [HE.out, HM.out]
        exact OwnV.rowB false hO4 hB4
      · have hE : rdI s = rdX s s.size := by unfold rdI; rw [hm]; rfl
        have K1 := sMapOk_b _ _ _ _ _ _ hr3 hm
        have HE := Lib.hid hE
        have HM := Lib.hid hm
        clear hE hm
        go_wp2_with (go_at_call 55; with_reducible refine K1.mono ?_; rintro e w' ⟨rfl, rfl⟩)
        go_ret2
        rw [HE.out, HM.out]
        exact ⟨_, _, _, rfl, hI3, hbw⟩
end Go.Proofs.YtnpjelekpkgbpaaDoor
namespace Go.Proofs.YtnpjelekpkgbpaaDoor
set_option linter.unusedVariables false
open Go.RowKit

end Go.Proofs.YtnpjelekpkgbpaaDoor
namespace Go.Proofs.YtnpjelekpkgbpaaDoor
set_option linter.unusedVariables false
open Go.RowKit

set_option maxRecDepth 100000 in
set_option maxHeartbeats 6400000 in
theorem names_c (g lo p n : Nat) (w : World) (h : Rdr w lo g p) (hp : p ≤ 1000000) (hn : n ≤ 7) :
    Calls Tryd.prog 63 #[.pointer (some ⟨g, 0, none⟩), .int .i64 (n : Int)] w (MapDrawn w lo g p) := by
  have hgl := h.lt
  have hlog := h.lo
  have hc2 := (Chg.refl g (g + 1) w).allocNew (Obj.cells #[] 3)
  have hr2 := h.up ((Below.refl w.heap.size w).alloc (Nat.le_refl _) (Obj.cells #[] 3))
  have hO2 := OwnV.made w w.heap.size #[] (Nat.le_refl _) rfl
  go_enter Tryd.func63, Tryd.ntmps63
  go_wp2_with fail
  generalize w.alloc (Obj.cells #[] 3) = w2 at hO2 hc2 hr2 ⊢
  go_loopw [5, 6] (fun o i wr => ∃ (k : Nat) (xs : List Int), k ≤ n ∧ i = .int .i64 k ∧ OwnV wr w.heap.size o xs ∧ xs.length = k ∧ (∀ y ∈ xs, 0 ≤ y ∧ y ≤ 7) ∧ Rdr wr lo g (p + k) ∧ Chg g (g + 1) w wr) (fun o i _ => n - (intOf i).toNat)
  case atStart => exact ⟨0, [], Nat.zero_le _, rfl, hO2, rfl, by simp, hr2, hc2⟩
  case round =>
    obtain ⟨k, xs, hk, rfl, hO, hl, hb, hr, hc⟩ := hrel
    clear hO2 hc2 hr2
    by_cases hlt : k < n
    · have HBd := Lib.hid hb
      have HO := Lib.hid hO
      have HC := Lib.hid hc
      clear hb hO hc
      go_wp2_with fail
      refine (pick_c g lo (p + k) _ _ hr (by omega) (by omega)).mono ?_
      rintro e w3 ⟨x, rfl, hx, hr3, hc3⟩
      have hx' : x ≤ k := by have := hx (by omega); omega
      have hO3 := HO.out.chg hc3 (by omega)
      have hC3 := HC.out.chg_ hc3 (.inr ⟨Nat.le_refl _, Nat.le_refl _⟩)
      have hs3 := hC3.size
      have HR3 := Lib.hid hr3
      have HC3 := Lib.hid hC3
      have hlen : xs.length ≤ 1000000000000 := by omega
      clear hr3 hc3 hr hC3 hx
      go_wp2_with (at_builtin; refine app_int w3 _ rfl _ _ rfl w.heap.size _ xs rfl hO3 rfl hlen hs3 ?_; intro v' w' hown' hb'; obtain ⟨A4, c4, rfl, hI4⟩ := hown'.slice_s; rw [hl] at hI4 ⊢; obtain ⟨g4, rfl⟩ := hI4.some_ (by omega))
      have hC4 := HC3.out.then_ hb'
      have hR4 := HR3.out.below hb' hgl
      have hB4 : ∀ y ∈ xs ++ [(k : Int)], 0 ≤ y ∧ y ≤ 7 := by
        intro z hz
        rw [List.mem_append, List.mem_singleton] at hz
        rcases hz with hz | rfl
        · exact HBd.out z hz
        · omega
      have hI4' := hI4
      clear hI4 hown' hO3 hs3
      go_loopw [8] (fun i wr => ∃ (j : Nat) (ys : List Int), x ≤ j ∧ j ≤ k ∧ i = .int .i64 j ∧ OwnIn wr w.heap.size (g4 + 1) (some ⟨g4, 0, none⟩) (k + 1) c4 ys ∧ (∀ y ∈ ys, 0 ≤ y ∧ y ≤ 7) ∧ Rdr wr lo g (p + k + 1) ∧ Chg g (g + 1) w wr) (fun i _ => (intOf i).toNat)
      case atStart => exact ⟨k, _, hx', Nat.le_refl _, rfl, ⟨hI4'.1, fun q hq => by cases hq; exact Nat.lt_succ_self _⟩, hB4, hR4, hC4⟩
      case round =>
        obtain ⟨j, ys, hxj, hjk, rfl, hI, hB, hR, hC⟩ := hrel
        clear hI4' hB4 hR4 hC4
        by_cases hj : x < j
        · have hold := hI.cell (j := j) (by omega)
          have hold2 := hI.cell (j := j - 1) (by omega)
          have hfz := hI.frozen j
          have hj1 : ((j : Int) - 1) = ((j - 1 : Nat) : Int) := by omega
          have HST := Lib.hid (hI.store j (gI ys (j - 1)))
          have hyb : (gI ys (j - 1)) = gI ys (j - 1) := rfl
          have HBn := Lib.hid (forall_set (k := j) hB (forall_gI hB (k := j - 1) (by rw [hI.len]; omega)))
          have HR := Lib.hid hR
          have HC := Lib.hid hC
          clear hI hB hR hC
          generalize gI ys (j - 1) = y at *
          go_wp2_with fail
          go_roundw
          case rel =>
            have hbl := HST.out.2.below' (Nat.le_refl _) (by have := HC.out.size; omega)
            exact ⟨j - 1, _, by omega, by omega, by go_num, HST.out.1, HBn.out, HR.out.below hbl hgl, HC.out.then_ hbl⟩
          case measure => simp [intOf]; omega
        · have hold := hI.cell (j := x) (by omega)
          have hfz := hI.frozen x
          have HST := Lib.hid (hI.store x (k : Int))
          have HBn := Lib.hid (forall_set (k := x) hB (show (0 : Int) ≤ (k : Int) ∧ (k : Int) ≤ 7 by omega))
          have HLn : Hid (ys.length = k + 1) := Lib.hid hI.len
          have HR := Lib.hid hR
          have HC := Lib.hid hC
          clear hI hB hR hC
          go_wp2_with fail
          go_roundw
          case rel =>
            have hbl := HST.out.2.below' (Nat.le_refl _) (by have := HC.out.size; omega)
            refine ⟨k + 1, ys.set x (k : Int), by omega, by go_num, ?_, by rw [List.length_set, HLn.out], HBn.out, HR.out.below hbl hgl, HC.out.then_ hbl⟩
            have := HST.out.1.1
            unfold OwnV
            rw [List.length_set, HLn.out]
            exact this.row
          case measure => simp [intOf]; omega
    · obtain rfl : k = n := by omega
      obtain ⟨A, c, rfl, hown⟩ := hO.slice_
      rw [hl] at hown ⊢
      go_wp2_with fail
      go_ret
      exact ⟨A, k, c, xs, rfl, hown, ⟨by omega, fun y hy => by have := hb y hy; omega⟩, hr.more (by omega), hc⟩
end Go.Proofs.YtnpjelekpkgbpaaDoor
