/- Walks: slices.AppendSeq, slices.Collect at int over an iterator that reads memory; selfMap.from, FromOf (impl). · Walks: FromOf (spec), LeavesOf (impl and spec); the law FnExactLeavesOf (walk). Printed by gen_w41.py. · Walks: CodeOf (impl). Printed by gen_w42.py. · Walks: CodeOf (spec); CodeOf of whatever row. Printed by gen_w43.py. · Walks: CodeOf of whatever row (impl and spec); the law FnExactCodeOf (walk). Printed by gen_w44.py. -/
import Derived.RangeFuncBox
import Derived.RangeFuncNested
import Derived.RangeFuncBound
import Derived.RangeFuncCalls
import Derived.RangeFuncLeaves
import Derived.Shelf.Abstract
import Derived.Shelf.RegionOpen
import Derived.OwnWalkIn
import Derived.TacticsInMore
import Derived.LoopNIn
import Derived.LoopIn
import Derived.Maps.AppendAt
import Derived.Test.YtnpjelekpkgbpaaDoorV6
import Derived.Test.YtnpjelekpkgbpaaDoorQ
import Derived.Test.YtnpjelekpkgbpaaDoorP
import Derived.Test.YtnpjelekpkgbpaaDoorV7
import Derived.Test.YtnpjelekpkgbpaaDoorV3
namespace Go.Proofs.YtnpjelekpkgbpaaDoor
set_option linter.unusedVariables false
open Go.RowKit Go.Shelf
attribute [local go_sem] Oper.semAt_some

def encI (x : Int) : Array Value := #[Value.int .i64 x]
/-- What an iterator is, seen from the collector: from the world w on, it yields the numbers of which S speaks. -/
def Seq (g : Nat) (lb : Array Value) (S : List Int → Prop) (w : World) : Prop :=
  SeqStopsK Fence.wide 3 Tryd.prog g lb encI (Below w.heap.size) S (fun _ => True) 100 w

def Coll (S : List Int → Prop) (w : World) (e : Ending) (w' : World) : Prop := ∃ v xs, S xs ∧ e = .returned v ∧ OwnV w' w.heap.size v xs ∧ Below w.heap.size w w'
/-! ### selfMap.from -/
def fromX (xs : List Int) (t : Int) : Nat → List Int
  | 0 => []
  | k + 1 => if gI xs k = t then fromX xs t k ++ [(k : Int)] else fromX xs t k
theorem fromX_len (xs : List Int) (t : Int) : ∀ k, (fromX xs t k).length ≤ k
  | 0 => Nat.le_refl _
  | k + 1 => by
    have := fromX_len xs t k
    unfold fromX; split
    · rw [List.length_append]; simp; omega
    · omega
theorem fromX_t {xs : List Int} {t : Int} {k : Nat} (h : gI xs k = t) : fromX xs t (k + 1) = fromX xs t k ++ [(k : Int)] := by rw [fromX, if_pos h]
theorem fromX_f {xs : List Int} {t : Int} {k : Nat} (h : ¬ gI xs k = t) : fromX xs t (k + 1) = fromX xs t k := by rw [fromX, if_neg h]
theorem Rd.cutB {w : World} {B n c : Nat} {A : Option Addr} {xs : List Int} (h : Rd w B A n c xs) {w' : World} (hb : Below B w w') : Rd w' B A n c xs := h.below hb
/-! ### FromOf -/
def fromI (xs : List Int) (t : Int) : List Int := if mapOk xs then fromX xs t xs.length else []
theorem fromI_no {xs : List Int} (t : Int) (h : mapOk xs = false) : fromI xs t = [] := by unfold fromI; rw [h]; simp
theorem fromI_ok {xs : List Int} (t : Int) (h : mapOk xs = true) : fromI xs t = fromX xs t xs.length := by unfold fromI; rw [h]; simp
theorem fromX_none {xs : List Int} {t : Int} : ∀ k, (∀ j, j < k → gI xs j ≠ t) → fromX xs t k = []
  | 0, _ => rfl
  | k + 1, h => by rw [fromX_f (h k (by omega)), fromX_none k (fun j hj => h j (by omega))]
theorem fromI_off {xs : List Int} {t : Int} (h : atOk xs t = false) : fromI xs t = [] := by
  rcases hm : mapOk xs with _ | _
  · exact fromI_no t hm
  · rw [fromI_ok t hm]
    unfold atOk at h
    rw [hm, Bool.true_and] at h
    refine fromX_none _ (fun j hj e => ?_)
    unfold mapOk at hm
    rw [Bool.and_eq_true] at hm
    have := allHas_iff.1 hm.2 j hj
    rw [e, h] at this; cases this
def Nums (xs : List Int) (w : World) (e : Ending) (w' : World) : Prop := ∃ v, e = .returned v ∧ OwnV w' w.heap.size v xs ∧ Below w.heap.size w w'
end Go.Proofs.YtnpjelekpkgbpaaDoor
namespace Go.Proofs.YtnpjelekpkgbpaaDoor
set_option linter.unusedVariables false
open Go.RowKit

theorem Nums.row {xs : List Int} {w w' : World} {e : Ending} (h : Nums xs w e w') : Row1 xs w e w' := by
  obtain ⟨v, rfl, hO, hb⟩ := h
  obtain ⟨A, c, rfl, hO2⟩ := hO.form
  exact ⟨A, _, c, rfl, hO2.inn, hb⟩
/-! ### LeavesOf -/
def lvX (xs : List Int) : Nat → List Int
  | 0 => []
  | k + 1 => if (fromI xs (k : Int)).length = 0 then lvX xs k ++ [(k : Int)] else lvX xs k
theorem lvX_len (xs : List Int) : ∀ k, (lvX xs k).length ≤ k
  | 0 => Nat.le_refl _
  | k + 1 => by
    have := lvX_len xs k
    unfold lvX; split
    · rw [List.length_append]; simp; omega
    · omega
theorem lvX_t {xs : List Int} {k : Nat} (h : (fromI xs (k : Int)).length = 0) : lvX xs (k + 1) = lvX xs k ++ [(k : Int)] := by rw [lvX, if_pos h]
theorem lvX_f {xs : List Int} {k : Nat} (h : ¬ (fromI xs (k : Int)).length = 0) : lvX xs (k + 1) = lvX xs k := by rw [lvX, if_neg h]
def leavesI (xs : List Int) : List Int := if treeOkI xs then lvX xs xs.length else []
theorem leavesI_no {xs : List Int} (h : treeOkI xs = false) : leavesI xs = [] := by unfold leavesI; rw [h]; simp
theorem leavesI_ok {xs : List Int} (h : treeOkI xs = true) : leavesI xs = lvX xs xs.length := by unfold leavesI; rw [h]; simp
theorem tree_n7 {xs : List Int} (h : treeOkI xs = true) : xs.length ≤ 7 := by
  obtain ⟨f, rfl, hf, _⟩ := tree_ex h
  rw [ints_len]; exact hf.le7
theorem leavesOf_small (xs : List Int) : (leavesI xs).length ≤ 1000000 := by
  rcases h : treeOkI xs with _ | _
  · rw [leavesI_no h]; simp
  · rw [leavesI_ok h]; have := lvX_len xs xs.length; have := tree_n7 h; omega
end Go.Proofs.YtnpjelekpkgbpaaDoor
namespace Go.Proofs.YtnpjelekpkgbpaaDoor
set_option linter.unusedVariables false
open Go.RowKit
theorem OwnIn.keepB {w w' : World} {lo hi n c B : Nat} {A : Option Addr} {xs : List Int} (h : OwnIn w lo hi A n c xs) (hb : Below B w w') (hB : hi ≤ B) : OwnIn w' lo hi A n c xs := h.below hb hB
theorem OwnV.lt {w : World} {B : Nat} {v : Value} {xs : List Int} (h : OwnV w B v xs) {g : Nat} (hg : v.ownBlock = some g) : B ≤ g ∧ g < w.heap.size := World.ownsRow.lt h g hg
def lenV : Value → Nat
  | .slice _ n _ => n
  | _ => 0
theorem OwnV.lenV {w : World} {B : Nat} {v : Value} {xs : List Int} (h : OwnV w B v xs) : Go.Proofs.YtnpjelekpkgbpaaDoor.lenV v = xs.length := by
  obtain ⟨A, c, rfl, _⟩ := h.form
  rfl
theorem treeOkI_tree {f : List Nat} {r : Nat} (h : TreeN f r) : treeOkI (ints f) = true := by
  unfold treeOkI
  rw [loopsI_ok h.map, h.loops]
  simp [gR, ints]
theorem rootI_tree {f : List Nat} {r : Nat} (h : TreeN f r) : rootI (ints f) = (r : Int) := by
  rw [rootI_yes (treeOkI_tree h)]
  have := loopI_ok h.map h.map.pos
  rw [h.lo h.map.pos] at this
  exact this
end Go.Proofs.YtnpjelekpkgbpaaDoor
namespace Go.Proofs.YtnpjelekpkgbpaaDoor
set_option linter.unusedVariables false
open Go.RowKit

theorem meas_len {w : World} {B a : Nat} {v : Value} {c : List Nat} {A : Option Addr} {k : Nat} {u : List Int} (h : OwnV w B v (ints (c.take (a + 1)))) (hu : u.length = a) (hlt : a < c.length) : c.length - lenV v < c.length - lenV (.slice A a k) := by
  have := h.lenV
  rw [ints_len, List.length_take] at this
  show c.length - lenV v < c.length - a
  omega
end Go.Proofs.YtnpjelekpkgbpaaDoor
namespace Go.Proofs.YtnpjelekpkgbpaaDoor
set_option linter.unusedVariables false
open Go.RowKit

def codeI (xs : List Int) : List Int := if treeOkI xs then ints (codeN (toN xs)) else []
theorem codeI_no {xs : List Int} (h : treeOkI xs = false) : codeI xs = [] := by unfold codeI; rw [h]; simp
theorem codeI_ok {f : List Nat} (h : treeOkI (ints f) = true) : codeI (ints f) = ints (codeN f) := by unfold codeI; rw [h, toN_ints]; simp
theorem codeOf_small (xs : List Int) : (codeI xs).length ≤ 1000000 := by
  rcases h : treeOkI xs with _ | _
  · rw [codeI_no h]; simp
  · obtain ⟨f, rfl, hf, h1, h2⟩ := tree_ex h
    obtain ⟨c1, hc, rfl, he, hr⟩ := (treeN_of hf h1 h2).ex
    rw [codeI_ok h, he, ints_len]; have := hc.le6; omega
end Go.Proofs.YtnpjelekpkgbpaaDoor
