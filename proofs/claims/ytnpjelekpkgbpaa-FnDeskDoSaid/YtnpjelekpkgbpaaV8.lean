/- Walks: slices.AppendSeq, slices.Collect at int over an iterator that reads memory; selfMap.from, FromOf (impl). · Walks: FromOf (spec), LeavesOf (impl and spec); the law FnExactLeavesOf (walk). Printed by gen_w41.py. · Walks: CodeOf (impl). Printed by gen_w42.py. · Walks: CodeOf (spec); CodeOf of whatever row. Printed by gen_w43.py. · Walks: CodeOf of whatever row (impl and spec); the law FnExactCodeOf (walk). Printed by gen_w44.py. -/
import Derived.RangeFuncBox
import Derived.RangeFuncNested
import Derived.RangeFuncBound
import Derived.RangeFuncCalls
import Derived.RangeFuncLeaves
import Derived.Shelf.Abstract
import Derived.Shelf.RegionOpen
import Derived.OwnWalkIn
import Derived.TacticsInMore
import Derived.LoopNIn
import Derived.LoopIn
import Derived.Maps.AppendAt
import Derived.Test.YtnpjelekpkgbpaaV6
import Derived.Test.YtnpjelekpkgbpaaQ
import Derived.Test.YtnpjelekpkgbpaaP
import Derived.Test.YtnpjelekpkgbpaaV7
import Derived.Test.YtnpjelekpkgbpaaV3
namespace Go.Proofs.Ytnpjelekpkgbpaa
set_option linter.unusedVariables false
open Go.RowKit Go.Shelf
attribute [local go_sem] Oper.semAt_some

def encI (x : Int) : Array Value := #[Value.int .i64 x]
/-- What an iterator is, seen from the collector: from the world w on, it yields the numbers of which S speaks. -/
def Seq (g : Nat) (lb : Array Value) (S : List Int → Prop) (w : World) : Prop :=
  SeqStopsK Fence.wide 3 Try.prog g lb encI (Below w.heap.size) S (fun _ => True) 100 w

def Coll (S : List Int → Prop) (w : World) (e : Ending) (w' : World) : Prop := ∃ v xs, S xs ∧ e = .returned v ∧ OwnV w' w.heap.size v xs ∧ Below w.heap.size w w'
/-! ### selfMap.from -/
def fromX (xs : List Int) (t : Int) : Nat → List Int
  | 0 => []
  | k + 1 => if gI xs k = t then fromX xs t k ++ [(k : Int)] else fromX xs t k
theorem fromX_len (xs : List Int) (t : Int) : ∀ k, (fromX xs t k).length ≤ k
  | 0 => Nat.le_refl _
  | k + 1 => by
    have := fromX_len xs t k
    unfold fromX; split
    · rw [List.length_append]; simp; omega
    · omega
theorem fromX_t {xs : List Int} {t : Int} {k : Nat} (h : gI xs k = t) : fromX xs t (k + 1) = fromX xs t k ++ [(k : Int)] := by rw [fromX, if_pos h]
theorem fromX_f {xs : List Int} {t : Int} {k : Nat} (h : ¬ gI xs k = t) : fromX xs t (k + 1) = fromX xs t k := by rw [fromX, if_neg h]
set_option maxRecDepth 100000 in
set_option maxHeartbeats 2000000 in
theorem from1_in (l Bm Bt n₀ : Nat) (A : Option Addr) (n c : Nat) (xs : List Int) (t : Int) (hn : n ≤ 100) (J Jx : List Int → World → Prop) (W : World) (hr : Rd W n₀ A n c xs)
    (hY : ∀ pre x W, J pre W → pre.length < 100 → YieldAt Fence.wide 2 Try.prog l (encI x) W fun e W' =>
      (e = .returned (.bool true) ∧ J (pre ++ [x]) W' ∧ Below n₀ W W') ∨ (e = .returned (.bool false) ∧ Jx (pre ++ [x]) W'))
    (hm : W.cell? ⟨Bm, 0, none⟩ = some (.slice A n c)) (ht : W.cell? ⟨Bt, 0, none⟩ = some (.int .i64 t)) (hBt : Bt < n₀) (h0 : J [] W) :
    CallsIn Fence.wide 3 Try.prog 111 #[.func (.yield l) #[] #[], .pointer (some ⟨Bm, 0, none⟩), .pointer (some ⟨Bt, 0, none⟩)] W fun e W' => (∃ v, e = .returned v) ∧
      ((∃ ys, ys = fromX xs t n ∧ J ys W') ∨ (∃ pre, True ∧ Jx pre W')) := by
  have hcp := hr.cap
  have hmx := hr.max
  unfold maxLen at hmx
  refine callsIn_of_wp Try.func111 rfl trivial ?_ rfl
  simp only [Try.ntmps111, List.size_toArray, List.length_cons, List.length_nil, Nat.reduceAdd, Nat.reduceSub, Array.replicate_succ, Array.replicate_zero, List.push_toArray, List.append_toArray, List.nil_append, List.cons_append]
  gi_wp2
  gi_loopw [8] (fun i wr => ∃ k : Nat, k ≤ n ∧ i = .int .i64 k ∧ J (fromX xs t k) wr ∧ Below n₀ W wr) (fun i _ => n - (intOf i).toNat)
  case atStart => exact ⟨0, Nat.zero_le _, rfl, h0, Below.refl _ _⟩
  case round =>
    obtain ⟨k, hk, rfl, hJ, hb⟩ := hrel
    have ht2 := (hb.cell (p := ⟨Bt, 0, none⟩) hBt).trans ht
    clear ht hm
    by_cases hlt : k < n
    · obtain ⟨b, off, rfl, hbb, hcell⟩ := (hr.below hb).at_ hlt
      have hfl := fromX_len xs t k
      by_cases he : gI xs k = t
      · have HT := Lib.hid (fromX_t he)
        have hq : (gI xs k == t) = true := by rw [he]; simp
        obtain ⟨fn, tmps, assign, body, hy, hR⟩ := hY _ (k : Int) wr hJ (by omega)
        have HE := Lib.hid he
        clear he
        dsimp only [encI] at hy
        gi_wp2
        refine hR.mono ?_
        rintro e W3 (⟨rfl, hJ3, hk3⟩ | ⟨rfl, hJx3⟩)
        · gi_wp2
          go_roundw
          case rel => exact ⟨k + 1, by omega, by simp, by rw [HT.out]; exact hJ3, hb.trans hk3⟩
          case measure => simp [intOf]; omega
        · gi_wp2
          refine bodyPost_ret (results_none rfl _ _ _) rfl ?_
          exact ⟨⟨_, rfl⟩, .inr ⟨_, trivial, hJx3⟩⟩
      · have HT := Lib.hid (fromX_f he)
        have hq : (gI xs k == t) = false := by rw [beq_eq_false_iff_ne]; exact he
        have HE := Lib.hid he
        clear he
        gi_wp2
        refine ⟨fun _ h => (by cases h), ?_⟩
        gi_wp2
        go_roundw
        case rel => exact ⟨k + 1, by omega, by simp, by rw [HT.out]; exact hJ, hb⟩
        case measure => simp [intOf]; omega
    · obtain rfl : k = n := by omega
      gi_wp2
      go_end0
      exact ⟨⟨_, rfl⟩, .inl ⟨_, rfl, hJ⟩⟩

theorem Rd.cutB {w : World} {B n c : Nat} {A : Option Addr} {xs : List Int} (h : Rd w B A n c xs) {w' : World} (hb : Below B w w') : Rd w' B A n c xs := h.below hb
set_option maxHeartbeats 800000 in
theorem fromSeq_c (A : Option Addr) (n c : Nat) (t : Int) (w : World) :
    Calls Try.prog 104 #[.slice A n c, .int .i64 t] w fun e w' => e = .returned (.func (.func 111) #[] #[.pointer (some ⟨w.heap.size, 0, none⟩), .pointer (some ⟨w.heap.size + 1, 0, none⟩)]) ∧ w' = (w.alloc (.cells #[.slice A n c] 88)).alloc (.cells #[.int .i64 t] 3) := by
  go_enter Try.func104, Try.ntmps104
  go_wp2_with fail
  go_ret
  exact ⟨rfl, rfl⟩
theorem from_seq (A : Option Addr) (n c : Nat) (xs : List Int) (t : Int) (w : World) (h : Rd w w.heap.size A n c xs) (hn : n ≤ 100) :
    Seq 111 #[.pointer (some ⟨w.heap.size, 0, none⟩), .pointer (some ⟨w.heap.size + 1, 0, none⟩)] (fun ys => ys = fromX xs t n) ((w.alloc (.cells #[.slice A n c] 88)).alloc (.cells #[.int .i64 t] 3)) := by
  have bM := Boxed.new w 88 (.slice A n c)
  have bM2 := bM.alloc (.cells #[.int .i64 t] 3)
  have bT := Boxed.new (w.alloc (.cells #[.slice A n c] 88)) 3 (.int .i64 t)
  rw [World.size_alloc] at bT
  have hb : Below w.heap.size w ((w.alloc (.cells #[.slice A n c] 88)).alloc (.cells #[.int .i64 t] 3)) := ((Below.refl _ w).alloc (Nat.le_refl _) _).alloc (by simp) _
  have hr := h.up hb
  have hlt := bT.lt
  intro l J Jx W hW _ _ hY h0
  exact from1_in l w.heap.size (w.heap.size + 1) _ A n c xs t hn J Jx W (hr.below hW) hY ((hW.cell (p := ⟨w.heap.size, 0, none⟩) bM2.lt).trans bM2.cell) ((hW.cell (p := ⟨w.heap.size + 1, 0, none⟩) hlt).trans bT.cell) hlt h0

/-! ### FromOf -/
def fromI (xs : List Int) (t : Int) : List Int := if mapOk xs then fromX xs t xs.length else []
theorem fromI_no {xs : List Int} (t : Int) (h : mapOk xs = false) : fromI xs t = [] := by unfold fromI; rw [h]; simp
theorem fromI_ok {xs : List Int} (t : Int) (h : mapOk xs = true) : fromI xs t = fromX xs t xs.length := by unfold fromI; rw [h]; simp
theorem fromX_none {xs : List Int} {t : Int} : ∀ k, (∀ j, j < k → gI xs j ≠ t) → fromX xs t k = []
  | 0, _ => rfl
  | k + 1, h => by rw [fromX_f (h k (by omega)), fromX_none k (fun j hj => h j (by omega))]
theorem fromI_off {xs : List Int} {t : Int} (h : atOk xs t = false) : fromI xs t = [] := by
  rcases hm : mapOk xs with _ | _
  · exact fromI_no t hm
  · rw [fromI_ok t hm]
    unfold atOk at h
    rw [hm, Bool.true_and] at h
    refine fromX_none _ (fun j hj e => ?_)
    unfold mapOk at hm
    rw [Bool.and_eq_true] at hm
    have := allHas_iff.1 hm.2 j hj
    rw [e, h] at this; cases this
def Nums (xs : List Int) (w : World) (e : Ending) (w' : World) : Prop := ∃ v, e = .returned v ∧ OwnV w' w.heap.size v xs ∧ Below w.heap.size w w'
end Go.Proofs.Ytnpjelekpkgbpaa
namespace Go.Proofs.Ytnpjelekpkgbpaa
set_option linter.unusedVariables false
open Go.RowKit

theorem Nums.row {xs : List Int} {w w' : World} {e : Ending} (h : Nums xs w e w') : Row1 xs w e w' := by
  obtain ⟨v, rfl, hO, hb⟩ := h
  obtain ⟨A, c, rfl, hO2⟩ := hO.form
  exact ⟨A, _, c, rfl, hO2.inn, hb⟩
set_option maxRecDepth 100000 in
set_option maxHeartbeats 800000 in
theorem sFromOf_c (A : Option Addr) (n c : Nat) (xs : List Int) (t : Int) (w : World) (h : Rd w w.heap.size A n c xs) :
    Calls Try.prog 99 #[.slice A n c, .int .i64 t] w (Nums (fromI xs t) w) := by
  have hB0 : Below w.heap.size w (w.alloc (Obj.cells #[] 3)) := (Below.refl _ _).alloc (Nat.le_refl _) _
  have hO0 := OwnV.made w w.heap.size #[] (Nat.le_refl _) rfl
  have h0 := h.up hB0
  have hl := h.len
  have hcp := h.cap
  have hmx := h.max
  unfold maxLen at hmx
  rcases hs : mapOk xs with _ | _
  · have HW := Lib.hid (fromI_no t hs)
    go_enter Try.func99, Try.ntmps99
    go_wp2_with fail
    generalize w.alloc (Obj.cells #[] 3) = w1 at hB0 hO0 h0 ⊢
    go_loopw [5, 6] (fun v i wr => v = .slice (some ⟨w.heap.size, 0, none⟩) 0 0 ∧ i = .int .i64 0 ∧ wr = w1) (fun _ i _ => 0)
    case atStart => exact ⟨rfl, rfl, rfl⟩
    case round =>
      obtain ⟨rfl, rfl, rfl⟩ := hrel
      by_cases hn : 0 < n
      · go_wp2_with (go_at_call 58; refine (sMapOk_c _ _ _ _ _ h0).mono ?_; rintro e w' ⟨rfl, rfl⟩)
        go_ret
        exact ⟨_, rfl, by rw [HW.out]; exact hO0, hB0⟩
      · go_wp2_with (go_at_call 58; refine (sMapOk_c _ _ _ _ _ h0).mono ?_; rintro e w' ⟨rfl, rfl⟩)
        go_ret
        exact ⟨_, rfl, by rw [HW.out]; exact hO0, hB0⟩
  · have hn7 : n ≤ 7 := by obtain ⟨f, rfl, hf⟩ := mapOk_ex hs; have := hf.le7; rw [ints_len] at hl; omega
    have HW : Hid (fromI xs t = fromX xs t n) := by unfold Hid; rw [fromI_ok t hs, hl]
    go_enter Try.func99, Try.ntmps99
    go_wp2_with fail
    generalize w.alloc (Obj.cells #[] 3) = w0 at hB0 hO0 h0 ⊢
    go_loopw [5, 6] (fun v i wr => ∃ k : Nat, k ≤ n ∧ i = .int .i64 k ∧ OwnV wr w.heap.size v (fromX xs t k) ∧ Below w.heap.size w wr) (fun _ i _ => n - (intOf i).toNat)
    case atStart => exact ⟨0, Nat.zero_le _, rfl, hO0, hB0⟩
    case round =>
      obtain ⟨k, hk, rfl, hown, hbw⟩ := hrel
      have hrd := h.up hbw
      by_cases hlt : k < n
      · obtain ⟨b, off, rfl, hbb, hcell⟩ := hrd.at_ hlt
        have hln : (fromX xs t k).length ≤ 1000000000000 := by have := fromX_len xs t k; omega
        have hsz := hbw.size
        by_cases he : gI xs k = t
        · have HT := Lib.hid (fromX_t he)
          have hq : (gI xs k == t) = true := by rw [he]; simp
          clear he
          go_wp2_with (first
            | (go_at_call 58; refine (sMapOk_c _ _ _ _ _ hrd).mono ?_; rintro e w' ⟨rfl, rfl⟩)
            | (at_builtin; refine app_int wr _ rfl _ _ rfl w.heap.size _ (fromX xs t k) rfl hown rfl hln hsz ?_; intro v' w3 hown3 hb3))
          go_roundw
          case rel => exact ⟨k + 1, by omega, by go_num, by rw [HT.out]; exact hown3, hbw.trans hb3⟩
          case measure => simp [intOf]; omega
        · have HT := Lib.hid (fromX_f he)
          have hq : (gI xs k == t) = false := by rw [beq_eq_false_iff_ne]; exact he
          clear he
          go_wp2_with (go_at_call 58; refine (sMapOk_c _ _ _ _ _ hrd).mono ?_; rintro e w' ⟨rfl, rfl⟩)
          go_roundw
          case rel => exact ⟨k + 1, by omega, by go_num, by rw [HT.out]; exact hown, hbw⟩
          case measure => simp [intOf]; omega
      · obtain rfl : k = n := by omega
        go_wp2_with fail
        go_ret
        exact ⟨_, rfl, by rw [HW.out]; exact hown, hbw⟩

/-! ### LeavesOf -/
def lvX (xs : List Int) : Nat → List Int
  | 0 => []
  | k + 1 => if (fromI xs (k : Int)).length = 0 then lvX xs k ++ [(k : Int)] else lvX xs k
theorem lvX_len (xs : List Int) : ∀ k, (lvX xs k).length ≤ k
  | 0 => Nat.le_refl _
  | k + 1 => by
    have := lvX_len xs k
    unfold lvX; split
    · rw [List.length_append]; simp; omega
    · omega
theorem lvX_t {xs : List Int} {k : Nat} (h : (fromI xs (k : Int)).length = 0) : lvX xs (k + 1) = lvX xs k ++ [(k : Int)] := by rw [lvX, if_pos h]
theorem lvX_f {xs : List Int} {k : Nat} (h : ¬ (fromI xs (k : Int)).length = 0) : lvX xs (k + 1) = lvX xs k := by rw [lvX, if_neg h]
def leavesI (xs : List Int) : List Int := if treeOkI xs then lvX xs xs.length else []
theorem leavesI_no {xs : List Int} (h : treeOkI xs = false) : leavesI xs = [] := by unfold leavesI; rw [h]; simp
theorem leavesI_ok {xs : List Int} (h : treeOkI xs = true) : leavesI xs = lvX xs xs.length := by unfold leavesI; rw [h]; simp
theorem tree_n7 {xs : List Int} (h : treeOkI xs = true) : xs.length ≤ 7 := by
  obtain ⟨f, rfl, hf, _⟩ := tree_ex h
  rw [ints_len]; exact hf.le7
theorem leavesOf_small (xs : List Int) : (leavesI xs).length ≤ 1000000 := by
  rcases h : treeOkI xs with _ | _
  · rw [leavesI_no h]; simp
  · rw [leavesI_ok h]; have := lvX_len xs xs.length; have := tree_n7 h; omega
end Go.Proofs.Ytnpjelekpkgbpaa
namespace Go.Proofs.Ytnpjelekpkgbpaa
set_option linter.unusedVariables false
open Go.RowKit
theorem OwnIn.keepB {w w' : World} {lo hi n c B : Nat} {A : Option Addr} {xs : List Int} (h : OwnIn w lo hi A n c xs) (hb : Below B w w') (hB : hi ≤ B) : OwnIn w' lo hi A n c xs := h.below hb hB
theorem OwnV.lt {w : World} {B : Nat} {v : Value} {xs : List Int} (h : OwnV w B v xs) {g : Nat} (hg : v.ownBlock = some g) : B ≤ g ∧ g < w.heap.size := World.ownsRow.lt h g hg
def lenV : Value → Nat
  | .slice _ n _ => n
  | _ => 0
theorem OwnV.lenV {w : World} {B : Nat} {v : Value} {xs : List Int} (h : OwnV w B v xs) : Go.Proofs.Ytnpjelekpkgbpaa.lenV v = xs.length := by
  obtain ⟨A, c, rfl, _⟩ := h.form
  rfl
theorem treeOkI_tree {f : List Nat} {r : Nat} (h : TreeN f r) : treeOkI (ints f) = true := by
  unfold treeOkI
  rw [loopsI_ok h.map, h.loops]
  simp [gR, ints]
theorem rootI_tree {f : List Nat} {r : Nat} (h : TreeN f r) : rootI (ints f) = (r : Int) := by
  rw [rootI_yes (treeOkI_tree h)]
  have := loopI_ok h.map h.map.pos
  rw [h.lo h.map.pos] at this
  exact this
end Go.Proofs.Ytnpjelekpkgbpaa
namespace Go.Proofs.Ytnpjelekpkgbpaa
set_option linter.unusedVariables false
open Go.RowKit

theorem meas_len {w : World} {B a : Nat} {v : Value} {c : List Nat} {A : Option Addr} {k : Nat} {u : List Int} (h : OwnV w B v (ints (c.take (a + 1)))) (hu : u.length = a) (hlt : a < c.length) : c.length - lenV v < c.length - lenV (.slice A a k) := by
  have := h.lenV
  rw [ints_len, List.length_take] at this
  show c.length - lenV v < c.length - a
  omega
end Go.Proofs.Ytnpjelekpkgbpaa
namespace Go.Proofs.Ytnpjelekpkgbpaa
set_option linter.unusedVariables false
open Go.RowKit

def codeI (xs : List Int) : List Int := if treeOkI xs then ints (codeN (toN xs)) else []
theorem codeI_no {xs : List Int} (h : treeOkI xs = false) : codeI xs = [] := by unfold codeI; rw [h]; simp
theorem codeI_ok {f : List Nat} (h : treeOkI (ints f) = true) : codeI (ints f) = ints (codeN f) := by unfold codeI; rw [h, toN_ints]; simp
theorem codeOf_small (xs : List Int) : (codeI xs).length ≤ 1000000 := by
  rcases h : treeOkI xs with _ | _
  · rw [codeI_no h]; simp
  · obtain ⟨f, rfl, hf, h1, h2⟩ := tree_ex h
    obtain ⟨c1, hc, rfl, he, hr⟩ := (treeN_of hf h1 h2).ex
    rw [codeI_ok h, he, ints_len]; have := hc.le6; omega
end Go.Proofs.Ytnpjelekpkgbpaa
