/- Bundle V8. -/
import Derived.RangeFuncBox
import Derived.RangeFuncNested
import Derived.RangeFuncBound
import Derived.RangeFuncCalls
import Derived.RangeFuncLeaves
import Derived.Shelf.Abstract
import Derived.Shelf.RegionOpen
import Derived.OwnWalkIn
import Derived.TacticsInMore
import Derived.LoopNIn
import Derived.LoopIn
import Derived.Maps.AppendAt
import Derived.Test.YtoinlkdmfclnbaaGreatDoorYP
import Derived.Test.YtoinlkdmfclnbaaGreatDoorYQ
import Derived.Test.YtoinlkdmfclnbaaGreatDoorYV3
import Derived.Test.YtoinlkdmfclnbaaGreatDoorYV6
import Derived.Test.YtoinlkdmfclnbaaGreatDoorYV7
namespace Go.Proofs.YtoinlkdmfclnbaaGreatDoor
set_option linter.unusedVariables false
section
open Go.RowKit Go.Shelf
attribute [local go_sem] Oper.semAt_some
def encI (x : Int) : Array Value := #[Value.int .i64 x]
def Seq (g : Nat) (lb : Array Value) (S : List Int → Prop) (w : World) : Prop :=
 SeqStopsK Fence.wide 3 Tryz.prog g lb encI (Below w.heap.size) S (fun _ => True) 100 w
set_option maxRecDepth 100000 in
set_option maxHeartbeats 2000000 in
theorem appendSeq_in (g : Nat) (lb : Array Value) (S : List Int → Prop) (w : World) (hs : Seq g lb S w) (eg : ∀ args w, (callFunc g args).run Tryz.prog w = .ok (.enter g args) w) :
    CallsIn Fence.wide 4 Tryz.prog 214 #[.slice none 0 0, .func (.func g) #[] lb] w fun e W' => ∃ v xs, S xs ∧ e = .returned v ∧ OwnV W' w.heap.size v xs ∧ Below w.heap.size w W' := by
 obtain ⟨i0, hi, hz0, hz1, hz2⟩ := info_parts int_info
 refine callsIn_of_wp_marks Tryz.func214 rfl trivial ?_ rfl
 simp only [Tryz.ntmps214, List.size_toArray, List.length_cons, List.length_nil, Nat.reduceAdd, Nat.reduceSub, Array.replicate_succ, Array.replicate_zero, List.push_toArray, List.append_toArray, List.nil_append, List.cons_append]
 gi_wp2
 have bO := Boxed.new w 23 (.slice none 0 0)
 have hB0 : Below w.heap.size w (w.alloc (.cells #[.slice none 0 0] 23)) := (Below.refl _ w).alloc (Nat.le_refl _) _
 refine wpIn_rangeFunc_ownG rfl (by omega) (gf := g) (lb := lb) rfl trivial eg hs belowK_t (belowK_b (by simp)) hB0 (fun _ => rfl)
  (fun pre W => (∃ v, Boxed W w.heap.size 23 v ∧ W.ownsRow w.heap.size 3 1 v pre.length (pre.map (Value.int .i64)) ∧ True) ∧ Below w.heap.size w W)
  (fun _ _ _ => False)
  (OwnFrom.and (Own.from (holdsRow_own w.heap.size w.heap.size 23 3 1 (fun pre : List Int => pre.length) (fun pre => pre.map (Value.int .i64)) (fun pre v => True)) _) (ownFrom_below (Nat.le_refl _) (by simp)))
  (fun _ _ _ _ _ hs _ _ => hs)
  ⟨⟨_, bO, World.ownsRow_nil _ _ _ _, trivial⟩, hB0⟩
  (fun x => { tmps := #[.slice none 0 0, .func (.func g) #[] lb, .pointer (some ⟨w.heap.size, 0, none⟩), undef, .slice none 0 0, .int .i64 x, .func (.func g) #[] lb, .int .i64 x, undef, undef, undef, undef, undef], defers := [] }) ?assign ?body ?done ?stop
 case assign =>
  intro l x W K hK
  dsimp only [encI]
  gi_wp2
  exact hK
 case body =>
  rintro l pre x W ⟨⟨v, hv, hrow, _⟩, hB⟩ hlt
  have hc := hv.cell
  gi_wp2_with (gi_at_builtin; refine wpListIn_append_own _ rfl _ _ 23 rfl w.heap.size 3 i0 (.int .i64 0) 1 8 Tryz.underlying23 hi hz0 hz1 hz2 rfl (by decide) _ _ _ rfl (hrow.alloc _) ⟨W.heap.size, 0, none⟩ 1 1 [.int .i64 x] rfl rfl (cell_one_new _ _ _) (by simp [Value.oneCell']) (by unfold maxLen; omega) (by omega) (by have := hB.size; simp; omega) ?_; intro v' w1 hown' hgrow _; obtain ⟨g', cap', rfl⟩ := ownsRow_succ hown'; obtain ⟨hv1, hv2, hr2, hk2, hb2⟩ := hv.appended (by decide) hrow hB.size (Nat.le_refl _) hown' hgrow; have hc1 := hv1.cell; have hf1 := hv1.frozen)
  exact ⟨hk2.from _, hb2, ⟨_, hv2, by simpa using hr2, trivial⟩, hB.trans hb2⟩
 case done =>
  rintro D ys W hD hS ⟨⟨v, hv, hrow, _⟩, hB⟩ hK
  have hc := hv.cell
  gi_wp2
  refine ⟨by simp, .inl ⟨_, _, rfl, run_takeDeferred hK, ?_⟩⟩
  exact ⟨_, results_tmp rfl _ _ _, v, ys, hS, rfl, ownsRow_putObj hrow _ hK rfl, hB.trans (belowK_b (w := w) (Nat.le_refl _) W D _ _ (by simp at hD; omega) hK rfl rfl)⟩
 case stop =>
  rintro D c pre W _ _ h _
  exact h.elim
def Coll (S : List Int → Prop) (w : World) (e : Ending) (w' : World) : Prop := ∃ v xs, S xs ∧ e = .returned v ∧ OwnV w' w.heap.size v xs ∧ Below w.heap.size w w'
set_option maxHeartbeats 800000 in
theorem collect_c (g : Nat) (lb : Array Value) (S : List Int → Prop) (w : World) (hs : Seq g lb S w) (eg : ∀ args w, (callFunc g args).run Tryz.prog w = .ok (.enter g args) w) :
    Calls Tryz.prog 183 #[.func (.func g) #[] lb] w (Coll S w) := by
 go_enter Tryz.func183, Tryz.ntmps183
 go_wp2_with fail
 refine (callsIn_wide.1 (appendSeq_in g lb S w hs eg)).mono ?_
 rintro e w' ⟨v, xs, hS, rfl, hO, hb⟩
 go_wp2_with fail
 go_ret
 exact ⟨v, xs, hS, rfl, hO, hb⟩
def fromX (xs : List Int) (t : Int) : Nat → List Int
 | 0 => []
 | k + 1 => if gI xs k = t then fromX xs t k ++ [(k : Int)] else fromX xs t k
theorem fromX_len (xs : List Int) (t : Int) : ∀ k, (fromX xs t k).length ≤ k
 | 0 => Nat.le_refl _
 | k + 1 => by
  have := fromX_len xs t k
  unfold fromX; split
  · rw [List.length_append]; simp; omega
  · omega
theorem fromX_t {xs : List Int} {t : Int} {k : Nat} (h : gI xs k = t) : fromX xs t (k + 1) = fromX xs t k ++ [(k : Int)] := by rw [fromX, if_pos h]
theorem fromX_f {xs : List Int} {t : Int} {k : Nat} (h : ¬ gI xs k = t) : fromX xs t (k + 1) = fromX xs t k := by rw [fromX, if_neg h]
set_option maxHeartbeats 800000 in
theorem fromSeq_c (A : Option Addr) (n c : Nat) (t : Int) (w : World) :
    Calls Tryz.prog 235 #[.slice A n c, .int .i64 t] w fun e w' => e = .returned (.func (.func 243) #[] #[.pointer (some ⟨w.heap.size, 0, none⟩), .pointer (some ⟨w.heap.size + 1, 0, none⟩)]) ∧ w' = (w.alloc (.cells #[.slice A n c] 124)).alloc (.cells #[.int .i64 t] 3) := by
 go_enter Tryz.func235, Tryz.ntmps235
 go_wp2_with fail
 go_ret
 exact ⟨rfl, rfl⟩
def fromI (xs : List Int) (t : Int) : List Int := if mapOk xs then fromX xs t xs.length else []
theorem fromI_no {xs : List Int} (t : Int) (h : mapOk xs = false) : fromI xs t = [] := by unfold fromI; rw [h]; simp
theorem fromI_ok {xs : List Int} (t : Int) (h : mapOk xs = true) : fromI xs t = fromX xs t xs.length := by unfold fromI; rw [h]; simp
def Nums (xs : List Int) (w : World) (e : Ending) (w' : World) : Prop := ∃ v, e = .returned v ∧ OwnV w' w.heap.size v xs ∧ Below w.heap.size w w'
end
section
open Go.RowKit
set_option maxRecDepth 100000 in
set_option maxHeartbeats 800000 in
theorem sFromOf_c (A : Option Addr) (n c : Nat) (xs : List Int) (t : Int) (w : World) (h : Rd w w.heap.size A n c xs) :
    Calls Tryz.prog 223 #[.slice A n c, .int .i64 t] w (Nums (fromI xs t) w) := by
 have hB0 : Below w.heap.size w (w.alloc (Obj.cells #[] 3)) := (Below.refl _ _).alloc (Nat.le_refl _) _
 have hO0 := OwnV.made w w.heap.size #[] (Nat.le_refl _) rfl
 have h0 := h.up hB0
 have hl := h.len
 have hcp := h.cap
 have hmx := h.max
 unfold maxLen at hmx
 rcases hs : mapOk xs with _ | _
 · have HW := Lib.hid (fromI_no t hs)
   go_enter Tryz.func223, Tryz.ntmps223
   go_wp2_with fail
   generalize w.alloc (Obj.cells #[] 3) = w1 at hB0 hO0 h0 ⊢
   go_loopw [5, 6] (fun v i wr => v = .slice (some ⟨w.heap.size, 0, none⟩) 0 0 ∧ i = .int .i64 0 ∧ wr = w1) (fun _ i _ => 0)
   case atStart => exact ⟨rfl, rfl, rfl⟩
   case round =>
    obtain ⟨rfl, rfl, rfl⟩ := hrel
    by_cases hn : 0 < n
    · go_wp2_with (go_at_call 67; refine (sMapOk_c _ _ _ _ _ h0).mono ?_; rintro e w' ⟨rfl, rfl⟩)
      go_ret
      exact ⟨_, rfl, by rw [HW.out]; exact hO0, hB0⟩
    · go_wp2_with (go_at_call 67; refine (sMapOk_c _ _ _ _ _ h0).mono ?_; rintro e w' ⟨rfl, rfl⟩)
      go_ret
      exact ⟨_, rfl, by rw [HW.out]; exact hO0, hB0⟩
 · have hn7 : n ≤ 7 := by obtain ⟨f, rfl, hf⟩ := mapOk_ex hs; have := hf.le7; rw [ints_len] at hl; omega
   have HW : Hid (fromI xs t = fromX xs t n) := by unfold Hid; rw [fromI_ok t hs, hl]
   go_enter Tryz.func223, Tryz.ntmps223
   go_wp2_with fail
   generalize w.alloc (Obj.cells #[] 3) = w0 at hB0 hO0 h0 ⊢
   go_loopw [5, 6] (fun v i wr => ∃ k : Nat, k ≤ n ∧ i = .int .i64 k ∧ OwnV wr w.heap.size v (fromX xs t k) ∧ Below w.heap.size w wr) (fun _ i _ => n - (intOf i).toNat)
   case atStart => exact ⟨0, Nat.zero_le _, rfl, hO0, hB0⟩
   case round =>
    obtain ⟨k, hk, rfl, hown, hbw⟩ := hrel
    have hrd := h.up hbw
    by_cases hlt : k < n
    · obtain ⟨b, off, rfl, hbb, hcell⟩ := hrd.at_ hlt
      have hln : (fromX xs t k).length ≤ 1000000000000 := by have := fromX_len xs t k; omega
      have hsz := hbw.size
      by_cases he : gI xs k = t
      · have HT := Lib.hid (fromX_t he)
        have hq : (gI xs k == t) = true := by rw [he]; simp
        clear he
        go_wp2_with (first
         | (go_at_call 67; refine (sMapOk_c _ _ _ _ _ hrd).mono ?_; rintro e w' ⟨rfl, rfl⟩)
         | (at_builtin; refine app_int wr _ rfl _ _ rfl w.heap.size _ (fromX xs t k) rfl hown rfl hln hsz ?_; intro v' w3 hown3 hb3))
        go_roundw
        case rel => exact ⟨k + 1, by omega, by go_num, by rw [HT.out]; exact hown3, hbw.trans hb3⟩
        case measure => simp [intOf]; omega
      · have HT := Lib.hid (fromX_f he)
        have hq : (gI xs k == t) = false := by rw [beq_eq_false_iff_ne]; exact he
        clear he
        go_wp2_with (go_at_call 67; refine (sMapOk_c _ _ _ _ _ hrd).mono ?_; rintro e w' ⟨rfl, rfl⟩)
        go_roundw
        case rel => exact ⟨k + 1, by omega, by go_num, by rw [HT.out]; exact hown, hbw⟩
        case measure => simp [intOf]; omega
    · obtain rfl : k = n := by omega
      go_wp2_with fail
      go_ret
      exact ⟨_, rfl, by rw [HW.out]; exact hown, hbw⟩
end
section
open Go.RowKit
theorem OwnIn.keepB {w w' : World} {lo hi n c B : Nat} {A : Option Addr} {xs : List Int} (h : OwnIn w lo hi A n c xs) (hb : Below B w w') (hB : hi ≤ B) : OwnIn w' lo hi A n c xs := h.below hb hB
theorem OwnV.lt {w : World} {B : Nat} {v : Value} {xs : List Int} (h : OwnV w B v xs) {g : Nat} (hg : v.ownBlock = some g) : B ≤ g ∧ g < w.heap.size := World.ownsRow.lt h g hg
def lenV : Value → Nat
 | .slice _ n _ => n
 | _ => 0
theorem OwnV.lenV {w : World} {B : Nat} {v : Value} {xs : List Int} (h : OwnV w B v xs) : Go.Proofs.YtoinlkdmfclnbaaGreatDoor.lenV v = xs.length := by
 obtain ⟨A, c, rfl, _⟩ := h.form
 rfl
theorem treeOkI_tree {f : List Nat} {r : Nat} (h : TreeN f r) : treeOkI (ints f) = true := by
 unfold treeOkI
 rw [loopsI_ok h.map, h.loops]
 simp [gR, ints]
theorem rootI_tree {f : List Nat} {r : Nat} (h : TreeN f r) : rootI (ints f) = (r : Int) := by
 rw [rootI_yes (treeOkI_tree h)]
 have := loopI_ok h.map h.map.pos
 rw [h.lo h.map.pos] at this
 exact this
set_option maxRecDepth 100000 in
set_option maxHeartbeats 6400000 in
theorem codeOf_ok (A : Option Addr) (kc : Nat) (c : List Nat) (w : World) (h : Rd w w.heap.size A (c.length + 1) kc (ints (treeN c))) (hc : CodeN c) :
    Calls Tryz.prog 155 #[.slice A (c.length + 1) kc] w fun e w' => ∃ v, e = .returned (.tuple #[v, .bool true]) ∧ OwnV w' w.heap.size v (ints c) ∧ Below w.heap.size w w' := by
 have h6 := hc.le6
 have hT := treeN_tree hc
 have hok := treeOkI_tree hT
 have hro := rootI_tree hT
 have hrt := rt_le hc
 obtain ⟨i0, hi, hz0, hz1, hz2⟩ := info_parts int_info
 obtain ⟨b0, off0, rfl, hb0, hcells0⟩ := h.2.2.2 (by omega)
 have HC : Hid (∀ k, k < c.length + 1 → w.cell? ⟨b0, off0 + k, none⟩ = some (.int .i64 ((nx (treeN c) k : Nat) : Int))) := fun k hk => by rw [hcells0 k hk, gI_ints]
 clear hcells0
 have hcap := h.cap
 have hmax := h.max
 unfold maxLen at hmax
 go_enter Tryz.func155, Tryz.ntmps155
 go_wp2_with fail
 refine (treeOk_c _ _ _ _ _ h).mono ?_
 rintro e w1 ⟨rfl, hb1⟩
 rw [hok]
 go_wp2_with fail
 refine (rootOf_c _ _ _ _ _ (h.up hb1)).mono ?_
 rintro e w2 ⟨rfl, hb2⟩
 rw [hro]
 have hB2 := bt hb1 hb2
 clear hb1 hb2 hok hro
 have hGw : w.heap.size ≤ w2.heap.size := hB2.size
 go_wp2_with (at_make; refine wpList_make_full _ rfl _ _ 23 rfl w2.heap.size 3 i0 (.int .i64 0) 1 Tryz.underlying23 hi hz0 hz1 _ _ _ _ (c.length + 1) rfl rfl (by omega) (by omega) (by rw [hz2]; omega) (by unfold maxLen; omega) (Nat.le_refl _) ?_)
 intro w3 hown3 hg3
 have hb3 : Below w2.heap.size w2 w3 := (Below.refl _ _).grown hg3 (Nat.le_refl _) (fun k hk => by cases hk)
 have hB3 := bt hB2 hb3
 have ho3 : OwnIn w3 w2.heap.size (w2.heap.size + 1) (some ⟨w2.heap.size, 0, none⟩) (c.length + 1) (c.length + 1) (ints (cnK (treeN c) 0)) := by
  have := tree_start (w := w3) (B := w2.heap.size) (n := c.length + 1) (r := 0) (by omega) (by simpa [toList_madeCells_one, Value.cells] using hown3)
  rw [cnK_zero, treeN_len]; exact this
 generalize w2.heap.size = G at ho3 hGw ⊢
 clear hown3 hg3 hb3 hB2 w2 w1
 go_wp2_with fail
 go_loopw [22] (fun i wr => ∃ j : Nat, j ≤ c.length + 1 ∧ i = .int .i64 j ∧ OwnIn wr G (G + 1) (some ⟨G, 0, none⟩) (c.length + 1) (c.length + 1) (ints (cnK (treeN c) j)) ∧ Below w.heap.size w wr) (fun i _ => c.length + 1 - (intOf i).toNat)
 case atStart => exact ⟨0, Nat.zero_le _, rfl, ho3, hB3⟩
 case round =>
  obtain ⟨j, hj, rfl, ho, hbw⟩ := hrel
  clear ho3 hB3 w3
  by_cases hlt : j < c.length + 1
  · have hdl : decide ((j : Int) < (c.length : Int) + 1) = true := decide_eq_true (by omega)
    have hcell : wr.cell? ⟨b0, off0 + j, none⟩ = some (.int .i64 ((nx (treeN c) j : Nat) : Int)) := by rw [hbw.cell (p := ⟨b0, off0 + j, none⟩) hb0, HC.out j hlt]
    have hx := hT.map.has j (by rw [treeN_len]; omega)
    have hle := cnK_le (i := j) hx
    rw [treeN_len] at hx hle
    have hold : wr.cell? ⟨G, nx (treeN c) j, none⟩ = some (.int .i64 ((nx (cnK (treeN c) j) (nx (treeN c) j) : Nat) : Int)) := by rw [ho.cell (by omega), gI_ints]
    have hfz := ho.frozen (nx (treeN c) j)
    have HST := Lib.hid (ho.store (nx (treeN c) j) ((nx (cnK (treeN c) j) (nx (treeN c) j) : Int) + 1))
    have hGr : G < wr.heap.size := (ho.lt G rfl).2.2
    have HB := Lib.hid hbw
    have HSZ := Lib.hid hGr
    have hsu := Lib.hid (cnK_succ (f := treeN c) (i := j) (by rw [treeN_len]; omega))
    clear ho hbw hGr
    go_wp2
    go_roundw
    case rel => exact ⟨j + 1, by omega, by go_num, by
     have := HST.out.1
     rw [← hsu.out, ints_set]
     rwa [show ((nx (cnK (treeN c) j) (nx (treeN c) j) : Int) + 1) = ((nx (cnK (treeN c) j) (nx (treeN c) j) + 1 : Nat) : Int) by omega] at this, HB.out.trans (HST.out.2.below' hGw (by have := HSZ.out; omega))⟩
    case measure => simp [intOf]; omega
  · obtain rfl : j = c.length + 1 := by omega
    have hdl : decide (((c.length + 1 : Nat) : Int) < (c.length : Int) + 1) = false := decide_eq_false (by omega)
    have hz := leftR_zero hc
    rw [treeN_len] at hz
    rw [hz] at ho
    clear hz
    have hw1 : IntKind.i64.wrap ((c.length : Int) + 1 - 1) = (c.length : Int) := by rw [show (c.length : Int) + 1 - 1 = (c.length : Int) by omega]; exact IntWalk.i64_in _ (by omega)
    go_wp2_with (at_make; refine wpList_make_own _ rfl _ _ 23 rfl wr.heap.size 3 i0 (.int .i64 0) 1 Tryz.underlying23 hi hz0 hz1 _ _ _ c.length rfl rfl (by omega) (by rw [hz2]; omega) (by unfold maxLen; omega) (Nat.le_refl _) ?_)
    intro w4 hown4 hg4
    have hb4 : Below wr.heap.size wr w4 := (Below.refl _ _).grown hg4 (Nat.le_refl _) (fun k hk => by cases hk)
    have ho4 : OwnV w4 wr.heap.size (.slice (some ⟨wr.heap.size, 0, none⟩) 0 c.length) (ints (c.take 0)) := hown4
    have hl4 := ho.up hb4
    have hB4 := bt hbw hb4
    have hGB : G < wr.heap.size := (ho.lt G rfl).2.2
    have hlt4 : wr.heap.size < w4.heap.size := (OwnV.lt ho4 (g := wr.heap.size) rfl).2
    generalize wr.heap.size = Bc at ho4 hGB hlt4 ⊢
    clear hown4 hg4 hb4 ho hbw
    go_wp2_with fail
    go_loopw [8, 39] (fun v t x => ∃ i a : Nat, i ≤ c.length + 1 ∧ t = .int .i64 i ∧ a ≤ c.length ∧ (∀ j, j < i → freeC c (lfs c a) a j = false) ∧ OwnV x Bc v (ints (c.take a)) ∧ OwnIn x G (G + 1) (some ⟨G, 0, none⟩) (c.length + 1) (c.length + 1) (leftR c a) ∧ Below w.heap.size w x ∧ Bc ≤ x.heap.size) (fun v t _ => c.length + 1 - (intOf t).toNat)
    case atStart => exact ⟨0, 0, Nat.zero_le _, rfl, Nat.zero_le _, fun j hj => absurd hj (Nat.not_lt_zero _), ho4, hl4, hB4, by omega⟩
    case round =>
     obtain ⟨i, a, hil, rfl, hal0, hno, ho, hl, hbw, hzw⟩ := hrel
     obtain ⟨v, rfl⟩ : ∃ v : Value, v = u8 := ⟨_, rfl⟩
     clear ho4 hl4 hB4 hlt4 hj hlt hdl
     by_cases hlt : i < c.length + 1
     · have hdl : decide ((i : Int) < (c.length : Int) + 1) = true := decide_eq_true (by omega)
       have hpt := Lib.hid (Ptr.start hno)
       clear hno
       go_wp2_with fail
       refine wp_scope_jumps 0 (fun (a' : Act) (w' : World) => ∃ (a leaf : Nat) (v u11 u42 u43 u44 u45 u46 u47 u48 u49 u50 u51 u52 u53 u54 u55 u56 u57 u58 u59 u60 u61 u62 u63 u64 u65 u66 u67 u68 u69 u70 u71 u72 u73 : Value), a' = ⟨#[.slice (some ⟨b0, off0, none⟩) (c.length + 1) kc, undef, .slice none 0 0, .bool false, .int .i64 (rt c : Int), .slice (some ⟨G, 0, none⟩) (c.length + 1) (c.length + 1), undef, u7, v, .int .i64 (i : Int), .int .i64 (leaf : Int), u11, .slice (some ⟨b0, off0, none⟩) (c.length + 1) kc, .bool true, .bool false, .slice (some ⟨b0, off0, none⟩) (c.length + 1) kc, .int .i64 (rt c : Int), .slice (some ⟨b0, off0, none⟩) (c.length + 1) kc, .int .i64 ((c.length : Int) + 1), .slice (some ⟨G, 0, none⟩) (c.length + 1) (c.length + 1), .slice (some ⟨b0, off0, none⟩) (c.length + 1) kc, .int .i64 ((c.length : Int) + 1), .int .i64 ((c.length : Int) + 1), .bool false, u24, u25, u26, u27, u28, u29, u30, u31, u32, .slice (some ⟨b0, off0, none⟩) (c.length + 1) kc, .int .i64 ((c.length : Int) + 1), .int .i64 (c.length : Int), .slice (some ⟨Bc, 0, none⟩) 0 c.length, .slice (some ⟨b0, off0, none⟩) (c.length + 1) kc, .int .i64 ((c.length : Int) + 1), .int .i64 (i : Int), .bool true, .int .i64 (i : Int), u42, u43, u44, u45, u46, u47, u48, u49, u50, u51, u52, u53, u54, u55, u56, u57, u58, u59, u60, u61, u62, u63, u64, u65, u66, u67, u68, u69, u70, u71, u72, u73, u74, undef], []⟩ ∧ a ≤ c.length ∧ Ptr c a i leaf ∧ OwnV w' Bc v (ints (c.take a)) ∧ OwnIn w' G (G + 1) (some ⟨G, 0, none⟩) (c.length + 1) (c.length + 1) (leftR c a) ∧ Below w.heap.size w w' ∧ Bc ≤ w'.heap.size) (fun a' _ => c.length - lenV (a'.tmps.getD 8 undef)) rfl ?_ ?_
       · go_wp2_with fail
         go_step3
         have hp := hpt.out
         have ha := hal0
         clear hpt
         have hle := hp.le
         have hgl : i ≤ c.length := by omega
         have HP := Lib.hid hp
         have HO := Lib.hid ho
         have HL := Lib.hid hl
         have HB := Lib.hid hbw
         have HZ := Lib.hid hzw
         have hcL := hl.cell (j := i) (by omega)
         have hfL := hl.frozen i
         clear hp ho hl hbw hzw
         by_cases h1 : i = rt c
         · have hq := eqq_bool h1
           have HN : Hid (freeC c (lfs c a) a i = false) := by
            rcases e : freeC c (lfs c a) a i with _ | _
            · exact rfl
            · exact absurd h1 (freeC_iff.1 e).1
           clear h1
           go_wp2
           try simp only [Exit.jump]
           go_wp2
           go_roundw
           case rel => exact ⟨i + 1, a, by omega, by go_num, by omega, HP.out.stop HN.out, HO.out, HL.out, HB.out, HZ.out⟩
           case measure => simp [intOf]; omega
         · have hq := neq_bool h1
           by_cases h2 : gI (leftR c a) i = 0
           · have HF : Hid (freeC c (lfs c a) a i = true) := (leftR_free hgl).2 ⟨h1, h2⟩
             have hq2 : (gI (leftR c a) i != 0) = false := by simp [h2]
             have hal := free_lt hc ha hgl HF.out
             have hnl := nx_le hc hal
             have hb0G : b0 < G := by omega
             have hx : -1 ≤ gI ((leftR c a).set i (-1)) (nx c a) ∧ gI ((leftR c a).set i (-1)) (nx c a) ≤ 8 := leftR_bound hc a i hnl
             obtain ⟨hx1, hx2⟩ := hx
             have HE : Hid (lf c a = i) := HP.out.leaf_is (by omega) HF.out
             have S1 := HL.out.store i (-1)
             have hG1 : G < wr.heap.size := (HL.out.lt _ rfl).2.2
             have hs1 : (wr.setCell ⟨G, i, none⟩ (.int .i64 (-1))).heap.size = wr.heap.size := by simp [World.setCell]
             have HB1 : Hid (Below w.heap.size w (wr.setCell ⟨G, i, none⟩ (.int .i64 (-1)))) := HB.out.trans (S1.2.below' (by omega) (by omega))
             have O1 := HO.out.chg S1.2 (by omega)
             have hcell : (wr.setCell ⟨G, i, none⟩ (.int .i64 (-1))).cell? ⟨b0, off0 + i, none⟩ = some (.int .i64 (nx c a : Int)) := by
              rw [HB1.out.cell (p := ⟨b0, off0 + i, none⟩) hb0, HC.out i (by omega), ← HE.out, nx_treeN hc hal]
             have hln : (ints (c.take a)).length ≤ 1000000000000 := by rw [ints_len, List.length_take]; omega
             have hsz1 : Bc ≤ (wr.setCell ⟨G, i, none⟩ (.int .i64 (-1))).heap.size := by rw [hs1]; exact HZ.out
             have HL1 := Lib.hid S1.1
             have HSE := Lib.hid hs1
             have HNX := Lib.hid (leftR_next hc HP.out (by omega) hal HF.out)
             have HG1 := Lib.hid hG1
             clear S1 h2 h1 hs1 hG1
             go_wp2_with (at_builtin; refine app_int (wr.setCell ⟨G, i, none⟩ (.int .i64 (-1))) _ rfl _ _ rfl Bc v (ints (c.take a)) rfl O1 (by rw [HSE.out]; rfl) hln hsz1 ?_)
             intro v2 w4 O4 hb4
             have L4 := HL1.out.keepB hb4 hGB
             have HB4 := Lib.hid (HB1.out.trans (hb4.mono (by omega)))
             have hc3 := L4.cell (j := nx c a) (by omega)
             have hf3 := L4.frozen (nx c a)
             have S3 := L4.store (nx c a) (gI ((leftR c a).set i (-1)) (nx c a) - 1)
             have O5 := Lib.hid (O4.chg S3.2 (by omega))
             rw [HNX.out] at S3
             have HL5 := Lib.hid S3.1
             have hG4 : G < w4.heap.size := (L4.lt G rfl).2.2
             have HZ5 : Hid (Bc ≤ (w4.setCell ⟨G, nx c a, none⟩ (.int .i64 (gI ((leftR c a).set i (-1)) (nx c a) - 1))).heap.size) := by unfold Hid; have := hb4.size; simp only [World.setCell, Array.size_modify]; omega
             have HB5 := Lib.hid (HB4.out.trans (S3.2.below' (B := w.heap.size) (by omega) (by omega)))
             have HT : Hid (ints (c.take a) ++ [(nx c a : Int)] = ints (c.take (a + 1))) := by unfold Hid; rw [List.take_succ_eq_append_getElem hal, ints_append, nx_get hal]; rfl
             rw [HT.out] at O5
             clear L4 S3 O4 hb4 hG4 O1
             by_cases h3 : nx c a < i
             · go_wp2
               go_step3
               refine ⟨rfl, ⟨a + 1, nx c a, _, _, _, _, _, _, _, _, _, _, _, _, _, _, _, _, _, _, _, _, _, _, _, _, _, _, _, _, _, _, _, _, _, _, rfl, by omega, HP.out.again hc (by omega) hal HF.out h3, O5.out, HL5.out, HB5.out, HZ5.out⟩⟩
             · go_wp2
               try simp only [Exit.jump]
               go_wp2
               go_roundw
               case rel => exact ⟨i + 1, a + 1, by omega, by go_num, by omega, HP.out.onward hc (by omega) hal HF.out (by omega), O5.out, HL5.out, HB5.out, HZ5.out⟩
               case measure => simp [intOf]; omega
           · have HN : Hid (freeC c (lfs c a) a i = false) := by
              rcases e : freeC c (lfs c a) a i with _ | _
              · exact rfl
              · exact absurd ((leftR_free hgl).1 e).2 h2
             have hq2 : (gI (leftR c a) i != 0) = true := by simp [h2]
             clear h1 h2
             go_wp2
             try simp only [Exit.jump]
             go_wp2
             go_roundw
             case rel => exact ⟨i + 1, a, by omega, by go_num, by omega, HP.out.stop HN.out, HO.out, HL.out, HB.out, HZ.out⟩
             case measure => simp [intOf]; omega
       · rintro a' w' ⟨a, leaf, v, u11, u42, u43, u44, u45, u46, u47, u48, u49, u50, u51, u52, u53, u54, u55, u56, u57, u58, u59, u60, u61, u62, u63, u64, u65, u66, u67, u68, u69, u70, u71, u72, u73, rfl, ha, hp, ho, hl, hbw, hzw⟩
         obtain ⟨wr, rfl⟩ : ∃ wr : World, wr = w' := ⟨_, rfl⟩
         clear hpt
         have hle := hp.le
         have hgl : leaf ≤ c.length := by omega
         have HP := Lib.hid hp
         have HO := Lib.hid ho
         have HL := Lib.hid hl
         have HB := Lib.hid hbw
         have HZ := Lib.hid hzw
         have hcL := hl.cell (j := leaf) (by omega)
         have hfL := hl.frozen leaf
         clear hp ho hl hbw hzw
         by_cases h1 : leaf = rt c
         · have hq := eqq_bool h1
           have HN : Hid (freeC c (lfs c a) a leaf = false) := by
            rcases e : freeC c (lfs c a) a leaf with _ | _
            · exact rfl
            · exact absurd h1 (freeC_iff.1 e).1
           clear h1
           go_wp2
           try simp only [Exit.jump]
           go_wp2
           go_roundw
           case rel => exact ⟨i + 1, a, by omega, by go_num, by omega, HP.out.stop HN.out, HO.out, HL.out, HB.out, HZ.out⟩
           case measure => simp [intOf]; omega
         · have hq := neq_bool h1
           by_cases h2 : gI (leftR c a) leaf = 0
           · have HF : Hid (freeC c (lfs c a) a leaf = true) := (leftR_free hgl).2 ⟨h1, h2⟩
             have hq2 : (gI (leftR c a) leaf != 0) = false := by simp [h2]
             have hal := free_lt hc ha hgl HF.out
             have hnl := nx_le hc hal
             have hb0G : b0 < G := by omega
             have hx : -1 ≤ gI ((leftR c a).set leaf (-1)) (nx c a) ∧ gI ((leftR c a).set leaf (-1)) (nx c a) ≤ 8 := leftR_bound hc a leaf hnl
             obtain ⟨hx1, hx2⟩ := hx
             have HE : Hid (lf c a = leaf) := HP.out.leaf_is (by omega) HF.out
             have S1 := HL.out.store leaf (-1)
             have hG1 : G < wr.heap.size := (HL.out.lt _ rfl).2.2
             have hs1 : (wr.setCell ⟨G, leaf, none⟩ (.int .i64 (-1))).heap.size = wr.heap.size := by simp [World.setCell]
             have HB1 : Hid (Below w.heap.size w (wr.setCell ⟨G, leaf, none⟩ (.int .i64 (-1)))) := HB.out.trans (S1.2.below' (by omega) (by omega))
             have O1 := HO.out.chg S1.2 (by omega)
             have hcell : (wr.setCell ⟨G, leaf, none⟩ (.int .i64 (-1))).cell? ⟨b0, off0 + leaf, none⟩ = some (.int .i64 (nx c a : Int)) := by
              rw [HB1.out.cell (p := ⟨b0, off0 + leaf, none⟩) hb0, HC.out leaf (by omega), ← HE.out, nx_treeN hc hal]
             have hln : (ints (c.take a)).length ≤ 1000000000000 := by rw [ints_len, List.length_take]; omega
             have hsz1 : Bc ≤ (wr.setCell ⟨G, leaf, none⟩ (.int .i64 (-1))).heap.size := by rw [hs1]; exact HZ.out
             have HL1 := Lib.hid S1.1
             have HSE := Lib.hid hs1
             have HNX := Lib.hid (leftR_next hc HP.out (by omega) hal HF.out)
             have HG1 := Lib.hid hG1
             clear S1 h2 h1 hs1 hG1
             go_wp2_with (at_builtin; refine app_int (wr.setCell ⟨G, leaf, none⟩ (.int .i64 (-1))) _ rfl _ _ rfl Bc v (ints (c.take a)) rfl O1 (by rw [HSE.out]; rfl) hln hsz1 ?_)
             intro v2 w4 O4 hb4
             have L4 := HL1.out.keepB hb4 hGB
             have HB4 := Lib.hid (HB1.out.trans (hb4.mono (by omega)))
             have hc3 := L4.cell (j := nx c a) (by omega)
             have hf3 := L4.frozen (nx c a)
             have S3 := L4.store (nx c a) (gI ((leftR c a).set leaf (-1)) (nx c a) - 1)
             have O5 := Lib.hid (O4.chg S3.2 (by omega))
             rw [HNX.out] at S3
             have HL5 := Lib.hid S3.1
             have hG4 : G < w4.heap.size := (L4.lt G rfl).2.2
             have HZ5 : Hid (Bc ≤ (w4.setCell ⟨G, nx c a, none⟩ (.int .i64 (gI ((leftR c a).set leaf (-1)) (nx c a) - 1))).heap.size) := by unfold Hid; have := hb4.size; simp only [World.setCell, Array.size_modify]; omega
             have HB5 := Lib.hid (HB4.out.trans (S3.2.below' (B := w.heap.size) (by omega) (by omega)))
             have HT : Hid (ints (c.take a) ++ [(nx c a : Int)] = ints (c.take (a + 1))) := by unfold Hid; rw [List.take_succ_eq_append_getElem hal, ints_append, nx_get hal]; rfl
             rw [HT.out] at O5
             clear L4 S3 O4 hb4 hG4 O1
             by_cases h3 : nx c a < i
             · go_wp2
               go_step3
               refine ⟨rfl, ⟨a + 1, nx c a, _, _, _, _, _, _, _, _, _, _, _, _, _, _, _, _, _, _, _, _, _, _, _, _, _, _, _, _, _, _, _, _, _, _, rfl, by omega, HP.out.again hc (by omega) hal HF.out h3, O5.out, HL5.out, HB5.out, HZ5.out⟩, ?_⟩
               have e1 := HO.out.lenV
               have e2 := O5.out.lenV
               rw [ints_len, List.length_take] at e1 e2
               show c.length - lenV v2 < c.length - lenV v
               omega
             · go_wp2
               try simp only [Exit.jump]
               go_wp2
               go_roundw
               case rel => exact ⟨i + 1, a + 1, by omega, by go_num, by omega, HP.out.onward hc (by omega) hal HF.out (by omega), O5.out, HL5.out, HB5.out, HZ5.out⟩
               case measure => simp [intOf]; omega
           · have HN : Hid (freeC c (lfs c a) a leaf = false) := by
              rcases e : freeC c (lfs c a) a leaf with _ | _
              · exact rfl
              · exact absurd ((leftR_free hgl).1 e).2 h2
             have hq2 : (gI (leftR c a) leaf != 0) = true := by simp [h2]
             clear h1 h2
             go_wp2
             try simp only [Exit.jump]
             go_wp2
             go_roundw
             case rel => exact ⟨i + 1, a, by omega, by go_num, by omega, HP.out.stop HN.out, HO.out, HL.out, HB.out, HZ.out⟩
             case measure => simp [intOf]; omega
     · obtain rfl : i = c.length + 1 := by omega
       have hdl : decide (((c.length + 1 : Nat) : Int) < (c.length : Int) + 1) = false := decide_eq_false (by omega)
       obtain rfl := Ptr.end_ hc hal0 hno
       have HO := Lib.hid ho
       clear ho hno
       go_wp2
       go_ret2
       exact ⟨_, rfl, OwnV.more (B := Bc) (by have := HO.out; rwa [List.take_length] at this) (by omega), hbw⟩
end
section
open Go.RowKit
theorem meas_len {w : World} {B a : Nat} {v : Value} {c : List Nat} {A : Option Addr} {k : Nat} {u : List Int} (h : OwnV w B v (ints (c.take (a + 1)))) (hu : u.length = a) (hlt : a < c.length) : c.length - lenV v < c.length - lenV (.slice A a k) := by
 have := h.lenV
 rw [ints_len, List.length_take] at this
 show c.length - lenV v < c.length - a
 omega
set_option maxRecDepth 100000 in
set_option maxHeartbeats 6400000 in
theorem sCodeOf_ok (A : Option Addr) (kc : Nat) (c : List Nat) (w : World) (h : Rd w w.heap.size A (c.length + 1) kc (ints (treeN c))) (hc : CodeN c) :
    Calls Tryz.prog 61 #[.slice A (c.length + 1) kc] w fun e w' => ∃ v, e = .returned (.tuple #[v, .bool true]) ∧ OwnV w' w.heap.size v (ints c) ∧ Below w.heap.size w w' := by
 have h6 := hc.le6
 have hT := treeN_tree hc
 have hok := treeOkI_tree hT
 have hro := rootI_tree hT
 have hrt := rt_le hc
 obtain ⟨b0, off0, rfl, hb0, hcells0⟩ := h.2.2.2 (by omega)
 have HC : Hid (∀ k, k < c.length + 1 → w.cell? ⟨b0, off0 + k, none⟩ = some (.int .i64 ((nx (treeN c) k : Nat) : Int))) := fun k hk => by rw [hcells0 k hk, gI_ints]
 clear hcells0
 have hcap := h.cap
 have hmax := h.max
 unfold maxLen at hmax
 go_enter Tryz.func61, Tryz.ntmps61
 go_wp2_with fail
 refine (sTreeOk_c _ _ _ _ _ h).mono ?_
 rintro e w1 ⟨rfl, hb1⟩
 rw [hok]
 have hO1 : OwnV (w1.alloc (Obj.cells #[] 3)) w.heap.size (.slice (some ⟨w1.heap.size, 0, none⟩) 0 0) [] := (OwnV.made w1 w1.heap.size #[] (Nat.le_refl _) rfl).more hb1.size
 have hb2 : Below w.heap.size w (w1.alloc (Obj.cells #[] 3)) := hb1.alloc hb1.size _
 have hrd2 := h.up hb2
 go_wp2_with fail
 generalize w1.alloc (Obj.cells #[] 3) = w2 at hO1 hb2 hrd2 ⊢
 refine (sRootOf_c _ _ _ _ _ hrd2).mono ?_
 rintro e w3 ⟨rfl, hb3⟩
 rw [hro]
 have hO3 : OwnV w3 w.heap.size (.slice (some ⟨w1.heap.size, 0, none⟩) 0 0) (ints (c.take 0)) := hO1.up hb3
 have hB3 := bt hb2 hb3
 have hw1 : IntKind.i64.wrap ((c.length : Int) + 1 - 1) = (c.length : Int) := by rw [show (c.length : Int) + 1 - 1 = (c.length : Int) by omega]; exact IntWalk.i64_in _ (by omega)
 generalize w1.heap.size = G at hO3 hO1 ⊢
 clear hb1 hok hro hO1 hb2 hrd2 hb3
 go_wp2_with fail
 go_loopw [4, 5] (fun v g wr => ∃ a : Nat, a ≤ c.length ∧ g = .int .i64 ((gm c a : Nat) : Int) ∧ OwnV wr w.heap.size v (ints (c.take a)) ∧ Below w.heap.size w wr) (fun v g _ => c.length - lenV v)
 case atStart => exact ⟨0, Nat.zero_le _, rfl, hO3, hB3⟩
 case round =>
  obtain ⟨a, ha, rfl, ho, hbw⟩ := hrel
  clear hO3 hB3 w3 w2 w1
  obtain ⟨A2, c2, rfl, hO2⟩ := ho.form
  have hla : (ints (c.take a)).length = a := by rw [ints_len, List.length_take]; omega
  have hcp2 := hO2.rd.cap
  rw [hla] at ho hO2 hcp2 ⊢
  have hmx2 := hO2.rd.max
  unfold maxLen at hmx2
  clear hO2
  by_cases hlt : a < c.length
  · have hlv := lvs hc a ha
    have hgm := gm_lt hc ha
    have HF := Lib.hid (hlv.free hc hlt)
    have HO := Lib.hid ho
    have HB := Lib.hid hbw
    have HLA := Lib.hid hla
    clear ho hbw hlv hla
    go_wp2_with fail
    obtain ⟨wo, rfl⟩ : ∃ wo : World, wo = wr := ⟨_, rfl⟩
    go_loopw [4, 5, 7] (fun v g t wr => ∃ k : Nat, k ≤ c.length + 1 ∧ t = .int .i64 k ∧ g = .int .i64 ((gm c a : Nat) : Int) ∧ v = .slice A2 a c2 ∧ (∀ j, j < k → freeC c (lfs c a) a j = false) ∧ wr = wo) (fun v g t _ => c.length + 1 - (intOf t).toNat)
    case atStart => exact ⟨0, Nat.zero_le _, rfl, rfl, rfl, fun j hj => absurd hj (Nat.not_lt_zero _), rfl⟩
    case round =>
     obtain ⟨k, hk, rfl, rfl, rfl, hno, rfl⟩ := hrel
     have HN := Lib.hid hno
     clear hno
     by_cases hkl : k < c.length + 1
     · have hdk : decide ((k : Int) < (c.length : Int) + 1) = true := decide_eq_true (by omega)
       have hob := even_bit (gm c a) k
       have hsr := shr_bit (gm c a) k
       have h27 := two_le (k := k) (by omega)
       have hi1 : (1 : Int) ≤ 2 ^ k := by rw [castPow]; omega
       have hi2 : (2 : Int) ^ k ≤ 128 := by rw [castPow]; omega
       have hor : bits .or .i64 ((gm c a : Nat) : Int) (2 ^ k) = ((gm c a ||| 2 ^ k : Nat) : Int) := by
        rw [castPow]; exact bits_or _ _ (by omega) (by omega)
       clear h27
       have hcase : k = rt c ∨ (k ≠ rt c ∧ (gm c a).testBit k = true) ∨ (k ≠ rt c ∧ (gm c a).testBit k = false) := by
        by_cases h1 : k = rt c
        · exact .inl h1
        · rcases h2 : (gm c a).testBit k with _ | _
          · exact .inr (.inr ⟨h1, rfl⟩)
          · exact .inr (.inl ⟨h1, rfl⟩)
       rcases hcase with h1 | ⟨h1, h2⟩ | ⟨h1, h2⟩
       · have hq := eq_bool h1
         have HFr : Hid (FrT c a k 0 false) := FrT.start ⟨fun h => (by cases h), fun h => absurd h1 h.1⟩
         clear h1
         go_wp2_with fail
         go_loop [8, 9] (fun fr j => ∃ (b : Bool) (t : Nat), t ≤ c.length + 1 ∧ j = .int .i64 t ∧ fr = .bool b ∧ FrT c a k t b) (fun fr j => c.length + 1 - (intOf j).toNat)
         case atStart => exact ⟨_, 0, by omega, rfl, rfl, HFr.out⟩
         case round =>
          obtain ⟨b, t, htc, rfl, rfl, hFr⟩ := hrel
          have HF2 := Lib.hid hFr
          clear hFr
          by_cases htl : t < c.length + 1
          · have hdt : decide ((t : Int) < (c.length : Int) + 1) = true := decide_eq_true (by omega)
            have hcell := (HB.out.cell (p := ⟨b0, off0 + t, none⟩) hb0).trans (HC.out t htl)
            have hob2 := even_bit (gm c a) t
            have hsr2 := shr_bit (gm c a) t
            by_cases he : nx (treeN c) t = k
            · have hq2 := eqq_bool he
              have HE := Lib.hid he
              clear he
              rcases hbt : (gm c a).testBit t with _ | _
              · rw [hbt] at hob2
                by_cases htk : t = k
                · have hq3 := eq_bool htk
                  have HK := Lib.hid htk
                  clear htk hbt
                  go_wp2
                  go_round
                  case rel => exact ⟨b, t + 1, by omega, by go_num, rfl, HF2.out.keep (.inr (.inr HK.out))⟩
                  case measure => simp [intOf]; omega
                · have hq3 := ne_bool htk
                  have HK := Lib.hid htk
                  have HG : Hid (t ∉ lfs c a) := fun hm => by rw [(gm_bit c t a).2 hm] at hbt; cases hbt
                  clear htk hbt
                  go_wp2
                  go_round
                  case rel => exact ⟨false, t + 1, by omega, by go_num, rfl, FrT.drop HE.out HG.out HK.out⟩
                  case measure => simp [intOf]; omega
              · have HG : Hid (t ∈ lfs c a) := (gm_bit c t a).1 hbt
                rw [hbt] at hob2
                clear hbt
                go_wp2
                go_round
                case rel => exact ⟨b, t + 1, by omega, by go_num, rfl, HF2.out.keep (.inr (.inl HG.out))⟩
                case measure => simp [intOf]; omega
            · have hq2 := neq_bool he
              have HE := Lib.hid he
              clear he hob2 hsr2
              go_wp2
              go_round
              case rel => exact ⟨b, t + 1, by omega, by go_num, rfl, HF2.out.keep (.inl HE.out)⟩
              case measure => simp [intOf]; omega
          · obtain rfl : t = c.length + 1 := by omega
            have hdt : decide (((c.length + 1 : Nat) : Int) < (c.length : Int) + 1) = false := decide_eq_false (by omega)
            have HD : Hid (b = freeC c (lfs c a) a k) := HF2.out.done hc ha (by omega)
            rcases b with _ | _
            · go_wp2
              go_roundw
              case rel => exact ⟨k + 1, by omega, by go_num, rfl, rfl, fun j hj => by
               rcases Nat.lt_or_ge j k with h' | h'
               · exact HN.out j h'
               · obtain rfl : j = k := by omega
                 exact HD.out.symm, by first | rfl | trivial⟩
              case measure => simp [intOf]; omega
            · have HK : Hid (lf c a = k) := minF_is (by omega) HD.out.symm HN.out
              have hcell := (HB.out.cell (p := ⟨b0, off0 + k, none⟩) hb0).trans (HC.out k hkl)
              have HX : Hid (nx (treeN c) k = nx c a) := by unfold Hid; rw [← HK.out]; exact nx_treeN hc hlt
              have hO := HO.out
              have hln : (ints (c.take a)).length ≤ 1000000000000 := by rw [ints_len, List.length_take]; omega
              have hsz := HB.out.size
              go_wp2_with (at_builtin; refine app_int wr _ rfl _ _ rfl w.heap.size _ (ints (c.take a)) rfl hO rfl hln hsz ?_; intro v2 w4 hown4 hb4)
              rw [HX.out] at hown4
              have HT : Hid (ints (c.take a) ++ [(nx c a : Int)] = ints (c.take (a + 1))) := by unfold Hid; rw [List.take_succ_eq_append_getElem hlt, ints_append, nx_get hlt]; rfl
              rw [HT.out] at hown4
              go_wp2
              go_roundw
              case rel => exact ⟨a + 1, by omega, by rw [gm_succ, HK.out], hown4, HB.out.trans hb4⟩
              case measure => exact meas_len hown4 HLA.out hlt
       · have hq := ne_bool h1
         have HFr : Hid (FrT c a k 0 false) := FrT.start ⟨fun h => (by cases h), fun h => absurd ((gm_bit c k a).1 h2) h.2⟩
         rw [h2] at hob
         clear h1
         go_wp2_with fail
         go_loop [8, 9] (fun fr j => ∃ (b : Bool) (t : Nat), t ≤ c.length + 1 ∧ j = .int .i64 t ∧ fr = .bool b ∧ FrT c a k t b) (fun fr j => c.length + 1 - (intOf j).toNat)
         case atStart => exact ⟨_, 0, by omega, rfl, rfl, HFr.out⟩
         case round =>
          obtain ⟨b, t, htc, rfl, rfl, hFr⟩ := hrel
          have HF2 := Lib.hid hFr
          clear hFr
          by_cases htl : t < c.length + 1
          · have hdt : decide ((t : Int) < (c.length : Int) + 1) = true := decide_eq_true (by omega)
            have hcell := (HB.out.cell (p := ⟨b0, off0 + t, none⟩) hb0).trans (HC.out t htl)
            have hob2 := even_bit (gm c a) t
            have hsr2 := shr_bit (gm c a) t
            by_cases he : nx (treeN c) t = k
            · have hq2 := eqq_bool he
              have HE := Lib.hid he
              clear he
              rcases hbt : (gm c a).testBit t with _ | _
              · rw [hbt] at hob2
                by_cases htk : t = k
                · have hq3 := eq_bool htk
                  have HK := Lib.hid htk
                  clear htk hbt
                  go_wp2
                  go_round
                  case rel => exact ⟨b, t + 1, by omega, by go_num, rfl, HF2.out.keep (.inr (.inr HK.out))⟩
                  case measure => simp [intOf]; omega
                · have hq3 := ne_bool htk
                  have HK := Lib.hid htk
                  have HG : Hid (t ∉ lfs c a) := fun hm => by rw [(gm_bit c t a).2 hm] at hbt; cases hbt
                  clear htk hbt
                  go_wp2
                  go_round
                  case rel => exact ⟨false, t + 1, by omega, by go_num, rfl, FrT.drop HE.out HG.out HK.out⟩
                  case measure => simp [intOf]; omega
              · have HG : Hid (t ∈ lfs c a) := (gm_bit c t a).1 hbt
                rw [hbt] at hob2
                clear hbt
                go_wp2
                go_round
                case rel => exact ⟨b, t + 1, by omega, by go_num, rfl, HF2.out.keep (.inr (.inl HG.out))⟩
                case measure => simp [intOf]; omega
            · have hq2 := neq_bool he
              have HE := Lib.hid he
              clear he hob2 hsr2
              go_wp2
              go_round
              case rel => exact ⟨b, t + 1, by omega, by go_num, rfl, HF2.out.keep (.inl HE.out)⟩
              case measure => simp [intOf]; omega
          · obtain rfl : t = c.length + 1 := by omega
            have hdt : decide (((c.length + 1 : Nat) : Int) < (c.length : Int) + 1) = false := decide_eq_false (by omega)
            have HD : Hid (b = freeC c (lfs c a) a k) := HF2.out.done hc ha (by omega)
            rcases b with _ | _
            · go_wp2
              go_roundw
              case rel => exact ⟨k + 1, by omega, by go_num, rfl, rfl, fun j hj => by
               rcases Nat.lt_or_ge j k with h' | h'
               · exact HN.out j h'
               · obtain rfl : j = k := by omega
                 exact HD.out.symm, by first | rfl | trivial⟩
              case measure => simp [intOf]; omega
            · have HK : Hid (lf c a = k) := minF_is (by omega) HD.out.symm HN.out
              have hcell := (HB.out.cell (p := ⟨b0, off0 + k, none⟩) hb0).trans (HC.out k hkl)
              have HX : Hid (nx (treeN c) k = nx c a) := by unfold Hid; rw [← HK.out]; exact nx_treeN hc hlt
              have hO := HO.out
              have hln : (ints (c.take a)).length ≤ 1000000000000 := by rw [ints_len, List.length_take]; omega
              have hsz := HB.out.size
              go_wp2_with (at_builtin; refine app_int wr _ rfl _ _ rfl w.heap.size _ (ints (c.take a)) rfl hO rfl hln hsz ?_; intro v2 w4 hown4 hb4)
              rw [HX.out] at hown4
              have HT : Hid (ints (c.take a) ++ [(nx c a : Int)] = ints (c.take (a + 1))) := by unfold Hid; rw [List.take_succ_eq_append_getElem hlt, ints_append, nx_get hlt]; rfl
              rw [HT.out] at hown4
              go_wp2
              go_roundw
              case rel => exact ⟨a + 1, by omega, by rw [gm_succ, HK.out], hown4, HB.out.trans hb4⟩
              case measure => exact meas_len hown4 HLA.out hlt
       · have hq := ne_bool h1
         have HFr : Hid (FrT c a k 0 true) := FrT.start ⟨fun _ => ⟨h1, fun hm => by rw [(gm_bit c k a).2 hm] at h2; cases h2⟩, fun _ => rfl⟩
         rw [h2] at hob
         clear h1
         go_wp2_with fail
         go_loop [8, 9] (fun fr j => ∃ (b : Bool) (t : Nat), t ≤ c.length + 1 ∧ j = .int .i64 t ∧ fr = .bool b ∧ FrT c a k t b) (fun fr j => c.length + 1 - (intOf j).toNat)
         case atStart => exact ⟨_, 0, by omega, rfl, rfl, HFr.out⟩
         case round =>
          obtain ⟨b, t, htc, rfl, rfl, hFr⟩ := hrel
          have HF2 := Lib.hid hFr
          clear hFr
          by_cases htl : t < c.length + 1
          · have hdt : decide ((t : Int) < (c.length : Int) + 1) = true := decide_eq_true (by omega)
            have hcell := (HB.out.cell (p := ⟨b0, off0 + t, none⟩) hb0).trans (HC.out t htl)
            have hob2 := even_bit (gm c a) t
            have hsr2 := shr_bit (gm c a) t
            by_cases he : nx (treeN c) t = k
            · have hq2 := eqq_bool he
              have HE := Lib.hid he
              clear he
              rcases hbt : (gm c a).testBit t with _ | _
              · rw [hbt] at hob2
                by_cases htk : t = k
                · have hq3 := eq_bool htk
                  have HK := Lib.hid htk
                  clear htk hbt
                  go_wp2
                  go_round
                  case rel => exact ⟨b, t + 1, by omega, by go_num, rfl, HF2.out.keep (.inr (.inr HK.out))⟩
                  case measure => simp [intOf]; omega
                · have hq3 := ne_bool htk
                  have HK := Lib.hid htk
                  have HG : Hid (t ∉ lfs c a) := fun hm => by rw [(gm_bit c t a).2 hm] at hbt; cases hbt
                  clear htk hbt
                  go_wp2
                  go_round
                  case rel => exact ⟨false, t + 1, by omega, by go_num, rfl, FrT.drop HE.out HG.out HK.out⟩
                  case measure => simp [intOf]; omega
              · have HG : Hid (t ∈ lfs c a) := (gm_bit c t a).1 hbt
                rw [hbt] at hob2
                clear hbt
                go_wp2
                go_round
                case rel => exact ⟨b, t + 1, by omega, by go_num, rfl, HF2.out.keep (.inr (.inl HG.out))⟩
                case measure => simp [intOf]; omega
            · have hq2 := neq_bool he
              have HE := Lib.hid he
              clear he hob2 hsr2
              go_wp2
              go_round
              case rel => exact ⟨b, t + 1, by omega, by go_num, rfl, HF2.out.keep (.inl HE.out)⟩
              case measure => simp [intOf]; omega
          · obtain rfl : t = c.length + 1 := by omega
            have hdt : decide (((c.length + 1 : Nat) : Int) < (c.length : Int) + 1) = false := decide_eq_false (by omega)
            have HD : Hid (b = freeC c (lfs c a) a k) := HF2.out.done hc ha (by omega)
            rcases b with _ | _
            · go_wp2
              go_roundw
              case rel => exact ⟨k + 1, by omega, by go_num, rfl, rfl, fun j hj => by
               rcases Nat.lt_or_ge j k with h' | h'
               · exact HN.out j h'
               · obtain rfl : j = k := by omega
                 exact HD.out.symm, by first | rfl | trivial⟩
              case measure => simp [intOf]; omega
            · have HK : Hid (lf c a = k) := minF_is (by omega) HD.out.symm HN.out
              have hcell := (HB.out.cell (p := ⟨b0, off0 + k, none⟩) hb0).trans (HC.out k hkl)
              have HX : Hid (nx (treeN c) k = nx c a) := by unfold Hid; rw [← HK.out]; exact nx_treeN hc hlt
              have hO := HO.out
              have hln : (ints (c.take a)).length ≤ 1000000000000 := by rw [ints_len, List.length_take]; omega
              have hsz := HB.out.size
              go_wp2_with (at_builtin; refine app_int wr _ rfl _ _ rfl w.heap.size _ (ints (c.take a)) rfl hO rfl hln hsz ?_; intro v2 w4 hown4 hb4)
              rw [HX.out] at hown4
              have HT : Hid (ints (c.take a) ++ [(nx c a : Int)] = ints (c.take (a + 1))) := by unfold Hid; rw [List.take_succ_eq_append_getElem hlt, ints_append, nx_get hlt]; rfl
              rw [HT.out] at hown4
              go_wp2
              go_roundw
              case rel => exact ⟨a + 1, by omega, by rw [gm_succ, HK.out], hown4, HB.out.trans hb4⟩
              case measure => exact meas_len hown4 HLA.out hlt
     · exfalso
       obtain ⟨f1, f2, f3⟩ := HF.out
       have := HN.out (lf c a) (by omega)
       rw [f2] at this; cases this
  · obtain rfl : a = c.length := by omega
    have HO := Lib.hid ho
    clear ho
    go_wp2
    go_ret2
    exact ⟨_, rfl, by have := HO.out; rwa [List.take_length] at this, hbw⟩
end
section
open Go.RowKit
def codeI (xs : List Int) : List Int := if treeOkI xs then ints (codeN (toN xs)) else []
theorem codeI_no {xs : List Int} (h : treeOkI xs = false) : codeI xs = [] := by unfold codeI; rw [h]; simp
theorem codeI_ok {f : List Nat} (h : treeOkI (ints f) = true) : codeI (ints f) = ints (codeN f) := by unfold codeI; rw [h, toN_ints]; simp
set_option maxRecDepth 100000 in
set_option maxHeartbeats 800000 in
theorem codeOf_c (A : Option Addr) (n c : Nat) (xs : List Int) (w : World) (h : Rd w w.heap.size A n c xs) :
    Calls Tryz.prog 155 #[.slice A n c] w (RowBool w (codeI xs) (treeOkI xs)) := by
 rcases hs : treeOkI xs with _ | _
 · have HS := Lib.hid (codeI_no hs)
   go_enter Tryz.func155, Tryz.ntmps155
   go_wp2_with fail
   refine (treeOk_c _ _ _ _ _ h).mono ?_
   rintro e w1 ⟨rfl, hb⟩
   rw [hs]
   go_wp2_with fail
   go_ret2
   rw [HS.out]
   exact ⟨_, _, _, rfl, OwnIn.nil_ _ _ _, hb⟩
 · obtain ⟨f, rfl, hf, h1, h2⟩ := tree_ex hs
   obtain ⟨c1, hc, rfl, he, hr⟩ := (treeN_of hf h1 h2).ex
   obtain rfl : n = c1.length + 1 := by rw [← h.len, ints_len, treeN_len]
   rw [codeI_ok hs, he]
   refine (codeOf_ok A c c1 w h hc).mono ?_
   rintro e w' ⟨v, rfl, hO, hb⟩
   obtain ⟨A2, c2, rfl, hO2⟩ := hO.form
   exact ⟨A2, _, c2, rfl, hO2.inn, hb⟩
set_option maxRecDepth 100000 in
set_option maxHeartbeats 800000 in
theorem sCodeOf_c (A : Option Addr) (n c : Nat) (xs : List Int) (w : World) (h : Rd w w.heap.size A n c xs) :
    Calls Tryz.prog 61 #[.slice A n c] w (RowBool w (codeI xs) (treeOkI xs)) := by
 rcases hs : treeOkI xs with _ | _
 · have HS := Lib.hid (codeI_no hs)
   go_enter Tryz.func61, Tryz.ntmps61
   go_wp2_with fail
   refine (sTreeOk_c _ _ _ _ _ h).mono ?_
   rintro e w1 ⟨rfl, hb⟩
   rw [hs]
   go_wp2_with fail
   go_ret2
   rw [HS.out]
   exact ⟨_, _, _, rfl, (OwnIn.empty_ w1).wide hb.size (Nat.le_refl _), hb.alloc hb.size _⟩
 · obtain ⟨f, rfl, hf, h1, h2⟩ := tree_ex hs
   obtain ⟨c1, hc, rfl, he, hr⟩ := (treeN_of hf h1 h2).ex
   obtain rfl : n = c1.length + 1 := by rw [← h.len, ints_len, treeN_len]
   rw [codeI_ok hs, he]
   refine (sCodeOf_ok A c c1 w h hc).mono ?_
   rintro e w' ⟨v, rfl, hO, hb⟩
   obtain ⟨A2, c2, rfl, hO2⟩ := hO.form
   exact ⟨A2, _, c2, rfl, hO2.inn, hb⟩
end
end Go.Proofs.YtoinlkdmfclnbaaGreatDoor
