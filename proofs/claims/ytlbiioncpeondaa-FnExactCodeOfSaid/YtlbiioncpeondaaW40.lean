/- Walks: slices.AppendSeq, slices.Collect at int over an iterator that reads memory; selfMap.from, FromOf (impl). -/
import Derived.RangeFuncBox
import Derived.RangeFuncNested
import Derived.RangeFuncBound
import Derived.RangeFuncCalls
import Derived.RangeFuncLeaves
import Derived.Shelf.Abstract
import Derived.Shelf.RegionOpen
import Derived.OwnWalkIn
import Derived.TacticsInMore
import Derived.LoopNIn
import Derived.LoopIn
import Derived.Maps.AppendAt
import Derived.Test.YtlbiioncpeondaaW31
import Derived.Test.YtlbiioncpeondaaM9
namespace Go.Proofs.Ytlbiioncpeondaa
set_option linter.unusedVariables false
open Go.RowKit Go.Shelf
attribute [local go_sem] Oper.semAt_some

theorem OwnV.more {w : World} {B B' : Nat} {v : Value} {xs : List Int} (h : OwnV w B v xs) (hB : B' ≤ B) : OwnV w B' v xs := by
  refine ⟨h.1, ?_⟩
  rcases h.2 with h0 | ⟨g, cap, cur, e, hg, r⟩
  · exact .inl h0
  · exact .inr ⟨g, cap, cur, e, by omega, r⟩
def encI (x : Int) : Array Value := #[Value.int .i64 x]
/-- What an iterator is, seen from the collector: from the world w on, it yields the numbers of which S speaks. -/
def Seq (g : Nat) (lb : Array Value) (S : List Int → Prop) (w : World) : Prop :=
  SeqStopsK Fence.wide 3 Try.prog g lb encI (Below w.heap.size) S (fun _ => True) 100 w

set_option maxRecDepth 100000 in
set_option maxHeartbeats 2000000 in
theorem appendSeq_in (g : Nat) (lb : Array Value) (S : List Int → Prop) (w : World) (hs : Seq g lb S w) (eg : ∀ args w, (callFunc g args).run Try.prog w = .ok (.enter g args) w) :
    CallsIn Fence.wide 4 Try.prog 93 #[.slice none 0 0, .func (.func g) #[] lb] w fun e W' => ∃ v xs, S xs ∧ e = .returned v ∧ OwnV W' w.heap.size v xs ∧ Below w.heap.size w W' := by
  obtain ⟨i0, hi, hz0, hz1, hz2⟩ := info_parts int_info
  refine callsIn_of_wp_marks Try.func93 rfl trivial ?_ rfl
  simp only [Try.ntmps93, List.size_toArray, List.length_cons, List.length_nil, Nat.reduceAdd, Nat.reduceSub, Array.replicate_succ, Array.replicate_zero, List.push_toArray, List.append_toArray, List.nil_append, List.cons_append]
  gi_wp2
  have bO := Boxed.new w 22 (.slice none 0 0)
  have hB0 : Below w.heap.size w (w.alloc (.cells #[.slice none 0 0] 22)) := (Below.refl _ w).alloc (Nat.le_refl _) _
  refine wpIn_rangeFunc_ownG rfl (by omega) (gf := g) (lb := lb) rfl trivial eg hs belowK_t (belowK_b (by simp)) hB0 (fun _ => rfl)
    (fun pre W => (∃ v, Boxed W w.heap.size 22 v ∧ W.ownsRow w.heap.size 3 1 v pre.length (pre.map (Value.int .i64)) ∧ True) ∧ Below w.heap.size w W)
    (fun _ _ _ => False)
    (OwnFrom.and (Own.from (holdsRow_own w.heap.size w.heap.size 22 3 1 (fun pre : List Int => pre.length) (fun pre => pre.map (Value.int .i64)) (fun pre v => True)) _) (ownFrom_below (Nat.le_refl _) (by simp)))
    (fun _ _ _ _ _ hs _ _ => hs)
    ⟨⟨_, bO, World.ownsRow_nil _ _ _ _, trivial⟩, hB0⟩
    (fun x => { tmps := #[.slice none 0 0, .func (.func g) #[] lb, .pointer (some ⟨w.heap.size, 0, none⟩), undef, .slice none 0 0, .int .i64 x, .func (.func g) #[] lb, .int .i64 x, undef, undef, undef, undef, undef], defers := [] }) ?assign ?body ?done ?stop
  case assign =>
    intro l x W K hK
    dsimp only [encI]
    gi_wp2
    exact hK
  case body =>
    rintro l pre x W ⟨⟨v, hv, hrow, _⟩, hB⟩ hlt
    have hc := hv.cell
    gi_wp2_with (gi_at_builtin; refine wpListIn_append_own _ rfl _ _ 22 rfl w.heap.size 3 i0 (.int .i64 0) 1 8 Try.underlying22 hi hz0 hz1 hz2 rfl (by decide) _ _ _ rfl (hrow.alloc _) ⟨W.heap.size, 0, none⟩ 1 1 [.int .i64 x] rfl rfl (cell_one_new _ _ _) (by simp [Value.oneCell']) (by unfold maxLen; omega) (by omega) (by have := hB.size; simp; omega) ?_; intro v' w1 hown' hgrow _; obtain ⟨g', cap', rfl⟩ := ownsRow_succ hown'; obtain ⟨hv1, hv2, hr2, hk2, hb2⟩ := hv.appended (by decide) hrow hB.size (Nat.le_refl _) hown' hgrow; have hc1 := hv1.cell; have hf1 := hv1.frozen)
    exact ⟨hk2.from _, hb2, ⟨_, hv2, by simpa using hr2, trivial⟩, hB.trans hb2⟩
  case done =>
    rintro D ys W hD hS ⟨⟨v, hv, hrow, _⟩, hB⟩ hK
    have hc := hv.cell
    gi_wp2
    refine ⟨by simp, .inl ⟨_, _, rfl, run_takeDeferred hK, ?_⟩⟩
    exact ⟨_, results_tmp rfl _ _ _, v, ys, hS, rfl, ownsRow_putObj hrow _ hK rfl, hB.trans (belowK_b (w := w) (Nat.le_refl _) W D _ _ (by simp at hD; omega) hK rfl rfl)⟩
  case stop =>
    rintro D c pre W _ _ h _
    exact h.elim

def Coll (S : List Int → Prop) (w : World) (e : Ending) (w' : World) : Prop := ∃ v xs, S xs ∧ e = .returned v ∧ OwnV w' w.heap.size v xs ∧ Below w.heap.size w w'
set_option maxHeartbeats 800000 in
theorem collect_c (g : Nat) (lb : Array Value) (S : List Int → Prop) (w : World) (hs : Seq g lb S w) (eg : ∀ args w, (callFunc g args).run Try.prog w = .ok (.enter g args) w) :
    Calls Try.prog 73 #[.func (.func g) #[] lb] w (Coll S w) := by
  go_enter Try.func73, Try.ntmps73
  go_wp2_with fail
  refine (callsIn_wide.1 (appendSeq_in g lb S w hs eg)).mono ?_
  rintro e w' ⟨v, xs, hS, rfl, hO, hb⟩
  go_wp2_with fail
  go_ret
  exact ⟨v, xs, hS, rfl, hO, hb⟩

/-! ### selfMap.from -/
def fromX (xs : List Int) (t : Int) : Nat → List Int
  | 0 => []
  | k + 1 => if gI xs k = t then fromX xs t k ++ [(k : Int)] else fromX xs t k
theorem fromX_len (xs : List Int) (t : Int) : ∀ k, (fromX xs t k).length ≤ k
  | 0 => Nat.le_refl _
  | k + 1 => by
    have := fromX_len xs t k
    unfold fromX; split
    · rw [List.length_append]; simp; omega
    · omega
theorem fromX_t {xs : List Int} {t : Int} {k : Nat} (h : gI xs k = t) : fromX xs t (k + 1) = fromX xs t k ++ [(k : Int)] := by rw [fromX, if_pos h]
theorem fromX_f {xs : List Int} {t : Int} {k : Nat} (h : ¬ gI xs k = t) : fromX xs t (k + 1) = fromX xs t k := by rw [fromX, if_neg h]
set_option maxRecDepth 100000 in
set_option maxHeartbeats 2000000 in
theorem from1_in (l Bm Bt n₀ : Nat) (A : Option Addr) (n c : Nat) (xs : List Int) (t : Int) (hn : n ≤ 100) (J Jx : List Int → World → Prop) (W : World) (hr : Rd W n₀ A n c xs)
    (hY : ∀ pre x W, J pre W → pre.length < 100 → YieldAt Fence.wide 2 Try.prog l (encI x) W fun e W' =>
      (e = .returned (.bool true) ∧ J (pre ++ [x]) W' ∧ Below n₀ W W') ∨ (e = .returned (.bool false) ∧ Jx (pre ++ [x]) W'))
    (hm : W.cell? ⟨Bm, 0, none⟩ = some (.slice A n c)) (ht : W.cell? ⟨Bt, 0, none⟩ = some (.int .i64 t)) (hBt : Bt < n₀) (h0 : J [] W) :
    CallsIn Fence.wide 3 Try.prog 94 #[.func (.yield l) #[] #[], .pointer (some ⟨Bm, 0, none⟩), .pointer (some ⟨Bt, 0, none⟩)] W fun e W' => (∃ v, e = .returned v) ∧
      ((∃ ys, ys = fromX xs t n ∧ J ys W') ∨ (∃ pre, True ∧ Jx pre W')) := by
  have hcp := hr.cap
  have hmx := hr.max
  unfold maxLen at hmx
  refine callsIn_of_wp Try.func94 rfl trivial ?_ rfl
  simp only [Try.ntmps94, List.size_toArray, List.length_cons, List.length_nil, Nat.reduceAdd, Nat.reduceSub, Array.replicate_succ, Array.replicate_zero, List.push_toArray, List.append_toArray, List.nil_append, List.cons_append]
  gi_wp2
  gi_loopw [8] (fun i wr => ∃ k : Nat, k ≤ n ∧ i = .int .i64 k ∧ J (fromX xs t k) wr ∧ Below n₀ W wr) (fun i _ => n - (intOf i).toNat)
  case atStart => exact ⟨0, Nat.zero_le _, rfl, h0, Below.refl _ _⟩
  case round =>
    obtain ⟨k, hk, rfl, hJ, hb⟩ := hrel
    have ht2 := (hb.cell (p := ⟨Bt, 0, none⟩) hBt).trans ht
    clear ht hm
    by_cases hlt : k < n
    · obtain ⟨b, off, rfl, hbb, hcell⟩ := (hr.below hb).at_ hlt
      have hfl := fromX_len xs t k
      by_cases he : gI xs k = t
      · have HT := Lib.hid (fromX_t he)
        have hq : (gI xs k == t) = true := by rw [he]; simp
        obtain ⟨fn, tmps, assign, body, hy, hR⟩ := hY _ (k : Int) wr hJ (by omega)
        have HE := Lib.hid he
        clear he
        dsimp only [encI] at hy
        gi_wp2
        refine hR.mono ?_
        rintro e W3 (⟨rfl, hJ3, hk3⟩ | ⟨rfl, hJx3⟩)
        · gi_wp2
          go_roundw
          case rel => exact ⟨k + 1, by omega, by simp, by rw [HT.out]; exact hJ3, hb.trans hk3⟩
          case measure => simp [intOf]; omega
        · gi_wp2
          refine bodyPost_ret (results_none rfl _ _ _) rfl ?_
          exact ⟨⟨_, rfl⟩, .inr ⟨_, trivial, hJx3⟩⟩
      · have HT := Lib.hid (fromX_f he)
        have hq : (gI xs k == t) = false := by rw [beq_eq_false_iff_ne]; exact he
        have HE := Lib.hid he
        clear he
        gi_wp2
        refine ⟨fun _ h => (by cases h), ?_⟩
        gi_wp2
        go_roundw
        case rel => exact ⟨k + 1, by omega, by simp, by rw [HT.out]; exact hJ, hb⟩
        case measure => simp [intOf]; omega
    · obtain rfl : k = n := by omega
      gi_wp2
      go_end0
      exact ⟨⟨_, rfl⟩, .inl ⟨_, rfl, hJ⟩⟩

theorem Rd.cutB {w : World} {B n c : Nat} {A : Option Addr} {xs : List Int} (h : Rd w B A n c xs) {w' : World} (hb : Below B w w') : Rd w' B A n c xs := h.below hb
set_option maxHeartbeats 800000 in
theorem fromSeq_c (A : Option Addr) (n c : Nat) (t : Int) (w : World) :
    Calls Try.prog 74 #[.slice A n c, .int .i64 t] w fun e w' => e = .returned (.func (.func 94) #[] #[.pointer (some ⟨w.heap.size, 0, none⟩), .pointer (some ⟨w.heap.size + 1, 0, none⟩)]) ∧ w' = (w.alloc (.cells #[.slice A n c] 49)).alloc (.cells #[.int .i64 t] 3) := by
  go_enter Try.func74, Try.ntmps74
  go_wp2_with fail
  go_ret
  exact ⟨rfl, rfl⟩
theorem from_seq (A : Option Addr) (n c : Nat) (xs : List Int) (t : Int) (w : World) (h : Rd w w.heap.size A n c xs) (hn : n ≤ 100) :
    Seq 94 #[.pointer (some ⟨w.heap.size, 0, none⟩), .pointer (some ⟨w.heap.size + 1, 0, none⟩)] (fun ys => ys = fromX xs t n) ((w.alloc (.cells #[.slice A n c] 49)).alloc (.cells #[.int .i64 t] 3)) := by
  have bM := Boxed.new w 49 (.slice A n c)
  have bM2 := bM.alloc (.cells #[.int .i64 t] 3)
  have bT := Boxed.new (w.alloc (.cells #[.slice A n c] 49)) 3 (.int .i64 t)
  rw [World.size_alloc] at bT
  have hb : Below w.heap.size w ((w.alloc (.cells #[.slice A n c] 49)).alloc (.cells #[.int .i64 t] 3)) := ((Below.refl _ w).alloc (Nat.le_refl _) _).alloc (by simp) _
  have hr := h.up hb
  have hlt := bT.lt
  intro l J Jx W hW _ _ hY h0
  exact from1_in l w.heap.size (w.heap.size + 1) _ A n c xs t hn J Jx W (hr.below hW) hY ((hW.cell (p := ⟨w.heap.size, 0, none⟩) bM2.lt).trans bM2.cell) ((hW.cell (p := ⟨w.heap.size + 1, 0, none⟩) hlt).trans bT.cell) hlt h0

/-! ### FromOf -/
def fromI (xs : List Int) (t : Int) : List Int := if mapOk xs then fromX xs t xs.length else []
theorem fromI_no {xs : List Int} (t : Int) (h : mapOk xs = false) : fromI xs t = [] := by unfold fromI; rw [h]; simp
theorem fromI_ok {xs : List Int} (t : Int) (h : mapOk xs = true) : fromI xs t = fromX xs t xs.length := by unfold fromI; rw [h]; simp
theorem fromX_none {xs : List Int} {t : Int} : ∀ k, (∀ j, j < k → gI xs j ≠ t) → fromX xs t k = []
  | 0, _ => rfl
  | k + 1, h => by rw [fromX_f (h k (by omega)), fromX_none k (fun j hj => h j (by omega))]
theorem fromI_off {xs : List Int} {t : Int} (h : atOk xs t = false) : fromI xs t = [] := by
  rcases hm : mapOk xs with _ | _
  · exact fromI_no t hm
  · rw [fromI_ok t hm]
    unfold atOk at h
    rw [hm, Bool.true_and] at h
    refine fromX_none _ (fun j hj e => ?_)
    unfold mapOk at hm
    rw [Bool.and_eq_true] at hm
    have := allHas_iff.1 hm.2 j hj
    rw [e, h] at this; cases this
def Nums (xs : List Int) (w : World) (e : Ending) (w' : World) : Prop := ∃ v, e = .returned v ∧ OwnV w' w.heap.size v xs ∧ Below w.heap.size w w'
set_option maxHeartbeats 800000 in
theorem fromOf_c (A : Option Addr) (n c : Nat) (xs : List Int) (t : Int) (w : World) (h : Rd w w.heap.size A n c xs) :
    Calls Try.prog 39 #[.slice A n c, .int .i64 t] w (Nums (fromI xs t) w) := by
  have hl := h.len
  rcases hm : mapOk xs with _ | _
  · have HE := Lib.hid (fromI_no t hm)
    go_enter Try.func39, Try.ntmps39
    go_wp2_with (go_at_call 61; refine (mapOk_c _ _ _ _ _ h).mono ?_; rintro e w' ⟨rfl, rfl⟩)
    go_ret
    exact ⟨_, rfl, by rw [HE.out]; exact OwnV.nil_ _ _, Below.refl _ _⟩
  · have hn7 : n ≤ 7 := by obtain ⟨f, rfl, hf⟩ := mapOk_ex hm; have := hf.le7; rw [ints_len] at hl; omega
    rcases ha : hasB n t with _ | _
    · have HE : Hid (fromI xs t = []) := fromI_off (by unfold atOk; rw [hm, hl, ha]; rfl)
      go_enter Try.func39, Try.ntmps39
      go_wp2_with (first
        | (go_at_call 61; refine (mapOk_c _ _ _ _ _ h).mono ?_; rintro e w' ⟨rfl, rfl⟩)
        | (go_at_call 72; refine (has_c _ _ _ _ _).mono ?_; rintro e w' ⟨rfl, rfl⟩))
      go_ret
      exact ⟨_, rfl, by rw [HE.out]; exact OwnV.nil_ _ _, Below.refl _ _⟩
    · have HE : Hid (fromI xs t = fromX xs t n) := by unfold Hid; rw [fromI_ok t hm, hl]
      have HS := Lib.hid (from_seq A n c xs t w h (by omega))
      have hb : Below w.heap.size w ((w.alloc (.cells #[.slice A n c] 49)).alloc (.cells #[.int .i64 t] 3)) := ((Below.refl _ w).alloc (Nat.le_refl _) _).alloc (by simp) _
      go_enter Try.func39, Try.ntmps39
      go_wp2_with (first
        | (go_at_call 61; refine (mapOk_c _ _ _ _ _ h).mono ?_; rintro e w' ⟨rfl, rfl⟩)
        | (go_at_call 72; refine (has_c _ _ _ _ _).mono ?_; rintro e w' ⟨rfl, rfl⟩))
      refine (fromSeq_c A n c t w).mono ?_
      rintro e w1 ⟨rfl, hw1⟩
      rw [← hw1] at HS hb
      clear hw1
      go_wp2_with fail
      refine (collect_c _ _ _ w1 HS.out (enters_of Try.func94 (by kernel_rfl) rfl)).mono ?_
      rintro e w2 ⟨v, ys, hy, rfl, hO, hb2⟩
      have hO2 : OwnV w2 w.heap.size v (fromI xs t) := by rw [HE.out, ← hy]; exact hO.more hb.size
      have hbb := bt hb hb2
      clear hO hy
      go_wp2_with fail
      go_ret
      exact ⟨v, rfl, hO2, hbb⟩
end Go.Proofs.Ytlbiioncpeondaa
