/- Walks: slices.Contains at selfMap, ImageOf (impl), hasInt, ascend; the law FnLeavesOf. -/
import Derived.Test.YtlbiioncpeondaaW45
import Derived.Test.YtlbiioncpeondaaV8
import Derived.Test.YtlbiioncpeondaaM15
namespace Go.Proofs.Ytlbiioncpeondaa
set_option linter.unusedVariables false
open Go.RowKit Go.Shelf
attribute [local go_sem] Oper.semAt_some

set_option maxHeartbeats 400000 in
theorem indexM_c (A : Option Addr) (n c : Nat) (xs : List Int) (v : Int) (w : World) (h : Rd w w.heap.size A n c xs) :
    Calls Try.prog 112 #[.slice A n c, .int .i64 v] w (Idx xs n v w) := by
  have hm := h.max
  have hc := h.cap
  unfold maxLen at hm
  go_enter Try.func112, Try.ntmps112
  go_wp2_with fail
  go_loopw [8] (fun i wr => ∃ k : Nat, k ≤ n ∧ i = .int .i64 k ∧ (∀ j, j < k → gI xs j ≠ v) ∧ wr = w) (fun i _ => n - (intOf i).toNat)
  case atStart => exact ⟨0, Nat.zero_le _, rfl, fun j hj => absurd hj (Nat.not_lt_zero _), rfl⟩
  case round =>
    obtain ⟨k, hk, rfl, hall, rfl⟩ := hrel
    have HA := Lib.hid hall
    clear hall
    by_cases hlt : k < n
    · obtain ⟨b, off, rfl, hb, hcell⟩ := h.at_ hlt
      by_cases he : gI xs k = v
      · have hq : (v == gI xs k) = true := by rw [he]; simp
        have HE := Lib.hid he
        clear he
        go_wp2_with fail
        go_ret
        exact ⟨rfl, .inr ⟨k, hlt, rfl, HE.out, HA.out⟩⟩
      · have hq : (v == gI xs k) = false := by rw [beq_eq_false_iff_ne]; exact fun e => he e.symm
        have HE := Lib.hid he
        clear he
        go_wp2_with fail
        go_roundw
        case rel => exact ⟨k + 1, by omega, by go_num, fun j hj => by
          rcases Nat.lt_or_ge j k with h' | h'
          · exact HA.out j h'
          · obtain rfl : j = k := by omega
            exact HE.out, trivial⟩
        case measure => simp [intOf]; omega
    · obtain rfl : k = n := by omega
      go_wp2_with fail
      go_ret
      exact ⟨rfl, .inl ⟨rfl, HA.out⟩⟩
set_option maxHeartbeats 400000 in
theorem contains_c (A : Option Addr) (n c : Nat) (xs : List Int) (v : Int) (w : World) (h : Rd w w.heap.size A n c xs) :
    Calls Try.prog 103 #[.slice A n c, .int .i64 v] w fun e w' => e = .returned (.bool (hasI xs v)) ∧ w = w' := by
  have hl := h.len
  go_enter Try.func103, Try.ntmps103
  go_wp2_with fail
  refine (indexM_c _ _ _ _ _ _ h).mono ?_
  rintro e w' ⟨rfl, ⟨rfl, hall⟩ | ⟨j, hj, rfl, he, _⟩⟩
  · have HH : Hid (hasI xs v = false) := hasI_no (fun j hj => hall j (by omega))
    clear hall
    go_wp2_with fail
    go_ret
    exact ⟨boolEnd HH.out.symm, rfl⟩
  · have HH : Hid (hasI xs v = true) := hasI_yes (j := j) (by omega) he
    clear he
    go_wp2_with fail
    go_ret
    exact ⟨boolEnd HH.out.symm, rfl⟩

/-! ### image -/
def imgX (xs : List Int) : Nat → List Int
  | 0 => []
  | k + 1 => if hasI xs (k : Int) then imgX xs k ++ [(k : Int)] else imgX xs k
theorem imgX_len (xs : List Int) : ∀ k, (imgX xs k).length ≤ k
  | 0 => Nat.le_refl _
  | k + 1 => by
    have := imgX_len xs k
    unfold imgX; split
    · rw [List.length_append]; simp; omega
    · omega
theorem imgX_t {xs : List Int} {k : Nat} (h : hasI xs (k : Int) = true) : imgX xs (k + 1) = imgX xs k ++ [(k : Int)] := by rw [imgX, if_pos h]
theorem imgX_f {xs : List Int} {k : Nat} (h : hasI xs (k : Int) = false) : imgX xs (k + 1) = imgX xs k := by rw [imgX, if_neg (by rw [h]; simp)]
theorem imgX_parts (f : List Nat) : ∀ k, imgX (ints f) k = ints (parts (fun j => f.contains j) k)
  | 0 => rfl
  | k + 1 => by
    have ih := imgX_parts f k
    have hc := hasI_ints f k
    rcases h : f.contains k with _ | _
    · rw [imgX_f (by rw [hc, h]), parts_f (p := fun j => f.contains j) h, ih]
    · rw [imgX_t (by rw [hc, h]), parts_t (p := fun j => f.contains j) h, ih, ints_append, ints_single]
set_option maxRecDepth 100000 in
set_option maxHeartbeats 2000000 in
theorem image1_in (l Bm n₀ : Nat) (A : Option Addr) (n c : Nat) (xs : List Int) (hn : n ≤ 100) (J Jx : List Int → World → Prop) (W : World) (hr : Rd W n₀ A n c xs)
    (hY : ∀ pre x W, J pre W → pre.length < 100 → YieldAt Fence.wide 2 Try.prog l (encI x) W fun e W' =>
      (e = .returned (.bool true) ∧ J (pre ++ [x]) W' ∧ Below n₀ W W') ∨ (e = .returned (.bool false) ∧ Jx (pre ++ [x]) W'))
    (hm : W.cell? ⟨Bm, 0, none⟩ = some (.slice A n c)) (hBm : Bm < n₀) (hn₀ : n₀ ≤ W.heap.size) (h0 : J [] W) :
    CallsIn Fence.wide 3 Try.prog 102 #[.func (.yield l) #[] #[], .pointer (some ⟨Bm, 0, none⟩)] W fun e W' => (∃ v, e = .returned v) ∧
      ((∃ ys, ys = imgX xs n ∧ J ys W') ∨ (∃ pre, True ∧ Jx pre W')) := by
  have hcp := hr.cap
  have hmx := hr.max
  unfold maxLen at hmx
  refine callsIn_of_wp Try.func102 rfl trivial ?_ rfl
  simp only [Try.ntmps102, List.size_toArray, List.length_cons, List.length_nil, Nat.reduceAdd, Nat.reduceSub, Array.replicate_succ, Array.replicate_zero, List.push_toArray, List.append_toArray, List.nil_append, List.cons_append]
  gi_wp2
  gi_loopw [6] (fun i wr => ∃ k : Nat, k ≤ n ∧ i = .int .i64 k ∧ J (imgX xs k) wr ∧ Below n₀ W wr) (fun i _ => n - (intOf i).toNat)
  case atStart => exact ⟨0, Nat.zero_le _, rfl, h0, Below.refl _ _⟩
  case round =>
    obtain ⟨k, hk, rfl, hJ, hb⟩ := hrel
    have hm2 := (hb.cell (p := ⟨Bm, 0, none⟩) hBm).trans hm
    clear hm
    by_cases hlt : k < n
    · have hrd : Rd wr wr.heap.size A n c xs := (hr.below hb).more (Nat.le_trans hn₀ hb.size)
      have hfl := imgX_len xs k
      rcases he : hasI xs (k : Int) with _ | _
      · have HT := Lib.hid (imgX_f he)
        gi_wp2_with (refine ⟨trivial, ?_⟩; gi_at_call 103; refine (callsIn_wide.2 (contains_c _ _ _ _ _ _ hrd)).mono ?_; rintro e w' ⟨rfl, rfl⟩)
        refine ⟨fun _ h => (by cases h), ?_⟩
        gi_wp2
        go_roundw
        case rel => exact ⟨k + 1, by omega, by simp, by rw [HT.out]; exact hJ, hb⟩
        case measure => simp [intOf]; omega
      · have HT := Lib.hid (imgX_t he)
        obtain ⟨fn, tmps, assign, body, hy, hR⟩ := hY _ (k : Int) wr hJ (by omega)
        dsimp only [encI] at hy
        gi_wp2_with (refine ⟨trivial, ?_⟩; gi_at_call 103; refine (callsIn_wide.2 (contains_c _ _ _ _ _ _ hrd)).mono ?_; rintro e w' ⟨rfl, rfl⟩)
        refine hR.mono ?_
        rintro e W3 (⟨rfl, hJ3, hk3⟩ | ⟨rfl, hJx3⟩)
        · gi_wp2
          go_roundw
          case rel => exact ⟨k + 1, by omega, by simp, by rw [HT.out]; exact hJ3, hb.trans hk3⟩
          case measure => simp [intOf]; omega
        · gi_wp2
          refine bodyPost_ret (results_none rfl _ _ _) rfl ?_
          exact ⟨⟨_, rfl⟩, .inr ⟨_, trivial, hJx3⟩⟩
    · obtain rfl : k = n := by omega
      gi_wp2
      go_end0
      exact ⟨⟨_, rfl⟩, .inl ⟨_, rfl, hJ⟩⟩
set_option maxHeartbeats 800000 in
theorem imageSeq_c (A : Option Addr) (n c : Nat) (w : World) :
    Calls Try.prog 82 #[.slice A n c] w fun e w' => e = .returned (.func (.func 102) #[] #[.pointer (some ⟨w.heap.size, 0, none⟩)]) ∧ w' = w.alloc (.cells #[.slice A n c] 49) := by
  go_enter Try.func82, Try.ntmps82
  go_wp2_with fail
  go_ret
  exact ⟨rfl, rfl⟩
theorem image_seq (A : Option Addr) (n c : Nat) (xs : List Int) (w : World) (h : Rd w w.heap.size A n c xs) (hn : n ≤ 100) :
    Seq 102 #[.pointer (some ⟨w.heap.size, 0, none⟩)] (fun ys => ys = imgX xs n) (w.alloc (.cells #[.slice A n c] 49)) := by
  have bM := Boxed.new w 49 (.slice A n c)
  have hb : Below w.heap.size w (w.alloc (.cells #[.slice A n c] 49)) := (Below.refl _ w).alloc (Nat.le_refl _) _
  have hr := h.up hb
  have hlt := bM.lt
  intro l J Jx W hW _ _ hY h0
  exact image1_in l w.heap.size _ A n c xs hn J Jx W (hr.below hW) hY ((hW.cell (p := ⟨w.heap.size, 0, none⟩) hlt).trans bM.cell) hlt hW.size h0
def imageI (xs : List Int) : List Int := if mapOk xs then imgX xs xs.length else []
theorem imageI_no {xs : List Int} (h : mapOk xs = false) : imageI xs = [] := by unfold imageI; rw [h]; simp
theorem imageI_ok {f : List Nat} (hf : MapN f) : imageI (ints f) = ints (imgN f) := by unfold imageI; rw [if_pos (mapOk_ints hf), imgX_parts, ints_len]; rfl
set_option maxHeartbeats 800000 in
theorem imageOf_c (A : Option Addr) (n c : Nat) (xs : List Int) (w : World) (h : Rd w w.heap.size A n c xs) :
    Calls Try.prog 53 #[.slice A n c] w (Row1 (imageI xs) w) := by
  have hl := h.len
  rcases hm : mapOk xs with _ | _
  · have HE := Lib.hid (imageI_no hm)
    go_enter Try.func53, Try.ntmps53
    go_wp2_with (go_at_call 61; refine (mapOk_c _ _ _ _ _ h).mono ?_; rintro e w' ⟨rfl, rfl⟩)
    go_ret
    exact ⟨_, _, _, rfl, by rw [HE.out]; exact OwnIn.nil_ _ _ _, Below.refl _ _⟩
  · have hn7 : n ≤ 7 := by obtain ⟨f, rfl, hf⟩ := mapOk_ex hm; have := hf.le7; rw [ints_len] at hl; omega
    have HE : Hid (imageI xs = imgX xs n) := by unfold Hid imageI; rw [if_pos hm, hl]
    have HS := Lib.hid (image_seq A n c xs w h (by omega))
    have hb : Below w.heap.size w (w.alloc (.cells #[.slice A n c] 49)) := (Below.refl _ w).alloc (Nat.le_refl _) _
    go_enter Try.func53, Try.ntmps53
    go_wp2_with (go_at_call 61; refine (mapOk_c _ _ _ _ _ h).mono ?_; rintro e w' ⟨rfl, rfl⟩)
    refine (imageSeq_c A n c w).mono ?_
    rintro e w1 ⟨rfl, hw1⟩
    rw [← hw1] at HS hb
    clear hw1
    go_wp2_with fail
    refine (collect_c _ _ _ w1 HS.out (enters_of Try.func102 (by kernel_rfl) rfl)).mono ?_
    rintro e w2 ⟨v, ys, hy, rfl, hO, hb2⟩
    have hO2 : OwnV w2 w.heap.size v (imageI xs) := by rw [HE.out, ← hy]; exact hO.more hb.size
    obtain ⟨A2, c2, rfl, hI⟩ := hO2.slice_
    have hbb := bt hb hb2
    clear hO hy hO2
    go_wp2_with fail
    go_ret
    exact ⟨A2, _, c2, rfl, hI, hbb⟩

/-! ### hasInt, ascend -/
set_option maxHeartbeats 400000 in
theorem hasInt_c (A : Option Addr) (n c : Nat) (xs : List Int) (v : Int) (w : World) (h : Rd w w.heap.size A n c xs) :
    Calls Try.prog 54 #[.slice A n c, .int .i64 v] w fun e w' => e = .returned (.bool (hasI xs v)) ∧ w = w' := by
  have hm := h.max
  have hc := h.cap
  have HL := Lib.hid h.len
  unfold maxLen at hm
  go_enter Try.func54, Try.ntmps54
  go_wp2_with fail
  go_loopw [5] (fun i wr => ∃ k : Nat, k ≤ n ∧ i = .int .i64 k ∧ (∀ j, j < k → gI xs j ≠ v) ∧ wr = w) (fun i _ => n - (intOf i).toNat)
  case atStart => exact ⟨0, Nat.zero_le _, rfl, fun j hj => absurd hj (Nat.not_lt_zero _), rfl⟩
  case round =>
    obtain ⟨k, hk, rfl, hall, rfl⟩ := hrel
    have HA := Lib.hid hall
    clear hall
    by_cases hlt : k < n
    · obtain ⟨b, off, rfl, hb, hcell⟩ := h.at_ hlt
      by_cases he : gI xs k = v
      · have hq : (gI xs k == v) = true := by rw [he]; simp
        have HH : Hid (hasI xs v = true) := hasI_yes (j := k) (by rw [HL.out]; exact hlt) he
        clear he
        go_wp2_with fail
        go_ret
        exact ⟨boolEnd HH.out.symm, rfl⟩
      · have hq : (gI xs k == v) = false := by rw [beq_eq_false_iff_ne]; exact he
        have HE := Lib.hid he
        clear he
        go_wp2_with fail
        go_roundw
        case rel => exact ⟨k + 1, by omega, by go_num, fun j hj => by
          rcases Nat.lt_or_ge j k with h' | h'
          · exact HA.out j h'
          · obtain rfl : j = k := by omega
            exact HE.out, trivial⟩
        case measure => simp [intOf]; omega
    · obtain rfl : k = n := by omega
      have HH : Hid (hasI xs v = false) := hasI_no (fun j hj => HA.out j (by have := HL.out; omega))
      go_wp2_with fail
      go_ret
      exact ⟨boolEnd HH.out.symm, rfl⟩
set_option maxHeartbeats 800000 in
theorem ascend_c (A : Option Addr) (n c : Nat) (xs : List Int) (w : World) (h : Rd w w.heap.size A n c xs) (ha : Asc xs) :
    Calls Try.prog 55 #[.slice A n c] w fun e w' => e = .returned (.bool true) ∧ ∃ m, w' = w.drewN m := by
  have hm := h.max
  have hc := h.cap
  have HL := Lib.hid h.len
  have HA := Lib.hid ha
  unfold maxLen at hm
  clear ha
  go_enter Try.func55, Try.ntmps55
  go_wp2_with fail
  go_loopw [3] (fun i wr => ∃ k m : Nat, (k + 1 ≤ n ∨ k = 0) ∧ i = .int .i64 ((k + 1 : Nat) : Int) ∧ wr = w.drewN m) (fun i _ => n + 1 - (intOf i).toNat)
  case atStart => exact ⟨0, 0, .inr rfl, rfl, rfl⟩
  case round =>
    obtain ⟨k, m, hk, rfl, rfl⟩ := hrel
    by_cases hlt : k + 1 < n
    · obtain ⟨b, off, rfl, hb, hcell⟩ := h.at_ (k := k) (by omega)
      obtain ⟨b', off', heq, _, hcell2⟩ := h.at_ (k := k + 1) hlt
      cases heq
      have hx := HA.out k (by rw [HL.out]; exact hlt)
      generalize gI xs k = x at *
      generalize gI xs (k + 1) = y at *
      have hdl : decide (((k + 1 : Nat) : Int) < (n : Int)) = true := decide_eq_true (by omega)
      have hdl2 : decide ((k : Int) + 1 < (n : Int)) = true := decide_eq_true (by omega)
      have hw1 : IntKind.i64.wrap ((k : Int) + 1 - 1) = (k : Int) := by rw [show (k : Int) + 1 - 1 = (k : Int) by omega]; exact IntWalk.i64_in _ (by omega)
      have hw2 : IntKind.i64.wrap (k : Int) = (k : Int) := IntWalk.i64_in _ (by omega)
      have hxy : decide (y ≤ x) = false := decide_eq_false (by omega)
      have hi1 : (0 : Int) ≤ (k : Int) := by omega
      have hi2 : (k : Int) < (n : Int) := by omega
      have hi3 : (k : Int) + 1 < (n : Int) := by omega
      have hi4 : ((k : Int) + 1).toNat = k + 1 := by omega
      go_wp2_with fail
      go_quiet (fail)
      go_wp2_with fail
      go_roundw
      case rel => exact ⟨k + 1, _, .inl (by omega), by go_num, by first | rfl | exact World.drewN_drewN ..⟩
      case measure => simp [intOf]; omega
    · have hdl : decide (((k + 1 : Nat) : Int) < (n : Int)) = false := decide_eq_false (by omega)
      have hdl2 : decide ((k : Int) + 1 < (n : Int)) = false := decide_eq_false (by omega)
      go_wp2_with fail
      go_ret
      exact ⟨rfl, _, rfl⟩
end Go.Proofs.Ytlbiioncpeondaa
