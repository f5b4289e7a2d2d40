/- Walks: CodedOk (impl and spec), CentreOf (impl), TreeFor (spec). -/
import Derived.Test.YtlbiioncpeondaaW7
import Derived.Test.YtlbiioncpeondaaM6
import Derived.Deep.LoopGhost
import Derived.WalkMore
import Derived.Outline
namespace Go.Proofs.Ytlbiioncpeondaa
set_option linter.unusedVariables false
open Go.RowKit

set_option maxHeartbeats 400000 in
theorem codedOk_c (A : Option Addr) (n c : Nat) (xs : List Int) (w : World) (h : Rd w w.heap.size A n c xs) :
    Calls Try.prog 37 #[.slice A n c] w fun e w' => e = .returned (.bool (codedOk xs)) ∧ w = w' := by
  have HL := Lib.hid h.len
  have hm := h.max
  have hc := h.cap
  unfold maxLen at hm
  by_cases h6 : 6 < n
  · have HS : Hid (codedOk xs = false) := by unfold Hid codedOk; rw [HL.out, decide_eq_false (by omega)]; rfl
    go_enter Try.func37, Try.ntmps37
    go_wp2
    go_ret
    exact ⟨boolEnd HS.out.symm, rfl⟩
  have HS : Hid (codedOk xs = codeAll n xs) := by unfold Hid codedOk; rw [HL.out, decide_eq_true (show n ≤ 6 by omega)]; rfl
  go_enter Try.func37, Try.ntmps37
  go_wp2
  go_loop [10] (fun i => ∃ k : Nat, k ≤ n ∧ i = .int .i64 k ∧ ∀ j, j < k → inB (gI xs j) 0 (n : Int) = true) (fun i => n - (intOf i).toNat)
  case atStart => exact ⟨0, Nat.zero_le _, rfl, fun j hj => absurd hj (Nat.not_lt_zero _)⟩
  case round =>
    obtain ⟨k, hk, rfl, hall⟩ := hrel
    have HA := Lib.hid hall
    clear hall
    by_cases hlt : k < n
    · obtain ⟨b, off, rfl, hb, hcell⟩ := h.at_ hlt
      rcases hh : inB (gI xs k) 0 (n : Int) with _ | _
      · have HH := Lib.hid hh
        go_wp2_with (go_at_call 71; refine (within_c _ _ _ _).mono ?_; rintro e w' ⟨rfl, rfl⟩)
        go_ret
        exact ⟨boolEnd (by rw [HS.out]; exact (codeAll_not (by rw [HL.out]; exact hlt) HH.out).symm), rfl⟩
      · have HH := Lib.hid hh
        go_wp2_with (go_at_call 71; refine (within_c _ _ _ _).mono ?_; rintro e w' ⟨rfl, rfl⟩)
        go_round
        case rel => exact ⟨k + 1, by omega, by go_num, fun j hj => by
          rcases Nat.lt_or_ge j k with h' | h'
          · exact HA.out j h'
          · obtain rfl : j = k := by omega
            exact HH.out⟩
        case measure => simp [intOf]; omega
    · go_wp2
      go_ret
      exact ⟨boolEnd (by rw [HS.out]; exact (codeAll_iff.2 (fun j hj => HA.out j (by rw [HL.out] at hj; omega))).symm), rfl⟩

set_option maxHeartbeats 400000 in
theorem sCodedOk_c (A : Option Addr) (n c : Nat) (xs : List Int) (w : World) (h : Rd w w.heap.size A n c xs) :
    Calls Try.prog 70 #[.slice A n c] w fun e w' => e = .returned (.bool (codedOk xs)) ∧ w = w' := by
  have HL := Lib.hid h.len
  have hm := h.max
  have hc := h.cap
  unfold maxLen at hm
  have HS : Hid (codedOk xs = (decide (n ≤ 6) && codeAll n xs)) := by unfold Hid codedOk; rw [HL.out]
  go_enter Try.func70, Try.ntmps70
  go_wp2
  go_loop [3] (fun i => ∃ k : Nat, k ≤ n ∧ i = .int .i64 k ∧ ∀ j, j < k → inB (gI xs j) 0 (n : Int) = true) (fun i => n - (intOf i).toNat)
  case atStart => exact ⟨0, Nat.zero_le _, rfl, fun j hj => absurd hj (Nat.not_lt_zero _)⟩
  case round =>
    obtain ⟨k, hk, rfl, hall⟩ := hrel
    have HA := Lib.hid hall
    clear hall
    by_cases hlt : k < n
    · obtain ⟨b, off, rfl, hb, hcell⟩ := h.at_ hlt
      rcases hh : inB (gI xs k) 0 (n : Int) with _ | _
      · have HH := Lib.hid hh
        go_wp2_with (go_at_call 76; refine (l1In_c _ _ _ _).mono ?_; rintro e w' ⟨rfl, rfl⟩)
        go_ret
        exact ⟨boolEnd (by rw [HS.out, codeAll_not (by rw [HL.out]; exact hlt) HH.out, Bool.and_false]), rfl⟩
      · have HH := Lib.hid hh
        go_wp2_with (go_at_call 76; refine (l1In_c _ _ _ _).mono ?_; rintro e w' ⟨rfl, rfl⟩)
        go_round
        case rel => exact ⟨k + 1, by omega, by go_num, fun j hj => by
          rcases Nat.lt_or_ge j k with h' | h'
          · exact HA.out j h'
          · obtain rfl : j = k := by omega
            exact HH.out⟩
        case measure => simp [intOf]; omega
    · have HT : Hid (codedOk xs = decide (n ≤ 6)) := by
        unfold Hid
        rw [HS.out, codeAll_iff.2 (fun j hj => HA.out j (by rw [HL.out] at hj; omega)), Bool.and_true]
      by_cases h6 : n < 7
      · go_wp2
        go_ret
        exact ⟨boolEnd (by rw [HT.out, decide_eq_true (show n ≤ 6 by omega)]; exact decide_eq_true (by omega)), rfl⟩
      · go_wp2
        go_ret
        exact ⟨boolEnd (by rw [HT.out, decide_eq_false (show ¬ n ≤ 6 by omega)]; exact decide_eq_false (by omega)), rfl⟩

set_option maxHeartbeats 800000 in
/-- Of a row that may be a code: new memory with the counts. -/
theorem centreOf_ok (A : Option Addr) (k : Nat) (c : List Nat) (w : World) (h : Rd w w.heap.size A c.length k (ints c)) (hc : CodeN c) :
    Calls Try.prog 34 #[.slice A c.length k] w fun e w' => e = .returned (.slice (some ⟨w.heap.size, 0, none⟩) (c.length + 1) (c.length + 1)) ∧ OwnIn w' w.heap.size (w.heap.size + 1) (some ⟨w.heap.size, 0, none⟩) (c.length + 1) (c.length + 1) (ints (ctN c)) ∧ Below w.heap.size w w' := by
  have h6 := hc.le6
  have hok := codedOk_ints hc
  obtain ⟨i0, hi, hz0, hz1, hz2⟩ := info_parts int_info
  go_enter Try.func34, Try.ntmps34
  go_wp2_with (first
    | (go_at_call 37; refine (codedOk_c _ _ _ _ _ h).mono ?_; rintro e w' ⟨rfl, rfl⟩)
    | (at_make; refine wpList_make_full _ rfl _ _ 22 rfl w.heap.size 3 i0 (.int .i64 0) 1 Try.underlying22 hi hz0 hz1 _ _ _ _ (c.length + 1) rfl rfl (by omega) (by omega) (by rw [hz2]; omega) (by unfold maxLen; omega) (Nat.le_refl _) ?_; intro w1 hown1 hg1))
  have hb1 : Below w.heap.size w w1 := (Below.refl _ _).grown hg1 (Nat.le_refl _) (fun k hk => by cases hk)
  have ho1 : OwnIn w1 w.heap.size (w.heap.size + 1) (some ⟨w.heap.size, 0, none⟩) (c.length + 1) (c.length + 1) (ints (ctK c 0)) := by
    refine ⟨⟨by rw [ints_len, ctK_len], ?_⟩, fun k hk => by cases hk; exact Nat.lt_succ_self _⟩
    rw [ctK_zero, ints_replicate, List.map_replicate]
    simpa [toList_madeCells_one, Value.cells] using hown1
  clear hown1
  go_loopw [15] (fun i wr => ∃ j : Nat, j ≤ c.length ∧ i = .int .i64 j ∧ OwnIn wr w.heap.size (w.heap.size + 1) (some ⟨w.heap.size, 0, none⟩) (c.length + 1) (c.length + 1) (ints (ctK c j)) ∧ Below w.heap.size w wr) (fun i _ => c.length - (intOf i).toNat)
  case atStart => exact ⟨0, Nat.zero_le _, rfl, ho1, hb1⟩
  case round =>
    obtain ⟨j, hj, rfl, ho, hbw⟩ := hrel
    by_cases hlt : j < c.length
    · obtain ⟨b, off, rfl, hb, hcell0⟩ := h.at_ hlt
      have hcell : wr.cell? ⟨b, off + j, none⟩ = some (.int .i64 ((nx c j : Nat) : Int)) := by rw [hbw.cell (p := ⟨b, off + j, none⟩) hb, hcell0, gI_ints]
      have hx := nx_le hc hlt
      have hle := ctK_le (i := j) hx
      have hold : wr.cell? ⟨w.heap.size, nx c j, none⟩ = some (.int .i64 ((nx (ctK c j) (nx c j) : Nat) : Int)) := by rw [ho.cell (by omega), gI_ints]
      have hfz := ho.frozen (nx c j)
      have HST := Lib.hid (ho.store (nx c j) ((nx (ctK c j) (nx c j) : Int) + 1))
      have HB := Lib.hid hbw
      clear hcell0 ho hbw ho1 hb1 hg1
      go_wp2
      go_roundw
      case rel => exact ⟨j + 1, by omega, by go_num, by
        have := HST.out.1
        rw [← ctK_succ hlt, ints_set]
        rwa [show ((nx (ctK c j) (nx c j) : Int) + 1) = ((nx (ctK c j) (nx c j) + 1 : Nat) : Int) by omega] at this, HB.out.trans (HST.out.2.below (by have := HB.out.size; omega))⟩
      case measure => simp [intOf]; omega
    · obtain rfl : j = c.length := by omega
      have HO := Lib.hid ho
      clear ho ho1
      go_wp2
      go_ret
      exact ⟨rfl, HO.out, hbw⟩

/-! ### TreeFor (spec) -/
theorem tree_start {w : World} {B n r : Nat} (hr : r < n) (h : w.ownsRow B 3 1 (.slice (some ⟨B, 0, none⟩) n n) n (List.replicate n (Value.int .i64 0))) :
    OwnIn w B (B + 1) (some ⟨B, 0, none⟩) n n (ints (List.replicate n 0)) := by
  refine ⟨⟨by rw [ints_len]; simp, ?_⟩, fun k hk => by cases hk; exact Nat.lt_succ_self _⟩
  rw [ints_replicate, List.map_replicate]; exact h

theorem treeK_zero_store (c : List Nat) : (ints (List.replicate (c.length + 1) 0)).set (rt c) (rt c : Int) = ints (treeK c 0) := by rw [← ints_set]; rfl
theorem treeK_next {c : List Nat} {a : Nat} : (ints (treeK c a)).set (lf c a) (nx c a : Int) = ints (treeK c (a + 1)) := by rw [← ints_set]; rfl
theorem gm_succ (c : List Nat) (a : Nat) : gm c (a + 1) = gm c a ||| 2 ^ lf c a := rfl
theorem ne_bool {a b : Nat} (h : a ≠ b) : (((a : Nat) : Int) != ((b : Nat) : Int)) = true := by simp; omega
theorem eq_bool {a b : Nat} (h : a = b) : (((a : Nat) : Int) != ((b : Nat) : Int)) = false := by simp; omega
theorem eqq_bool {a b : Nat} (h : a = b) : (((a : Nat) : Int) == ((b : Nat) : Int)) = true := by simp; omega
theorem neq_bool {a b : Nat} (h : a ≠ b) : (((a : Nat) : Int) == ((b : Nat) : Int)) = false := by simp; omega

set_option maxRecDepth 100000 in
set_option maxHeartbeats 3200000 in
theorem sTreeFor_pos (A : Option Addr) (kc : Nat) (c : List Nat) (w : World) (h : Rd w w.heap.size A c.length kc (ints c)) (hc : CodeN c) (h0 : 0 < c.length) :
    Calls Try.prog 48 #[.slice A c.length kc] w fun e w' => e = .returned (.tuple #[.slice (some ⟨w.heap.size, 0, none⟩) (c.length + 1) (c.length + 1), .bool true]) ∧ OwnIn w' w.heap.size (w.heap.size + 1) (some ⟨w.heap.size, 0, none⟩) (c.length + 1) (c.length + 1) (ints (treeN c)) ∧ Below w.heap.size w w' := by
  have h6 := hc.le6
  have hok := codedOk_ints hc
  have hrt := rt_le hc
  obtain ⟨i0, hi, hz0, hz1, hz2⟩ := info_parts int_info
  have hlast : Hid (rt c = nx c (c.length - 1)) := by unfold Hid rt; rw [if_neg (by omega)]
  obtain ⟨b0, off0, rfl, hb0, hcells0⟩ := h.2.2.2 h0
  have hcl : w.cell? ⟨b0, off0 + (c.length - 1), none⟩ = some (.int .i64 ((rt c : Nat) : Int)) := by rw [hcells0 _ (by omega), gI_ints, hlast.out]
  have HC : Hid (∀ k, k < c.length → w.cell? ⟨b0, off0 + k, none⟩ = some (.int .i64 ((nx c k : Nat) : Int))) := fun k hk => by rw [hcells0 k hk, gI_ints]
  clear hcells0
  go_enter Try.func48, Try.ntmps48
  go_wp2_with (first
    | (go_at_call 70; refine (sCodedOk_c _ _ _ _ _ h).mono ?_; rintro e w' ⟨rfl, rfl⟩)
    | (at_make; refine wpList_make_full _ rfl _ _ 22 rfl w.heap.size 3 i0 (.int .i64 0) 1 Try.underlying22 hi hz0 hz1 _ _ _ _ (c.length + 1) rfl rfl (by omega) (by omega) (by rw [hz2]; omega) (by unfold maxLen; omega) (Nat.le_refl _) ?_))
  intro w1 hown1 hg1
  have hb1 : Below w.heap.size w w1 := (Below.refl _ _).grown hg1 (Nat.le_refl _) (fun k hk => by cases hk)
  have hcl1 := (hb1.cell (p := ⟨b0, off0 + (c.length - 1), none⟩) hb0).trans hcl
  have ho1 := tree_start (w := w1) (B := w.heap.size) (n := c.length + 1) (r := rt c) (by omega) (by simpa [toList_madeCells_one, Value.cells] using hown1)
  have hold := ho1.cell (j := rt c) (by omega)
  have hfz := ho1.frozen (rt c)
  have HST := Lib.hid (ho1.store (rt c) (rt c : Int))
  have HB1 := Lib.hid hb1
  clear hown1 hg1 ho1 hb1 hcl
  go_wp2
  have hs1 := HB1.out.size
  have hB2 : Below w.heap.size w (w1.setCell ⟨w.heap.size, rt c, none⟩ (.int .i64 (rt c : Int))) := HB1.out.setCell (Nat.le_refl _) _
  have ho2 := HST.out.1
  rw [treeK_zero_store] at ho2
  generalize w1.setCell ⟨w.heap.size, rt c, none⟩ (.int .i64 (rt c : Int)) = w2 at hB2 ho2 ⊢
  clear hold hfz HST HB1 hcl1 hs1
  go_loopw [6, 8] (fun g t wr => ∃ a : Nat, a ≤ c.length ∧ t = .int .i64 a ∧ g = .int .i64 ((gm c a : Nat) : Int) ∧ OwnIn wr w.heap.size (w.heap.size + 1) (some ⟨w.heap.size, 0, none⟩) (c.length + 1) (c.length + 1) (ints (treeK c a)) ∧ Below w.heap.size w wr) (fun g t _ => c.length - (intOf t).toNat)
  case atStart => exact ⟨0, Nat.zero_le _, rfl, rfl, ho2, hB2⟩
  case round =>
    obtain ⟨a, ha, rfl, rfl, ho, hbw⟩ := hrel
    clear ho2 hB2 w2
    by_cases hlt : a < c.length
    · have hlv := lvs hc a ha
      have hgm := gm_lt hc ha
      have HF := Lib.hid (hlv.free hc hlt)
      have HO := Lib.hid ho
      have HB := Lib.hid hbw
      clear ho hbw hlv w1
      go_wp2_with fail
      obtain ⟨wo, rfl⟩ : ∃ wo : World, wo = wr := ⟨_, rfl⟩
      go_loopw [6, 9] (fun g t wr => ∃ k : Nat, k ≤ c.length + 1 ∧ t = .int .i64 k ∧ g = .int .i64 ((gm c a : Nat) : Int) ∧ (∀ j, j < k → freeC c (lfs c a) a j = false) ∧ wr = wo) (fun g t _ => c.length + 1 - (intOf t).toNat)
      case atStart => exact ⟨0, Nat.zero_le _, rfl, rfl, fun j hj => absurd hj (Nat.not_lt_zero _), rfl⟩
      case round =>
        obtain ⟨k, hk, rfl, rfl, hno, rfl⟩ := hrel
        have HN := Lib.hid hno
        clear hno
        by_cases hkl : k < c.length + 1
        · have hob := even_bit (gm c a) k
          have hsr := shr_bit (gm c a) k
          have h27 := two_le (k := k) (by omega)
          have hi1 : (1 : Int) ≤ 2 ^ k := by rw [castPow]; omega
          have hi2 : (2 : Int) ^ k ≤ 128 := by rw [castPow]; omega
          have hor : bits .or .i64 ((gm c a : Nat) : Int) (2 ^ k) = ((gm c a ||| 2 ^ k : Nat) : Int) := by
            rw [castPow]; exact bits_or _ _ (by omega) (by omega)
          clear h27
          have hcase : k = rt c ∨ (k ≠ rt c ∧ (gm c a).testBit k = true) ∨ (k ≠ rt c ∧ (gm c a).testBit k = false) := by
            by_cases h1 : k = rt c
            · exact .inl h1
            · rcases h2 : (gm c a).testBit k with _ | _
              · exact .inr (.inr ⟨h1, rfl⟩)
              · exact .inr (.inl ⟨h1, rfl⟩)
          rcases hcase with h1 | ⟨h1, h2⟩ | ⟨h1, h2⟩
          · have hq := eq_bool h1
            have HFr : Hid (Fr c a k a false) := Fr.start ⟨fun h => (by cases h), fun h => absurd h1 h.1⟩
            clear h1
            go_wp2_with fail
            go_loop [10, 11] (fun fr j => ∃ (b : Bool) (t : Nat), a ≤ t ∧ t ≤ c.length ∧ j = .int .i64 t ∧ fr = .bool b ∧ Fr c a k t b) (fun fr j => c.length - (intOf j).toNat)
            case atStart => exact ⟨_, a, Nat.le_refl _, by omega, rfl, rfl, HFr.out⟩
            case round =>
              obtain ⟨b, t, hat, htc, rfl, rfl, hFr⟩ := hrel
              have HF2 := Lib.hid hFr
              clear hFr
              by_cases htl : t < c.length
              · have hcell := (HB.out.cell (p := ⟨b0, off0 + t, none⟩) hb0).trans (HC.out t htl)
                by_cases he : nx c t = k
                · have hq2 := eqq_bool he
                  have HE := Lib.hid he
                  clear he
                  go_wp2
                  go_round
                  case rel => exact ⟨false, t + 1, by omega, by omega, by go_num, rfl, Fr.drop hat HE.out⟩
                  case measure => simp [intOf]; omega
                · have hq2 := neq_bool he
                  have HE := Lib.hid he
                  clear he
                  go_wp2
                  go_round
                  case rel => exact ⟨b, t + 1, by omega, by omega, by go_num, rfl, HF2.out.keep HE.out⟩
                  case measure => simp [intOf]; omega
              · obtain rfl : t = c.length := by omega
                have HD : Hid (b = freeC c (lfs c a) a k) := HF2.out.done
                rcases b with _ | _
                · go_wp2
                  go_roundw
                  case rel => exact ⟨k + 1, by omega, by go_num, rfl, fun j hj => by
                    rcases Nat.lt_or_ge j k with h' | h'
                    · exact HN.out j h'
                    · obtain rfl : j = k := by omega
                      exact HD.out.symm, by first | rfl | trivial⟩
                  case measure => simp [intOf]; omega
                · have HK : Hid (lf c a = k) := minF_is (by omega) HD.out.symm HN.out
                  have hcell := (HB.out.cell (p := ⟨b0, off0 + a, none⟩) hb0).trans (HC.out a hlt)
                  have hold := HO.out.cell (j := k) (by omega)
                  have hfz := HO.out.frozen k
                  have HST := Lib.hid (HO.out.store k (nx c a : Int))
                  have HS := Lib.hid HB.out.size
                  go_wp2
                  go_roundw
                  case rel => exact ⟨a + 1, by omega, by go_num, by rw [gm_succ, HK.out], by
                    have := HST.out.1
                    rw [← HK.out] at this ⊢
                    rwa [treeK_next] at this, HB.out.trans (HST.out.2.below HS.out)⟩
                  case measure => simp [intOf]; omega
          · have hq := ne_bool h1
            have HFr : Hid (Fr c a k a false) := Fr.start ⟨fun h => (by cases h), fun h => absurd ((gm_bit c k a).1 h2) h.2⟩
            clear h1
            go_wp2_with fail
            go_loop [10, 11] (fun fr j => ∃ (b : Bool) (t : Nat), a ≤ t ∧ t ≤ c.length ∧ j = .int .i64 t ∧ fr = .bool b ∧ Fr c a k t b) (fun fr j => c.length - (intOf j).toNat)
            case atStart => exact ⟨_, a, Nat.le_refl _, by omega, rfl, rfl, HFr.out⟩
            case round =>
              obtain ⟨b, t, hat, htc, rfl, rfl, hFr⟩ := hrel
              have HF2 := Lib.hid hFr
              clear hFr
              by_cases htl : t < c.length
              · have hcell := (HB.out.cell (p := ⟨b0, off0 + t, none⟩) hb0).trans (HC.out t htl)
                by_cases he : nx c t = k
                · have hq2 := eqq_bool he
                  have HE := Lib.hid he
                  clear he
                  go_wp2
                  go_round
                  case rel => exact ⟨false, t + 1, by omega, by omega, by go_num, rfl, Fr.drop hat HE.out⟩
                  case measure => simp [intOf]; omega
                · have hq2 := neq_bool he
                  have HE := Lib.hid he
                  clear he
                  go_wp2
                  go_round
                  case rel => exact ⟨b, t + 1, by omega, by omega, by go_num, rfl, HF2.out.keep HE.out⟩
                  case measure => simp [intOf]; omega
              · obtain rfl : t = c.length := by omega
                have HD : Hid (b = freeC c (lfs c a) a k) := HF2.out.done
                rcases b with _ | _
                · go_wp2
                  go_roundw
                  case rel => exact ⟨k + 1, by omega, by go_num, rfl, fun j hj => by
                    rcases Nat.lt_or_ge j k with h' | h'
                    · exact HN.out j h'
                    · obtain rfl : j = k := by omega
                      exact HD.out.symm, by first | rfl | trivial⟩
                  case measure => simp [intOf]; omega
                · have HK : Hid (lf c a = k) := minF_is (by omega) HD.out.symm HN.out
                  have hcell := (HB.out.cell (p := ⟨b0, off0 + a, none⟩) hb0).trans (HC.out a hlt)
                  have hold := HO.out.cell (j := k) (by omega)
                  have hfz := HO.out.frozen k
                  have HST := Lib.hid (HO.out.store k (nx c a : Int))
                  have HS := Lib.hid HB.out.size
                  go_wp2
                  go_roundw
                  case rel => exact ⟨a + 1, by omega, by go_num, by rw [gm_succ, HK.out], by
                    have := HST.out.1
                    rw [← HK.out] at this ⊢
                    rwa [treeK_next] at this, HB.out.trans (HST.out.2.below HS.out)⟩
                  case measure => simp [intOf]; omega
          · have hq := ne_bool h1
            have HFr : Hid (Fr c a k a true) := Fr.start ⟨fun _ => ⟨h1, fun hm => by rw [(gm_bit c k a).2 hm] at h2; cases h2⟩, fun _ => rfl⟩
            clear h1
            go_wp2_with fail
            go_loop [10, 11] (fun fr j => ∃ (b : Bool) (t : Nat), a ≤ t ∧ t ≤ c.length ∧ j = .int .i64 t ∧ fr = .bool b ∧ Fr c a k t b) (fun fr j => c.length - (intOf j).toNat)
            case atStart => exact ⟨_, a, Nat.le_refl _, by omega, rfl, rfl, HFr.out⟩
            case round =>
              obtain ⟨b, t, hat, htc, rfl, rfl, hFr⟩ := hrel
              have HF2 := Lib.hid hFr
              clear hFr
              by_cases htl : t < c.length
              · have hcell := (HB.out.cell (p := ⟨b0, off0 + t, none⟩) hb0).trans (HC.out t htl)
                by_cases he : nx c t = k
                · have hq2 := eqq_bool he
                  have HE := Lib.hid he
                  clear he
                  go_wp2
                  go_round
                  case rel => exact ⟨false, t + 1, by omega, by omega, by go_num, rfl, Fr.drop hat HE.out⟩
                  case measure => simp [intOf]; omega
                · have hq2 := neq_bool he
                  have HE := Lib.hid he
                  clear he
                  go_wp2
                  go_round
                  case rel => exact ⟨b, t + 1, by omega, by omega, by go_num, rfl, HF2.out.keep HE.out⟩
                  case measure => simp [intOf]; omega
              · obtain rfl : t = c.length := by omega
                have HD : Hid (b = freeC c (lfs c a) a k) := HF2.out.done
                rcases b with _ | _
                · go_wp2
                  go_roundw
                  case rel => exact ⟨k + 1, by omega, by go_num, rfl, fun j hj => by
                    rcases Nat.lt_or_ge j k with h' | h'
                    · exact HN.out j h'
                    · obtain rfl : j = k := by omega
                      exact HD.out.symm, by first | rfl | trivial⟩
                  case measure => simp [intOf]; omega
                · have HK : Hid (lf c a = k) := minF_is (by omega) HD.out.symm HN.out
                  have hcell := (HB.out.cell (p := ⟨b0, off0 + a, none⟩) hb0).trans (HC.out a hlt)
                  have hold := HO.out.cell (j := k) (by omega)
                  have hfz := HO.out.frozen k
                  have HST := Lib.hid (HO.out.store k (nx c a : Int))
                  have HS := Lib.hid HB.out.size
                  go_wp2
                  go_roundw
                  case rel => exact ⟨a + 1, by omega, by go_num, by rw [gm_succ, HK.out], by
                    have := HST.out.1
                    rw [← HK.out] at this ⊢
                    rwa [treeK_next] at this, HB.out.trans (HST.out.2.below HS.out)⟩
                  case measure => simp [intOf]; omega
        · exfalso
          obtain ⟨f1, f2, f3⟩ := HF.out
          have := HN.out (lf c a) (by omega)
          rw [f2] at this; cases this
    · obtain rfl : a = c.length := by omega
      have HO := Lib.hid ho
      clear ho
      go_wp2
      go_ret2
      exact ⟨rfl, HO.out, hbw⟩
end Go.Proofs.Ytlbiioncpeondaa
