/- Walks: CodedOk (impl and spec), CentreOf (impl), TreeFor (spec). · Walks: TreeFor (impl and spec). Printed by gen_w12.py. · Walks: TreeFor (impl and spec), for whatever row. · Walks: exact laws whose result is a row and a truth. Printed by gen_w14.py. -/
import Derived.Deep.LoopGhost
import Derived.WalkMore
import Derived.Outline
import Derived.ScopeJumps
import Derived.Test.YtlbiioncpeondaaV2
import Derived.Test.YtlbiioncpeondaaP
import Derived.Test.YtlbiioncpeondaaV1
namespace Go.Proofs.Ytlbiioncpeondaa
set_option linter.unusedVariables false
open Go.RowKit

set_option maxHeartbeats 400000 in
theorem codedOk_c (A : Option Addr) (n c : Nat) (xs : List Int) (w : World) (h : Rd w w.heap.size A n c xs) :
    Calls Try.prog 37 #[.slice A n c] w fun e w' => e = .returned (.bool (codedOk xs)) ∧ w = w' := by
  have HL := Lib.hid h.len
  have hm := h.max
  have hc := h.cap
  unfold maxLen at hm
  by_cases h6 : 6 < n
  · have HS : Hid (codedOk xs = false) := by unfold Hid codedOk; rw [HL.out, decide_eq_false (by omega)]; rfl
    go_enter Try.func37, Try.ntmps37
    go_wp2
    go_ret
    exact ⟨boolEnd HS.out.symm, rfl⟩
  have HS : Hid (codedOk xs = codeAll n xs) := by unfold Hid codedOk; rw [HL.out, decide_eq_true (show n ≤ 6 by omega)]; rfl
  go_enter Try.func37, Try.ntmps37
  go_wp2
  go_loop [10] (fun i => ∃ k : Nat, k ≤ n ∧ i = .int .i64 k ∧ ∀ j, j < k → inB (gI xs j) 0 (n : Int) = true) (fun i => n - (intOf i).toNat)
  case atStart => exact ⟨0, Nat.zero_le _, rfl, fun j hj => absurd hj (Nat.not_lt_zero _)⟩
  case round =>
    obtain ⟨k, hk, rfl, hall⟩ := hrel
    have HA := Lib.hid hall
    clear hall
    by_cases hlt : k < n
    · obtain ⟨b, off, rfl, hb, hcell⟩ := h.at_ hlt
      rcases hh : inB (gI xs k) 0 (n : Int) with _ | _
      · have HH := Lib.hid hh
        go_wp2_with (go_at_call 71; refine (within_c _ _ _ _).mono ?_; rintro e w' ⟨rfl, rfl⟩)
        go_ret
        exact ⟨boolEnd (by rw [HS.out]; exact (codeAll_not (by rw [HL.out]; exact hlt) HH.out).symm), rfl⟩
      · have HH := Lib.hid hh
        go_wp2_with (go_at_call 71; refine (within_c _ _ _ _).mono ?_; rintro e w' ⟨rfl, rfl⟩)
        go_round
        case rel => exact ⟨k + 1, by omega, by go_num, fun j hj => by
          rcases Nat.lt_or_ge j k with h' | h'
          · exact HA.out j h'
          · obtain rfl : j = k := by omega
            exact HH.out⟩
        case measure => simp [intOf]; omega
    · go_wp2
      go_ret
      exact ⟨boolEnd (by rw [HS.out]; exact (codeAll_iff.2 (fun j hj => HA.out j (by rw [HL.out] at hj; omega))).symm), rfl⟩

set_option maxHeartbeats 400000 in
theorem sCodedOk_c (A : Option Addr) (n c : Nat) (xs : List Int) (w : World) (h : Rd w w.heap.size A n c xs) :
    Calls Try.prog 70 #[.slice A n c] w fun e w' => e = .returned (.bool (codedOk xs)) ∧ w = w' := by
  have HL := Lib.hid h.len
  have hm := h.max
  have hc := h.cap
  unfold maxLen at hm
  have HS : Hid (codedOk xs = (decide (n ≤ 6) && codeAll n xs)) := by unfold Hid codedOk; rw [HL.out]
  go_enter Try.func70, Try.ntmps70
  go_wp2
  go_loop [3] (fun i => ∃ k : Nat, k ≤ n ∧ i = .int .i64 k ∧ ∀ j, j < k → inB (gI xs j) 0 (n : Int) = true) (fun i => n - (intOf i).toNat)
  case atStart => exact ⟨0, Nat.zero_le _, rfl, fun j hj => absurd hj (Nat.not_lt_zero _)⟩
  case round =>
    obtain ⟨k, hk, rfl, hall⟩ := hrel
    have HA := Lib.hid hall
    clear hall
    by_cases hlt : k < n
    · obtain ⟨b, off, rfl, hb, hcell⟩ := h.at_ hlt
      rcases hh : inB (gI xs k) 0 (n : Int) with _ | _
      · have HH := Lib.hid hh
        go_wp2_with (go_at_call 76; refine (l1In_c _ _ _ _).mono ?_; rintro e w' ⟨rfl, rfl⟩)
        go_ret
        exact ⟨boolEnd (by rw [HS.out, codeAll_not (by rw [HL.out]; exact hlt) HH.out, Bool.and_false]), rfl⟩
      · have HH := Lib.hid hh
        go_wp2_with (go_at_call 76; refine (l1In_c _ _ _ _).mono ?_; rintro e w' ⟨rfl, rfl⟩)
        go_round
        case rel => exact ⟨k + 1, by omega, by go_num, fun j hj => by
          rcases Nat.lt_or_ge j k with h' | h'
          · exact HA.out j h'
          · obtain rfl : j = k := by omega
            exact HH.out⟩
        case measure => simp [intOf]; omega
    · have HT : Hid (codedOk xs = decide (n ≤ 6)) := by
        unfold Hid
        rw [HS.out, codeAll_iff.2 (fun j hj => HA.out j (by rw [HL.out] at hj; omega)), Bool.and_true]
      by_cases h6 : n < 7
      · go_wp2
        go_ret
        exact ⟨boolEnd (by rw [HT.out, decide_eq_true (show n ≤ 6 by omega)]; exact decide_eq_true (by omega)), rfl⟩
      · go_wp2
        go_ret
        exact ⟨boolEnd (by rw [HT.out, decide_eq_false (show ¬ n ≤ 6 by omega)]; exact decide_eq_false (by omega)), rfl⟩

set_option maxHeartbeats 800000 in
/-- Of a row that may be a code: new memory with the counts. -/
theorem centreOf_ok (A : Option Addr) (k : Nat) (c : List Nat) (w : World) (h : Rd w w.heap.size A c.length k (ints c)) (hc : CodeN c) :
    Calls Try.prog 34 #[.slice A c.length k] w fun e w' => e = .returned (.slice (some ⟨w.heap.size, 0, none⟩) (c.length + 1) (c.length + 1)) ∧ OwnIn w' w.heap.size (w.heap.size + 1) (some ⟨w.heap.size, 0, none⟩) (c.length + 1) (c.length + 1) (ints (ctN c)) ∧ Below w.heap.size w w' := by
  have h6 := hc.le6
  have hok := codedOk_ints hc
  obtain ⟨i0, hi, hz0, hz1, hz2⟩ := info_parts int_info
  go_enter Try.func34, Try.ntmps34
  go_wp2_with (first
    | (go_at_call 37; refine (codedOk_c _ _ _ _ _ h).mono ?_; rintro e w' ⟨rfl, rfl⟩)
    | (at_make; refine wpList_make_full _ rfl _ _ 22 rfl w.heap.size 3 i0 (.int .i64 0) 1 Try.underlying22 hi hz0 hz1 _ _ _ _ (c.length + 1) rfl rfl (by omega) (by omega) (by rw [hz2]; omega) (by unfold maxLen; omega) (Nat.le_refl _) ?_; intro w1 hown1 hg1))
  have hb1 : Below w.heap.size w w1 := (Below.refl _ _).grown hg1 (Nat.le_refl _) (fun k hk => by cases hk)
  have ho1 : OwnIn w1 w.heap.size (w.heap.size + 1) (some ⟨w.heap.size, 0, none⟩) (c.length + 1) (c.length + 1) (ints (ctK c 0)) := by
    refine ⟨⟨by rw [ints_len, ctK_len], ?_⟩, fun k hk => by cases hk; exact Nat.lt_succ_self _⟩
    rw [ctK_zero, ints_replicate, List.map_replicate]
    simpa [toList_madeCells_one, Value.cells] using hown1
  clear hown1
  go_loopw [15] (fun i wr => ∃ j : Nat, j ≤ c.length ∧ i = .int .i64 j ∧ OwnIn wr w.heap.size (w.heap.size + 1) (some ⟨w.heap.size, 0, none⟩) (c.length + 1) (c.length + 1) (ints (ctK c j)) ∧ Below w.heap.size w wr) (fun i _ => c.length - (intOf i).toNat)
  case atStart => exact ⟨0, Nat.zero_le _, rfl, ho1, hb1⟩
  case round =>
    obtain ⟨j, hj, rfl, ho, hbw⟩ := hrel
    by_cases hlt : j < c.length
    · obtain ⟨b, off, rfl, hb, hcell0⟩ := h.at_ hlt
      have hcell : wr.cell? ⟨b, off + j, none⟩ = some (.int .i64 ((nx c j : Nat) : Int)) := by rw [hbw.cell (p := ⟨b, off + j, none⟩) hb, hcell0, gI_ints]
      have hx := nx_le hc hlt
      have hle := ctK_le (i := j) hx
      have hold : wr.cell? ⟨w.heap.size, nx c j, none⟩ = some (.int .i64 ((nx (ctK c j) (nx c j) : Nat) : Int)) := by rw [ho.cell (by omega), gI_ints]
      have hfz := ho.frozen (nx c j)
      have HST := Lib.hid (ho.store (nx c j) ((nx (ctK c j) (nx c j) : Int) + 1))
      have HB := Lib.hid hbw
      clear hcell0 ho hbw ho1 hb1 hg1
      go_wp2
      go_roundw
      case rel => exact ⟨j + 1, by omega, by go_num, by
        have := HST.out.1
        rw [← ctK_succ hlt, ints_set]
        rwa [show ((nx (ctK c j) (nx c j) : Int) + 1) = ((nx (ctK c j) (nx c j) + 1 : Nat) : Int) by omega] at this, HB.out.trans (HST.out.2.below (by have := HB.out.size; omega))⟩
      case measure => simp [intOf]; omega
    · obtain rfl : j = c.length := by omega
      have HO := Lib.hid ho
      clear ho ho1
      go_wp2
      go_ret
      exact ⟨rfl, HO.out, hbw⟩

/-! ### TreeFor (spec) -/
theorem tree_start {w : World} {B n r : Nat} (hr : r < n) (h : w.ownsRow B 3 1 (.slice (some ⟨B, 0, none⟩) n n) n (List.replicate n (Value.int .i64 0))) :
    OwnIn w B (B + 1) (some ⟨B, 0, none⟩) n n (ints (List.replicate n 0)) := by
  refine ⟨⟨by rw [ints_len]; simp, ?_⟩, fun k hk => by cases hk; exact Nat.lt_succ_self _⟩
  rw [ints_replicate, List.map_replicate]; exact h

theorem treeK_zero_store (c : List Nat) : (ints (List.replicate (c.length + 1) 0)).set (rt c) (rt c : Int) = ints (treeK c 0) := by rw [← ints_set]; rfl
theorem treeK_next {c : List Nat} {a : Nat} : (ints (treeK c a)).set (lf c a) (nx c a : Int) = ints (treeK c (a + 1)) := by rw [← ints_set]; rfl
theorem gm_succ (c : List Nat) (a : Nat) : gm c (a + 1) = gm c a ||| 2 ^ lf c a := rfl
theorem ne_bool {a b : Nat} (h : a ≠ b) : (((a : Nat) : Int) != ((b : Nat) : Int)) = true := by simp; omega
theorem eq_bool {a b : Nat} (h : a = b) : (((a : Nat) : Int) != ((b : Nat) : Int)) = false := by simp; omega
theorem eqq_bool {a b : Nat} (h : a = b) : (((a : Nat) : Int) == ((b : Nat) : Int)) = true := by simp; omega
theorem neq_bool {a b : Nat} (h : a ≠ b) : (((a : Nat) : Int) == ((b : Nat) : Int)) = false := by simp; omega

set_option maxRecDepth 100000 in
set_option maxHeartbeats 3200000 in
theorem sTreeFor_pos (A : Option Addr) (kc : Nat) (c : List Nat) (w : World) (h : Rd w w.heap.size A c.length kc (ints c)) (hc : CodeN c) (h0 : 0 < c.length) :
    Calls Try.prog 48 #[.slice A c.length kc] w fun e w' => e = .returned (.tuple #[.slice (some ⟨w.heap.size, 0, none⟩) (c.length + 1) (c.length + 1), .bool true]) ∧ OwnIn w' w.heap.size (w.heap.size + 1) (some ⟨w.heap.size, 0, none⟩) (c.length + 1) (c.length + 1) (ints (treeN c)) ∧ Below w.heap.size w w' := by
  have h6 := hc.le6
  have hok := codedOk_ints hc
  have hrt := rt_le hc
  obtain ⟨i0, hi, hz0, hz1, hz2⟩ := info_parts int_info
  have hlast : Hid (rt c = nx c (c.length - 1)) := by unfold Hid rt; rw [if_neg (by omega)]
  obtain ⟨b0, off0, rfl, hb0, hcells0⟩ := h.2.2.2 h0
  have hcl : w.cell? ⟨b0, off0 + (c.length - 1), none⟩ = some (.int .i64 ((rt c : Nat) : Int)) := by rw [hcells0 _ (by omega), gI_ints, hlast.out]
  have HC : Hid (∀ k, k < c.length → w.cell? ⟨b0, off0 + k, none⟩ = some (.int .i64 ((nx c k : Nat) : Int))) := fun k hk => by rw [hcells0 k hk, gI_ints]
  clear hcells0
  go_enter Try.func48, Try.ntmps48
  go_wp2_with (first
    | (go_at_call 70; refine (sCodedOk_c _ _ _ _ _ h).mono ?_; rintro e w' ⟨rfl, rfl⟩)
    | (at_make; refine wpList_make_full _ rfl _ _ 22 rfl w.heap.size 3 i0 (.int .i64 0) 1 Try.underlying22 hi hz0 hz1 _ _ _ _ (c.length + 1) rfl rfl (by omega) (by omega) (by rw [hz2]; omega) (by unfold maxLen; omega) (Nat.le_refl _) ?_))
  intro w1 hown1 hg1
  have hb1 : Below w.heap.size w w1 := (Below.refl _ _).grown hg1 (Nat.le_refl _) (fun k hk => by cases hk)
  have hcl1 := (hb1.cell (p := ⟨b0, off0 + (c.length - 1), none⟩) hb0).trans hcl
  have ho1 := tree_start (w := w1) (B := w.heap.size) (n := c.length + 1) (r := rt c) (by omega) (by simpa [toList_madeCells_one, Value.cells] using hown1)
  have hold := ho1.cell (j := rt c) (by omega)
  have hfz := ho1.frozen (rt c)
  have HST := Lib.hid (ho1.store (rt c) (rt c : Int))
  have HB1 := Lib.hid hb1
  clear hown1 hg1 ho1 hb1 hcl
  go_wp2
  have hs1 := HB1.out.size
  have hB2 : Below w.heap.size w (w1.setCell ⟨w.heap.size, rt c, none⟩ (.int .i64 (rt c : Int))) := HB1.out.setCell (Nat.le_refl _) _
  have ho2 := HST.out.1
  rw [treeK_zero_store] at ho2
  generalize w1.setCell ⟨w.heap.size, rt c, none⟩ (.int .i64 (rt c : Int)) = w2 at hB2 ho2 ⊢
  clear hold hfz HST HB1 hcl1 hs1
  go_loopw [6, 8] (fun g t wr => ∃ a : Nat, a ≤ c.length ∧ t = .int .i64 a ∧ g = .int .i64 ((gm c a : Nat) : Int) ∧ OwnIn wr w.heap.size (w.heap.size + 1) (some ⟨w.heap.size, 0, none⟩) (c.length + 1) (c.length + 1) (ints (treeK c a)) ∧ Below w.heap.size w wr) (fun g t _ => c.length - (intOf t).toNat)
  case atStart => exact ⟨0, Nat.zero_le _, rfl, rfl, ho2, hB2⟩
  case round =>
    obtain ⟨a, ha, rfl, rfl, ho, hbw⟩ := hrel
    clear ho2 hB2 w2
    by_cases hlt : a < c.length
    · have hlv := lvs hc a ha
      have hgm := gm_lt hc ha
      have HF := Lib.hid (hlv.free hc hlt)
      have HO := Lib.hid ho
      have HB := Lib.hid hbw
      clear ho hbw hlv w1
      go_wp2_with fail
      obtain ⟨wo, rfl⟩ : ∃ wo : World, wo = wr := ⟨_, rfl⟩
      go_loopw [6, 9] (fun g t wr => ∃ k : Nat, k ≤ c.length + 1 ∧ t = .int .i64 k ∧ g = .int .i64 ((gm c a : Nat) : Int) ∧ (∀ j, j < k → freeC c (lfs c a) a j = false) ∧ wr = wo) (fun g t _ => c.length + 1 - (intOf t).toNat)
      case atStart => exact ⟨0, Nat.zero_le _, rfl, rfl, fun j hj => absurd hj (Nat.not_lt_zero _), rfl⟩
      case round =>
        obtain ⟨k, hk, rfl, rfl, hno, rfl⟩ := hrel
        have HN := Lib.hid hno
        clear hno
        by_cases hkl : k < c.length + 1
        · have hob := even_bit (gm c a) k
          have hsr := shr_bit (gm c a) k
          have h27 := two_le (k := k) (by omega)
          have hi1 : (1 : Int) ≤ 2 ^ k := by rw [castPow]; omega
          have hi2 : (2 : Int) ^ k ≤ 128 := by rw [castPow]; omega
          have hor : bits .or .i64 ((gm c a : Nat) : Int) (2 ^ k) = ((gm c a ||| 2 ^ k : Nat) : Int) := by
            rw [castPow]; exact bits_or _ _ (by omega) (by omega)
          clear h27
          have hcase : k = rt c ∨ (k ≠ rt c ∧ (gm c a).testBit k = true) ∨ (k ≠ rt c ∧ (gm c a).testBit k = false) := by
            by_cases h1 : k = rt c
            · exact .inl h1
            · rcases h2 : (gm c a).testBit k with _ | _
              · exact .inr (.inr ⟨h1, rfl⟩)
              · exact .inr (.inl ⟨h1, rfl⟩)
          rcases hcase with h1 | ⟨h1, h2⟩ | ⟨h1, h2⟩
          · have hq := eq_bool h1
            have HFr : Hid (Fr c a k a false) := Fr.start ⟨fun h => (by cases h), fun h => absurd h1 h.1⟩
            clear h1
            go_wp2_with fail
            go_loop [10, 11] (fun fr j => ∃ (b : Bool) (t : Nat), a ≤ t ∧ t ≤ c.length ∧ j = .int .i64 t ∧ fr = .bool b ∧ Fr c a k t b) (fun fr j => c.length - (intOf j).toNat)
            case atStart => exact ⟨_, a, Nat.le_refl _, by omega, rfl, rfl, HFr.out⟩
            case round =>
              obtain ⟨b, t, hat, htc, rfl, rfl, hFr⟩ := hrel
              have HF2 := Lib.hid hFr
              clear hFr
              by_cases htl : t < c.length
              · have hcell := (HB.out.cell (p := ⟨b0, off0 + t, none⟩) hb0).trans (HC.out t htl)
                by_cases he : nx c t = k
                · have hq2 := eqq_bool he
                  have HE := Lib.hid he
                  clear he
                  go_wp2
                  go_round
                  case rel => exact ⟨false, t + 1, by omega, by omega, by go_num, rfl, Fr.drop hat HE.out⟩
                  case measure => simp [intOf]; omega
                · have hq2 := neq_bool he
                  have HE := Lib.hid he
                  clear he
                  go_wp2
                  go_round
                  case rel => exact ⟨b, t + 1, by omega, by omega, by go_num, rfl, HF2.out.keep HE.out⟩
                  case measure => simp [intOf]; omega
              · obtain rfl : t = c.length := by omega
                have HD : Hid (b = freeC c (lfs c a) a k) := HF2.out.done
                rcases b with _ | _
                · go_wp2
                  go_roundw
                  case rel => exact ⟨k + 1, by omega, by go_num, rfl, fun j hj => by
                    rcases Nat.lt_or_ge j k with h' | h'
                    · exact HN.out j h'
                    · obtain rfl : j = k := by omega
                      exact HD.out.symm, by first | rfl | trivial⟩
                  case measure => simp [intOf]; omega
                · have HK : Hid (lf c a = k) := minF_is (by omega) HD.out.symm HN.out
                  have hcell := (HB.out.cell (p := ⟨b0, off0 + a, none⟩) hb0).trans (HC.out a hlt)
                  have hold := HO.out.cell (j := k) (by omega)
                  have hfz := HO.out.frozen k
                  have HST := Lib.hid (HO.out.store k (nx c a : Int))
                  have HS := Lib.hid HB.out.size
                  go_wp2
                  go_roundw
                  case rel => exact ⟨a + 1, by omega, by go_num, by rw [gm_succ, HK.out], by
                    have := HST.out.1
                    rw [← HK.out] at this ⊢
                    rwa [treeK_next] at this, HB.out.trans (HST.out.2.below HS.out)⟩
                  case measure => simp [intOf]; omega
          · have hq := ne_bool h1
            have HFr : Hid (Fr c a k a false) := Fr.start ⟨fun h => (by cases h), fun h => absurd ((gm_bit c k a).1 h2) h.2⟩
            clear h1
            go_wp2_with fail
            go_loop [10, 11] (fun fr j => ∃ (b : Bool) (t : Nat), a ≤ t ∧ t ≤ c.length ∧ j = .int .i64 t ∧ fr = .bool b ∧ Fr c a k t b) (fun fr j => c.length - (intOf j).toNat)
            case atStart => exact ⟨_, a, Nat.le_refl _, by omega, rfl, rfl, HFr.out⟩
            case round =>
              obtain ⟨b, t, hat, htc, rfl, rfl, hFr⟩ := hrel
              have HF2 := Lib.hid hFr
              clear hFr
              by_cases htl : t < c.length
              · have hcell := (HB.out.cell (p := ⟨b0, off0 + t, none⟩) hb0).trans (HC.out t htl)
                by_cases he : nx c t = k
                · have hq2 := eqq_bool he
                  have HE := Lib.hid he
                  clear he
                  go_wp2
                  go_round
                  case rel => exact ⟨false, t + 1, by omega, by omega, by go_num, rfl, Fr.drop hat HE.out⟩
                  case measure => simp [intOf]; omega
                · have hq2 := neq_bool he
                  have HE := Lib.hid he
                  clear he
                  go_wp2
                  go_round
                  case rel => exact ⟨b, t + 1, by omega, by omega, by go_num, rfl, HF2.out.keep HE.out⟩
                  case measure => simp [intOf]; omega
              · obtain rfl : t = c.length := by omega
                have HD : Hid (b = freeC c (lfs c a) a k) := HF2.out.done
                rcases b with _ | _
                · go_wp2
                  go_roundw
                  case rel => exact ⟨k + 1, by omega, by go_num, rfl, fun j hj => by
                    rcases Nat.lt_or_ge j k with h' | h'
                    · exact HN.out j h'
                    · obtain rfl : j = k := by omega
                      exact HD.out.symm, by first | rfl | trivial⟩
                  case measure => simp [intOf]; omega
                · have HK : Hid (lf c a = k) := minF_is (by omega) HD.out.symm HN.out
                  have hcell := (HB.out.cell (p := ⟨b0, off0 + a, none⟩) hb0).trans (HC.out a hlt)
                  have hold := HO.out.cell (j := k) (by omega)
                  have hfz := HO.out.frozen k
                  have HST := Lib.hid (HO.out.store k (nx c a : Int))
                  have HS := Lib.hid HB.out.size
                  go_wp2
                  go_roundw
                  case rel => exact ⟨a + 1, by omega, by go_num, by rw [gm_succ, HK.out], by
                    have := HST.out.1
                    rw [← HK.out] at this ⊢
                    rwa [treeK_next] at this, HB.out.trans (HST.out.2.below HS.out)⟩
                  case measure => simp [intOf]; omega
          · have hq := ne_bool h1
            have HFr : Hid (Fr c a k a true) := Fr.start ⟨fun _ => ⟨h1, fun hm => by rw [(gm_bit c k a).2 hm] at h2; cases h2⟩, fun _ => rfl⟩
            clear h1
            go_wp2_with fail
            go_loop [10, 11] (fun fr j => ∃ (b : Bool) (t : Nat), a ≤ t ∧ t ≤ c.length ∧ j = .int .i64 t ∧ fr = .bool b ∧ Fr c a k t b) (fun fr j => c.length - (intOf j).toNat)
            case atStart => exact ⟨_, a, Nat.le_refl _, by omega, rfl, rfl, HFr.out⟩
            case round =>
              obtain ⟨b, t, hat, htc, rfl, rfl, hFr⟩ := hrel
              have HF2 := Lib.hid hFr
              clear hFr
              by_cases htl : t < c.length
              · have hcell := (HB.out.cell (p := ⟨b0, off0 + t, none⟩) hb0).trans (HC.out t htl)
                by_cases he : nx c t = k
                · have hq2 := eqq_bool he
                  have HE := Lib.hid he
                  clear he
                  go_wp2
                  go_round
                  case rel => exact ⟨false, t + 1, by omega, by omega, by go_num, rfl, Fr.drop hat HE.out⟩
                  case measure => simp [intOf]; omega
                · have hq2 := neq_bool he
                  have HE := Lib.hid he
                  clear he
                  go_wp2
                  go_round
                  case rel => exact ⟨b, t + 1, by omega, by omega, by go_num, rfl, HF2.out.keep HE.out⟩
                  case measure => simp [intOf]; omega
              · obtain rfl : t = c.length := by omega
                have HD : Hid (b = freeC c (lfs c a) a k) := HF2.out.done
                rcases b with _ | _
                · go_wp2
                  go_roundw
                  case rel => exact ⟨k + 1, by omega, by go_num, rfl, fun j hj => by
                    rcases Nat.lt_or_ge j k with h' | h'
                    · exact HN.out j h'
                    · obtain rfl : j = k := by omega
                      exact HD.out.symm, by first | rfl | trivial⟩
                  case measure => simp [intOf]; omega
                · have HK : Hid (lf c a = k) := minF_is (by omega) HD.out.symm HN.out
                  have hcell := (HB.out.cell (p := ⟨b0, off0 + a, none⟩) hb0).trans (HC.out a hlt)
                  have hold := HO.out.cell (j := k) (by omega)
                  have hfz := HO.out.frozen k
                  have HST := Lib.hid (HO.out.store k (nx c a : Int))
                  have HS := Lib.hid HB.out.size
                  go_wp2
                  go_roundw
                  case rel => exact ⟨a + 1, by omega, by go_num, by rw [gm_succ, HK.out], by
                    have := HST.out.1
                    rw [← HK.out] at this ⊢
                    rwa [treeK_next] at this, HB.out.trans (HST.out.2.below HS.out)⟩
                  case measure => simp [intOf]; omega
        · exfalso
          obtain ⟨f1, f2, f3⟩ := HF.out
          have := HN.out (lf c a) (by omega)
          rw [f2] at this; cases this
    · obtain rfl : a = c.length := by omega
      have HO := Lib.hid ho
      clear ho
      go_wp2
      go_ret2
      exact ⟨rfl, HO.out, hbw⟩
end Go.Proofs.Ytlbiioncpeondaa
namespace Go.Proofs.Ytlbiioncpeondaa
set_option linter.unusedVariables false
open Go.RowKit
theorem left_bound {c : List Nat} (hc : CodeN c) {a : Nat} (leaf : Nat) {k : Nat} (hk : k ≤ c.length) : -1 ≤ gI ((leftI c a).set leaf (-1)) k ∧ gI ((leftI c a).set leaf (-1)) k ≤ 7 := by
  have h6 := hc.le6
  by_cases e : leaf = k
  · subst e
    have : gI ((leftI c a).set leaf (-1)) leaf = -1 := by
      unfold gI; simp only [List.getD]
      rw [List.getElem?_set_self (by rw [leftI_len]; omega)]; rfl
    omega
  · have : gI ((leftI c a).set leaf (-1)) k = gI (leftI c a) k := by
      unfold gI; simp only [List.getD]
      rw [List.getElem?_set_ne e]
    rw [this, gI_leftI hk]
    have h1 := List.count_le_length (a := k) (l := c.drop a)
    have h2 : (c.drop a).length ≤ c.length := by rw [List.length_drop]; omega
    split <;> omega

set_option maxRecDepth 100000 in
set_option maxHeartbeats 6400000 in
theorem treeFor_pos (A : Option Addr) (kc : Nat) (c : List Nat) (w : World) (h : Rd w w.heap.size A c.length kc (ints c)) (hc : CodeN c) (h0 : 0 < c.length) :
    Calls Try.prog 38 #[.slice A c.length kc] w fun e w' => e = .returned (.tuple #[.slice (some ⟨w.heap.size, 0, none⟩) (c.length + 1) (c.length + 1), .bool true]) ∧ OwnIn w' w.heap.size (w.heap.size + 1) (some ⟨w.heap.size, 0, none⟩) (c.length + 1) (c.length + 1) (ints (treeN c)) ∧ Below w.heap.size w w' := by
  have h6 := hc.le6
  have hok := codedOk_ints hc
  have hrt := rt_le hc
  obtain ⟨i0, hi, hz0, hz1, hz2⟩ := info_parts int_info
  have hlast : Hid (rt c = nx c (c.length - 1)) := by unfold Hid rt; rw [if_neg (by omega)]
  obtain ⟨b0, off0, rfl, hb0, hcells0⟩ := h.2.2.2 h0
  have hcl : w.cell? ⟨b0, off0 + (c.length - 1), none⟩ = some (.int .i64 ((rt c : Nat) : Int)) := by rw [hcells0 _ (by omega), gI_ints, hlast.out]
  have HC : Hid (∀ k, k < c.length → w.cell? ⟨b0, off0 + k, none⟩ = some (.int .i64 ((nx c k : Nat) : Int))) := fun k hk => by rw [hcells0 k hk, gI_ints]
  clear hcells0
  have hne : ((c.length : Int) == 0) = false := by rw [beq_eq_false_iff_ne]; omega
  go_enter Try.func38, Try.ntmps38
  go_wp2_with (first
    | (go_at_call 37; refine (codedOk_c _ _ _ _ _ h).mono ?_; rintro e w' ⟨rfl, rfl⟩)
    | (at_make; refine wpList_make_full _ rfl _ _ 22 rfl w.heap.size 3 i0 (.int .i64 0) 1 Try.underlying22 hi hz0 hz1 _ _ _ _ (c.length + 1) rfl rfl (by omega) (by omega) (by rw [hz2]; omega) (by unfold maxLen; omega) (Nat.le_refl _) ?_))
  intro w1 hown1 hg1
  have hb1 : Below w.heap.size w w1 := (Below.refl _ _).grown hg1 (Nat.le_refl _) (fun k hk => by cases hk)
  have hcl1 := (hb1.cell (p := ⟨b0, off0 + (c.length - 1), none⟩) hb0).trans hcl
  have ho1 := tree_start (w := w1) (B := w.heap.size) (n := c.length + 1) (r := rt c) (by omega) (by simpa [toList_madeCells_one, Value.cells] using hown1)
  have hold := ho1.cell (j := rt c) (by omega)
  have hfz := ho1.frozen (rt c)
  have HST := Lib.hid (ho1.store (rt c) (rt c : Int))
  have HB1 := Lib.hid hb1
  have hsz : w.heap.size < w1.heap.size := (ho1.lt _ rfl).2.2
  clear hown1 hg1 ho1 hb1 hcl
  go_wp2_with fail
  have hs1 := HB1.out.size
  have hB2 : Below w.heap.size w (w1.setCell ⟨w.heap.size, rt c, none⟩ (.int .i64 (rt c : Int))) := HB1.out.setCell (Nat.le_refl _) _
  have ho2 := HST.out.1
  have hs2 : w.heap.size < (w1.setCell ⟨w.heap.size, rt c, none⟩ (.int .i64 (rt c : Int))).heap.size := by rw [World.setCell]; simpa using hsz
  rw [treeK_zero_store] at ho2
  generalize w1.setCell ⟨w.heap.size, rt c, none⟩ (.int .i64 (rt c : Int)) = w2 at hB2 ho2 hs2 ⊢
  clear hold hfz HST HB1 hcl1 hs1 hsz
  refine (centreOf_ok _ _ c _ (h.up hB2) hc).mono ?_
  rintro e w3 ⟨rfl, hl3, hB3⟩
  rw [← leftI_zero] at hl3
  have ho3 := ho2.up hB3
  have hb3 := bt hB2 hB3
  generalize w2.heap.size = G at hl3 hs2 ⊢
  clear ho2 hB2 hB3
  go_wp2_with fail
  go_loopw [7, 36] (fun p t wr => ∃ i a : Nat, i ≤ c.length + 1 ∧ t = .int .i64 i ∧ a ≤ c.length ∧ p = .int .i64 a ∧ (∀ j, j < i → freeC c (lfs c a) a j = false) ∧ OwnIn wr w.heap.size (w.heap.size + 1) (some ⟨w.heap.size, 0, none⟩) (c.length + 1) (c.length + 1) (ints (treeK c a)) ∧ OwnIn wr G (G + 1) (some ⟨G, 0, none⟩) (c.length + 1) (c.length + 1) (leftI c a) ∧ Below w.heap.size w wr) (fun p t _ => c.length + 1 - (intOf t).toNat)
  case atStart => exact ⟨0, 0, Nat.zero_le _, rfl, Nat.zero_le _, rfl, fun j hj => absurd hj (Nat.not_lt_zero _), ho3, hl3, hb3⟩
  case round =>
    obtain ⟨i, a, hil, rfl, hal0, rfl, hno, ho, hl, hbw⟩ := hrel
    by_cases hlt : i < c.length + 1
    · have hdl : decide ((i : Int) < (c.length : Int) + 1) = true := decide_eq_true (by omega)
      have hpt := Lib.hid (Ptr.start hno)
      clear hno ho3 hl3 hb3
      go_wp2_with fail
      refine wp_scope_jumps 0 (fun (a' : Act) (w' : World) => ∃ (a leaf : Nat) (u10 u39 u40 u41 u42 u43 u44 u45 u46 u47 u48 u49 u50 u51 u52 u53 u54 u55 u56 u57 u58 u59 u60 u61 u62 u63 u64 u65 u66 u67 u68 u69 u70 u71 u72 : Value), a' = ⟨#[.slice (some ⟨b0, off0, none⟩) c.length kc, undef, .slice none 0 0, .bool false, .slice (some ⟨w.heap.size, 0, none⟩) (c.length + 1) (c.length + 1), .int .i64 (rt c : Int), .slice (some ⟨G, 0, none⟩) (c.length + 1) (c.length + 1), .int .i64 (a : Int), .int .i64 (i : Int), .int .i64 (leaf : Int), u10, .slice (some ⟨b0, off0, none⟩) c.length kc, .bool true, .bool false, .slice (some ⟨b0, off0, none⟩) c.length kc, .int .i64 (c.length : Int), .int .i64 ((c.length : Int) + 1), .slice (some ⟨w.heap.size, 0, none⟩) (c.length + 1) (c.length + 1), .slice (some ⟨b0, off0, none⟩) c.length kc, .int .i64 (c.length : Int), .bool false, undef, .slice (some ⟨b0, off0, none⟩) c.length kc, .slice (some ⟨b0, off0, none⟩) c.length kc, .int .i64 (c.length : Int), .int .i64 ((c.length : Int) - 1), .pointer (some ⟨b0, off0 + (c.length - 1), none⟩), .int .i64 (rt c : Int), .slice (some ⟨w.heap.size, 0, none⟩) (c.length + 1) (c.length + 1), .int .i64 (rt c : Int), .int .i64 (rt c : Int), .pointer (some ⟨w.heap.size, rt c, none⟩), .slice (some ⟨b0, off0, none⟩) c.length kc, .slice (some ⟨G, 0, none⟩) (c.length + 1) (c.length + 1), .slice (some ⟨w.heap.size, 0, none⟩) (c.length + 1) (c.length + 1), .int .i64 ((c.length : Int) + 1), .int .i64 (i : Int), .bool true, .int .i64 (i : Int), u39, u40, u41, u42, u43, u44, u45, u46, u47, u48, u49, u50, u51, u52, u53, u54, u55, u56, u57, u58, u59, u60, u61, u62, u63, u64, u65, u66, u67, u68, u69, u70, u71, u72, u73, undef], []⟩ ∧ a ≤ c.length ∧ Ptr c a i leaf ∧ OwnIn w' w.heap.size (w.heap.size + 1) (some ⟨w.heap.size, 0, none⟩) (c.length + 1) (c.length + 1) (ints (treeK c a)) ∧ OwnIn w' G (G + 1) (some ⟨G, 0, none⟩) (c.length + 1) (c.length + 1) (leftI c a) ∧ Below w.heap.size w w' ) (fun a' _ => c.length - (intOf (a'.tmps.getD 7 undef)).toNat) rfl ?_ ?_
      · go_wp2_with fail
        go_step3
        have hp := hpt.out
        have ha := hal0
        clear hpt
        have hle := hp.le
        have hgl : i ≤ c.length := by omega
        have HP := Lib.hid hp
        have HO := Lib.hid ho
        have HL := Lib.hid hl
        have HB := Lib.hid hbw
        have hcL := hl.cell (j := i) (by omega)
        have hfL := hl.frozen i
        clear hp ho hl hbw
        by_cases h1 : i = rt c
        · have hq := eqq_bool h1
          have HN : Hid (freeC c (lfs c a) a i = false) := by
            rcases e : freeC c (lfs c a) a i with _ | _
            · exact rfl
            · exact absurd h1 (freeC_iff.1 e).1
          clear h1
          go_wp2
          try simp only [Exit.jump]
          go_wp2
          go_roundw
          case rel => exact ⟨i + 1, a, by omega, by go_num, by omega, rfl, HP.out.stop HN.out, HO.out, HL.out, HB.out⟩
          case measure => simp [intOf]; omega
        · have hq := neq_bool h1
          by_cases h2 : gI (leftI c a) i = 0
          · have HF : Hid (freeC c (lfs c a) a i = true) := (leftI_free hgl).2 ⟨h1, h2⟩
            have hq2 : (gI (leftI c a) i != 0) = false := by simp [h2]
            have hal := free_lt hc ha hgl HF.out
            have hnl := nx_le hc hal
            have hb0G : b0 < G := by omega
            have hx : -1 ≤ gI ((leftI c a).set i (-1)) (nx c a) ∧ gI ((leftI c a).set i (-1)) (nx c a) ≤ 7 := left_bound hc i hnl
            obtain ⟨hx1, hx2⟩ := hx
            have S1 := HL.out.store i (-1)
            have hG1 : G < wr.heap.size := (HL.out.lt _ rfl).2.2
            have T0 := HO.out.chg S1.2 (.inl (by omega))
            have hc1 : (wr.setCell ⟨G, i, none⟩ (.int .i64 (-1))).cell? ⟨b0, off0 + a, none⟩ = some (.int .i64 (nx c a : Int)) := ((S1.2.below (by omega)).cell (p := ⟨b0, off0 + a, none⟩) hb0G).trans ((HB.out.cell (p := ⟨b0, off0 + a, none⟩) hb0).trans (HC.out a hal))
            have hc2 := T0.cell (j := i) (by omega)
            have hf2 := T0.frozen i
            have S2 := T0.store i (nx c a : Int)
            have L2 := S1.1.chg S2.2 (.inr (by omega))
            have hc3 := L2.cell (j := nx c a) (by omega)
            have hf3 := L2.frozen (nx c a)
            have S3 := L2.store (nx c a) (gI ((leftI c a).set i (-1)) (nx c a) - 1)
            have T3 := S2.1.chg S3.2 (.inl (by omega))
            have hs1 : (wr.setCell ⟨G, i, none⟩ (.int .i64 (-1))).heap.size = wr.heap.size := by simp [World.setCell]
            have HBw : Hid (Below w.heap.size w _) := HB.out.trans (((S1.2.below' (by omega) (by omega)).trans (S2.2.below' (B := w.heap.size) (by omega) (by omega))).trans (S3.2.below' (by omega) (by have := S2.2.size; omega)))
            rw [leftI_next hc HP.out (by omega) hal HF.out] at S3
            have HS3 := Lib.hid S3.1
            rw [show (ints (treeK c a)).set i (nx c a : Int) = ints (treeK c (a + 1)) by rw [← HP.out.leaf_is (by omega) HF.out, treeK_next]] at T3
            have HT3 := Lib.hid T3
            clear S1 S2 S3 L2 T0 T3 hs1 h2 h1
            by_cases h3 : nx c a < i
            · go_wp2
              go_step3
              refine ⟨rfl, ⟨a + 1, nx c a, _, _, _, _, _, _, _, _, _, _, _, _, _, _, _, _, _, _, _, _, _, _, _, _, _, _, _, _, _, _, _, _, _, _, _, rfl, by omega, HP.out.again hc (by omega) hal HF.out h3, HT3.out, HS3.out, HBw.out⟩⟩
            · go_wp2
              try simp only [Exit.jump]
              go_wp2
              go_roundw
              case rel => exact ⟨i + 1, a + 1, by omega, by go_num, by omega, by go_num, HP.out.onward hc (by omega) hal HF.out (by omega), HT3.out, HS3.out, HBw.out⟩
              case measure => simp [intOf]; omega
          · have HN : Hid (freeC c (lfs c a) a i = false) := by
              rcases e : freeC c (lfs c a) a i with _ | _
              · exact rfl
              · exact absurd ((leftI_free hgl).1 e).2 h2
            have hq2 : (gI (leftI c a) i != 0) = true := by simp [h2]
            clear h1 h2
            go_wp2
            try simp only [Exit.jump]
            go_wp2
            go_roundw
            case rel => exact ⟨i + 1, a, by omega, by go_num, by omega, rfl, HP.out.stop HN.out, HO.out, HL.out, HB.out⟩
            case measure => simp [intOf]; omega

      · rintro a' w' ⟨a, leaf, u10, u39, u40, u41, u42, u43, u44, u45, u46, u47, u48, u49, u50, u51, u52, u53, u54, u55, u56, u57, u58, u59, u60, u61, u62, u63, u64, u65, u66, u67, u68, u69, u70, u71, u72, rfl, ha, hp, ho, hl, hbw⟩
        obtain ⟨wr, rfl⟩ : ∃ wr : World, wr = w' := ⟨_, rfl⟩
        clear hpt
        have hle := hp.le
        have hgl : leaf ≤ c.length := by omega
        have HP := Lib.hid hp
        have HO := Lib.hid ho
        have HL := Lib.hid hl
        have HB := Lib.hid hbw
        have hcL := hl.cell (j := leaf) (by omega)
        have hfL := hl.frozen leaf
        clear hp ho hl hbw
        by_cases h1 : leaf = rt c
        · have hq := eqq_bool h1
          have HN : Hid (freeC c (lfs c a) a leaf = false) := by
            rcases e : freeC c (lfs c a) a leaf with _ | _
            · exact rfl
            · exact absurd h1 (freeC_iff.1 e).1
          clear h1
          go_wp2
          try simp only [Exit.jump]
          go_wp2
          go_roundw
          case rel => exact ⟨i + 1, a, by omega, by go_num, by omega, rfl, HP.out.stop HN.out, HO.out, HL.out, HB.out⟩
          case measure => simp [intOf]; omega
        · have hq := neq_bool h1
          by_cases h2 : gI (leftI c a) leaf = 0
          · have HF : Hid (freeC c (lfs c a) a leaf = true) := (leftI_free hgl).2 ⟨h1, h2⟩
            have hq2 : (gI (leftI c a) leaf != 0) = false := by simp [h2]
            have hal := free_lt hc ha hgl HF.out
            have hnl := nx_le hc hal
            have hb0G : b0 < G := by omega
            have hx : -1 ≤ gI ((leftI c a).set leaf (-1)) (nx c a) ∧ gI ((leftI c a).set leaf (-1)) (nx c a) ≤ 7 := left_bound hc leaf hnl
            obtain ⟨hx1, hx2⟩ := hx
            have S1 := HL.out.store leaf (-1)
            have hG1 : G < wr.heap.size := (HL.out.lt _ rfl).2.2
            have T0 := HO.out.chg S1.2 (.inl (by omega))
            have hc1 : (wr.setCell ⟨G, leaf, none⟩ (.int .i64 (-1))).cell? ⟨b0, off0 + a, none⟩ = some (.int .i64 (nx c a : Int)) := ((S1.2.below (by omega)).cell (p := ⟨b0, off0 + a, none⟩) hb0G).trans ((HB.out.cell (p := ⟨b0, off0 + a, none⟩) hb0).trans (HC.out a hal))
            have hc2 := T0.cell (j := leaf) (by omega)
            have hf2 := T0.frozen leaf
            have S2 := T0.store leaf (nx c a : Int)
            have L2 := S1.1.chg S2.2 (.inr (by omega))
            have hc3 := L2.cell (j := nx c a) (by omega)
            have hf3 := L2.frozen (nx c a)
            have S3 := L2.store (nx c a) (gI ((leftI c a).set leaf (-1)) (nx c a) - 1)
            have T3 := S2.1.chg S3.2 (.inl (by omega))
            have hs1 : (wr.setCell ⟨G, leaf, none⟩ (.int .i64 (-1))).heap.size = wr.heap.size := by simp [World.setCell]
            have HBw : Hid (Below w.heap.size w _) := HB.out.trans (((S1.2.below' (by omega) (by omega)).trans (S2.2.below' (B := w.heap.size) (by omega) (by omega))).trans (S3.2.below' (by omega) (by have := S2.2.size; omega)))
            rw [leftI_next hc HP.out (by omega) hal HF.out] at S3
            have HS3 := Lib.hid S3.1
            rw [show (ints (treeK c a)).set leaf (nx c a : Int) = ints (treeK c (a + 1)) by rw [← HP.out.leaf_is (by omega) HF.out, treeK_next]] at T3
            have HT3 := Lib.hid T3
            clear S1 S2 S3 L2 T0 T3 hs1 h2 h1
            by_cases h3 : nx c a < i
            · go_wp2
              go_step3
              refine ⟨rfl, ⟨a + 1, nx c a, _, _, _, _, _, _, _, _, _, _, _, _, _, _, _, _, _, _, _, _, _, _, _, _, _, _, _, _, _, _, _, _, _, _, _, rfl, by omega, HP.out.again hc (by omega) hal HF.out h3, HT3.out, HS3.out, HBw.out⟩, ?_⟩
              simp [intOf]; omega
            · go_wp2
              try simp only [Exit.jump]
              go_wp2
              go_roundw
              case rel => exact ⟨i + 1, a + 1, by omega, by go_num, by omega, by go_num, HP.out.onward hc (by omega) hal HF.out (by omega), HT3.out, HS3.out, HBw.out⟩
              case measure => simp [intOf]; omega
          · have HN : Hid (freeC c (lfs c a) a leaf = false) := by
              rcases e : freeC c (lfs c a) a leaf with _ | _
              · exact rfl
              · exact absurd ((leftI_free hgl).1 e).2 h2
            have hq2 : (gI (leftI c a) leaf != 0) = true := by simp [h2]
            clear h1 h2
            go_wp2
            try simp only [Exit.jump]
            go_wp2
            go_roundw
            case rel => exact ⟨i + 1, a, by omega, by go_num, by omega, rfl, HP.out.stop HN.out, HO.out, HL.out, HB.out⟩
            case measure => simp [intOf]; omega

    · obtain rfl : i = c.length + 1 := by omega
      have hdl : decide (((c.length + 1 : Nat) : Int) < (c.length : Int) + 1) = false := decide_eq_false (by omega)
      obtain rfl := Ptr.end_ hc hal0 hno
      have HO := Lib.hid ho
      clear ho hno
      go_wp2
      go_ret2
      exact ⟨rfl, HO.out, hbw⟩
end Go.Proofs.Ytlbiioncpeondaa
namespace Go.Proofs.Ytlbiioncpeondaa
set_option linter.unusedVariables false
open Go.RowKit

def treeI (xs : List Int) : List Int := if codedOk xs then ints (treeN (toN xs)) else []
theorem treeI_ok {c : List Nat} (hc : CodeN c) : treeI (ints c) = ints (treeN c) := by unfold treeI; rw [if_pos (codedOk_ints hc), toN_ints]
theorem treeI_no {xs : List Int} (h : codedOk xs = false) : treeI xs = [] := by unfold treeI; rw [h]; simp
/-- What a function of one row and one truth comes to: the row is new memory. -/
def RowBool (w : World) (xs : List Int) (b : Bool) (e : Ending) (w' : World) : Prop :=
  ∃ (A : Option Addr) (n c : Nat), e = .returned (.tuple #[.slice A n c, .bool b]) ∧ OwnIn w' w.heap.size w'.heap.size A n c xs ∧ Below w.heap.size w w'
theorem OwnIn.nil_ (w : World) (lo hi : Nat) : OwnIn w lo hi none 0 0 [] := ⟨⟨rfl, World.ownsRow_nil _ _ _ _⟩, fun k hk => by cases hk⟩
theorem OwnIn.empty_ (w : World) : OwnIn (w.alloc (Obj.cells #[] 3)) w.heap.size (w.alloc (Obj.cells #[] 3)).heap.size (some ⟨w.heap.size, 0, none⟩) 0 0 [] :=
  ⟨⟨rfl, World.ownsRow_made w #[] 0 (Nat.le_refl _) (Nat.zero_le _) rfl⟩, fun k hk => by cases hk; simp⟩
theorem nil_code {c : List Nat} (h : ¬ 0 < c.length) : c = [] := List.eq_nil_of_length_eq_zero (by omega)

set_option maxRecDepth 100000 in
set_option maxHeartbeats 1600000 in
theorem treeFor_c (A : Option Addr) (n c : Nat) (xs : List Int) (w : World) (h : Rd w w.heap.size A n c xs) :
    Calls Try.prog 38 #[.slice A n c] w (RowBool w (treeI xs) (codedOk xs)) := by
  rcases hs : codedOk xs with _ | _
  · have HS := Lib.hid (treeI_no hs)
    go_enter Try.func38, Try.ntmps38
    go_wp2_with (go_at_call 37; refine (codedOk_c _ _ _ _ _ h).mono ?_; rintro e w' ⟨rfl, rfl⟩)
    go_ret2
    rw [HS.out]
    exact ⟨_, _, _, rfl, OwnIn.nil_ _ _ _, Below.refl _ _⟩
  · obtain ⟨f, rfl, hf⟩ := codedOk_ex hs
    obtain rfl : f.length = n := by rw [← h.len, ints_len]
    rw [treeI_ok hf]
    by_cases h0 : 0 < f.length
    · exact (treeFor_pos A c f w h hf h0).mono fun e w' ⟨he, ho, hb⟩ => ⟨_, _, _, he, ho.wide (Nat.le_refl _) (by have := (ho.lt w.heap.size rfl).2.2; omega), hb⟩
    · obtain rfl := nil_code h0
      obtain ⟨i0, hi, hz0, hz1, hz2⟩ := info_parts int_info
      go_enter Try.func38, Try.ntmps38
      go_wp2_with (first
        | (go_at_call 37; refine (codedOk_c _ _ _ _ _ h).mono ?_; rintro e w' ⟨rfl, rfl⟩)
        | (at_make; refine wpList_make_full _ rfl _ _ 22 rfl w.heap.size 3 i0 (.int .i64 0) 1 Try.underlying22 hi hz0 hz1 _ _ _ _ 1 rfl rfl rfl rfl (by rw [hz2]; omega) (by unfold maxLen; omega) (Nat.le_refl _) ?_))
      intro w1 hown1 hg1
      have hb1 : Below w.heap.size w w1 := (Below.refl _ _).grown hg1 (Nat.le_refl _) (fun k hk => by cases hk)
      have ho1 := Lib.hid (tree_start (w := w1) (B := w.heap.size) (n := 1) (r := 0) (by omega) (by simpa [toList_madeCells_one, Value.cells] using hown1))
      clear hown1 hg1
      go_wp2
      go_ret2
      exact ⟨_, _, _, rfl, ho1.out.wide (Nat.le_refl _) (by have := (ho1.out.lt w.heap.size rfl).2.2; omega), hb1⟩

set_option maxRecDepth 100000 in
set_option maxHeartbeats 1600000 in
theorem sTreeFor_c (A : Option Addr) (n c : Nat) (xs : List Int) (w : World) (h : Rd w w.heap.size A n c xs) :
    Calls Try.prog 48 #[.slice A n c] w (RowBool w (treeI xs) (codedOk xs)) := by
  rcases hs : codedOk xs with _ | _
  · have HS := Lib.hid (treeI_no hs)
    go_enter Try.func48, Try.ntmps48
    go_wp2_with (go_at_call 70; refine (sCodedOk_c _ _ _ _ _ h).mono ?_; rintro e w' ⟨rfl, rfl⟩)
    go_ret2
    rw [HS.out]
    exact ⟨_, _, _, rfl, OwnIn.empty_ _, (Below.refl _ _).alloc (Nat.le_refl _) _⟩
  · obtain ⟨f, rfl, hf⟩ := codedOk_ex hs
    obtain rfl : f.length = n := by rw [← h.len, ints_len]
    rw [treeI_ok hf]
    by_cases h0 : 0 < f.length
    · exact (sTreeFor_pos A c f w h hf h0).mono fun e w' ⟨he, ho, hb⟩ => ⟨_, _, _, he, ho.wide (Nat.le_refl _) (by have := (ho.lt w.heap.size rfl).2.2; omega), hb⟩
    · obtain rfl := nil_code h0
      obtain ⟨i0, hi, hz0, hz1, hz2⟩ := info_parts int_info
      go_enter Try.func48, Try.ntmps48
      go_wp2_with (first
        | (go_at_call 70; refine (sCodedOk_c _ _ _ _ _ h).mono ?_; rintro e w' ⟨rfl, rfl⟩)
        | (at_make; refine wpList_make_full _ rfl _ _ 22 rfl w.heap.size 3 i0 (.int .i64 0) 1 Try.underlying22 hi hz0 hz1 _ _ _ _ 1 rfl rfl rfl rfl (by rw [hz2]; omega) (by unfold maxLen; omega) (Nat.le_refl _) ?_))
      intro w1 hown1 hg1
      have hb1 : Below w.heap.size w w1 := (Below.refl _ _).grown hg1 (Nat.le_refl _) (fun k hk => by cases hk)
      have ho1 := tree_start (w := w1) (B := w.heap.size) (n := 1) (r := 0) (by omega) (by simpa [toList_madeCells_one, Value.cells] using hown1)
      have hold := ho1.cell (j := 0) (by omega)
      have hfz := ho1.frozen 0
      have HST := Lib.hid (ho1.store 0 0)
      have HB := Lib.hid hb1
      clear hown1 hg1 ho1 hb1
      go_wp2
      refine wp_loop_rounds 1 ?_
      rw [rounds_succ]
      go_wp2
      go_ret2
      exact ⟨_, _, _, rfl, HST.out.1.wide (Nat.le_refl _) (by have := (HST.out.1.lt w.heap.size rfl).2.2; omega), HB.out.setCell (Nat.le_refl _) _⟩
end Go.Proofs.Ytlbiioncpeondaa
namespace Go.Proofs.Ytlbiioncpeondaa
set_option linter.unusedVariables false
open Go.RowKit
theorem treeFor_small (xs : List Int) : (treeI xs).length ≤ 1000000 := by
  rcases h : codedOk xs with _ | _
  · rw [treeI_no h]; simp
  · obtain ⟨c, rfl, hc⟩ := codedOk_ex h
    rw [treeI_ok hc, ints_len, treeN_len]; have := hc.le6; omega

end Go.Proofs.Ytlbiioncpeondaa
