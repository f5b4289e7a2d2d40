/- Walks: TreeFor (impl and spec). Printed by gen_w12.py. -/
import Derived.Test.YtlbiioncpeondaaW10
import Derived.ScopeJumps
namespace Go.Proofs.Ytlbiioncpeondaa
set_option linter.unusedVariables false
open Go.RowKit
theorem left_bound {c : List Nat} (hc : CodeN c) {a : Nat} (leaf : Nat) {k : Nat} (hk : k ≤ c.length) : -1 ≤ gI ((leftI c a).set leaf (-1)) k ∧ gI ((leftI c a).set leaf (-1)) k ≤ 7 := by
  have h6 := hc.le6
  by_cases e : leaf = k
  · subst e
    have : gI ((leftI c a).set leaf (-1)) leaf = -1 := by
      unfold gI; simp only [List.getD]
      rw [List.getElem?_set_self (by rw [leftI_len]; omega)]; rfl
    omega
  · have : gI ((leftI c a).set leaf (-1)) k = gI (leftI c a) k := by
      unfold gI; simp only [List.getD]
      rw [List.getElem?_set_ne e]
    rw [this, gI_leftI hk]
    have h1 := List.count_le_length (a := k) (l := c.drop a)
    have h2 : (c.drop a).length ≤ c.length := by rw [List.length_drop]; omega
    split <;> omega

set_option maxRecDepth 100000 in
set_option maxHeartbeats 6400000 in
theorem treeFor_pos (A : Option Addr) (kc : Nat) (c : List Nat) (w : World) (h : Rd w w.heap.size A c.length kc (ints c)) (hc : CodeN c) (h0 : 0 < c.length) :
    Calls Try.prog 38 #[.slice A c.length kc] w fun e w' => e = .returned (.tuple #[.slice (some ⟨w.heap.size, 0, none⟩) (c.length + 1) (c.length + 1), .bool true]) ∧ OwnIn w' w.heap.size (w.heap.size + 1) (some ⟨w.heap.size, 0, none⟩) (c.length + 1) (c.length + 1) (ints (treeN c)) ∧ Below w.heap.size w w' := by
  have h6 := hc.le6
  have hok := codedOk_ints hc
  have hrt := rt_le hc
  obtain ⟨i0, hi, hz0, hz1, hz2⟩ := info_parts int_info
  have hlast : Hid (rt c = nx c (c.length - 1)) := by unfold Hid rt; rw [if_neg (by omega)]
  obtain ⟨b0, off0, rfl, hb0, hcells0⟩ := h.2.2.2 h0
  have hcl : w.cell? ⟨b0, off0 + (c.length - 1), none⟩ = some (.int .i64 ((rt c : Nat) : Int)) := by rw [hcells0 _ (by omega), gI_ints, hlast.out]
  have HC : Hid (∀ k, k < c.length → w.cell? ⟨b0, off0 + k, none⟩ = some (.int .i64 ((nx c k : Nat) : Int))) := fun k hk => by rw [hcells0 k hk, gI_ints]
  clear hcells0
  have hne : ((c.length : Int) == 0) = false := by rw [beq_eq_false_iff_ne]; omega
  go_enter Try.func38, Try.ntmps38
  go_wp2_with (first
    | (go_at_call 37; refine (codedOk_c _ _ _ _ _ h).mono ?_; rintro e w' ⟨rfl, rfl⟩)
    | (at_make; refine wpList_make_full _ rfl _ _ 22 rfl w.heap.size 3 i0 (.int .i64 0) 1 Try.underlying22 hi hz0 hz1 _ _ _ _ (c.length + 1) rfl rfl (by omega) (by omega) (by rw [hz2]; omega) (by unfold maxLen; omega) (Nat.le_refl _) ?_))
  intro w1 hown1 hg1
  have hb1 : Below w.heap.size w w1 := (Below.refl _ _).grown hg1 (Nat.le_refl _) (fun k hk => by cases hk)
  have hcl1 := (hb1.cell (p := ⟨b0, off0 + (c.length - 1), none⟩) hb0).trans hcl
  have ho1 := tree_start (w := w1) (B := w.heap.size) (n := c.length + 1) (r := rt c) (by omega) (by simpa [toList_madeCells_one, Value.cells] using hown1)
  have hold := ho1.cell (j := rt c) (by omega)
  have hfz := ho1.frozen (rt c)
  have HST := Lib.hid (ho1.store (rt c) (rt c : Int))
  have HB1 := Lib.hid hb1
  have hsz : w.heap.size < w1.heap.size := (ho1.lt _ rfl).2.2
  clear hown1 hg1 ho1 hb1 hcl
  go_wp2_with fail
  have hs1 := HB1.out.size
  have hB2 : Below w.heap.size w (w1.setCell ⟨w.heap.size, rt c, none⟩ (.int .i64 (rt c : Int))) := HB1.out.setCell (Nat.le_refl _) _
  have ho2 := HST.out.1
  have hs2 : w.heap.size < (w1.setCell ⟨w.heap.size, rt c, none⟩ (.int .i64 (rt c : Int))).heap.size := by rw [World.setCell]; simpa using hsz
  rw [treeK_zero_store] at ho2
  generalize w1.setCell ⟨w.heap.size, rt c, none⟩ (.int .i64 (rt c : Int)) = w2 at hB2 ho2 hs2 ⊢
  clear hold hfz HST HB1 hcl1 hs1 hsz
  refine (centreOf_ok _ _ c _ (h.up hB2) hc).mono ?_
  rintro e w3 ⟨rfl, hl3, hB3⟩
  rw [← leftI_zero] at hl3
  have ho3 := ho2.up hB3
  have hb3 := bt hB2 hB3
  generalize w2.heap.size = G at hl3 hs2 ⊢
  clear ho2 hB2 hB3
  go_wp2_with fail
  go_loopw [7, 36] (fun p t wr => ∃ i a : Nat, i ≤ c.length + 1 ∧ t = .int .i64 i ∧ a ≤ c.length ∧ p = .int .i64 a ∧ (∀ j, j < i → freeC c (lfs c a) a j = false) ∧ OwnIn wr w.heap.size (w.heap.size + 1) (some ⟨w.heap.size, 0, none⟩) (c.length + 1) (c.length + 1) (ints (treeK c a)) ∧ OwnIn wr G (G + 1) (some ⟨G, 0, none⟩) (c.length + 1) (c.length + 1) (leftI c a) ∧ Below w.heap.size w wr) (fun p t _ => c.length + 1 - (intOf t).toNat)
  case atStart => exact ⟨0, 0, Nat.zero_le _, rfl, Nat.zero_le _, rfl, fun j hj => absurd hj (Nat.not_lt_zero _), ho3, hl3, hb3⟩
  case round =>
    obtain ⟨i, a, hil, rfl, hal0, rfl, hno, ho, hl, hbw⟩ := hrel
    by_cases hlt : i < c.length + 1
    · have hdl : decide ((i : Int) < (c.length : Int) + 1) = true := decide_eq_true (by omega)
      have hpt := Lib.hid (Ptr.start hno)
      clear hno ho3 hl3 hb3
      go_wp2_with fail
      refine wp_scope_jumps 0 (fun (a' : Act) (w' : World) => ∃ (a leaf : Nat) (u10 u39 u40 u41 u42 u43 u44 u45 u46 u47 u48 u49 u50 u51 u52 u53 u54 u55 u56 u57 u58 u59 u60 u61 u62 u63 u64 u65 u66 u67 u68 u69 u70 u71 u72 : Value), a' = ⟨#[.slice (some ⟨b0, off0, none⟩) c.length kc, undef, .slice none 0 0, .bool false, .slice (some ⟨w.heap.size, 0, none⟩) (c.length + 1) (c.length + 1), .int .i64 (rt c : Int), .slice (some ⟨G, 0, none⟩) (c.length + 1) (c.length + 1), .int .i64 (a : Int), .int .i64 (i : Int), .int .i64 (leaf : Int), u10, .slice (some ⟨b0, off0, none⟩) c.length kc, .bool true, .bool false, .slice (some ⟨b0, off0, none⟩) c.length kc, .int .i64 (c.length : Int), .int .i64 ((c.length : Int) + 1), .slice (some ⟨w.heap.size, 0, none⟩) (c.length + 1) (c.length + 1), .slice (some ⟨b0, off0, none⟩) c.length kc, .int .i64 (c.length : Int), .bool false, undef, .slice (some ⟨b0, off0, none⟩) c.length kc, .slice (some ⟨b0, off0, none⟩) c.length kc, .int .i64 (c.length : Int), .int .i64 ((c.length : Int) - 1), .pointer (some ⟨b0, off0 + (c.length - 1), none⟩), .int .i64 (rt c : Int), .slice (some ⟨w.heap.size, 0, none⟩) (c.length + 1) (c.length + 1), .int .i64 (rt c : Int), .int .i64 (rt c : Int), .pointer (some ⟨w.heap.size, rt c, none⟩), .slice (some ⟨b0, off0, none⟩) c.length kc, .slice (some ⟨G, 0, none⟩) (c.length + 1) (c.length + 1), .slice (some ⟨w.heap.size, 0, none⟩) (c.length + 1) (c.length + 1), .int .i64 ((c.length : Int) + 1), .int .i64 (i : Int), .bool true, .int .i64 (i : Int), u39, u40, u41, u42, u43, u44, u45, u46, u47, u48, u49, u50, u51, u52, u53, u54, u55, u56, u57, u58, u59, u60, u61, u62, u63, u64, u65, u66, u67, u68, u69, u70, u71, u72, u73, undef], []⟩ ∧ a ≤ c.length ∧ Ptr c a i leaf ∧ OwnIn w' w.heap.size (w.heap.size + 1) (some ⟨w.heap.size, 0, none⟩) (c.length + 1) (c.length + 1) (ints (treeK c a)) ∧ OwnIn w' G (G + 1) (some ⟨G, 0, none⟩) (c.length + 1) (c.length + 1) (leftI c a) ∧ Below w.heap.size w w' ) (fun a' _ => c.length - (intOf (a'.tmps.getD 7 undef)).toNat) rfl ?_ ?_
      · go_wp2_with fail
        go_step3
        have hp := hpt.out
        have ha := hal0
        clear hpt
        have hle := hp.le
        have hgl : i ≤ c.length := by omega
        have HP := Lib.hid hp
        have HO := Lib.hid ho
        have HL := Lib.hid hl
        have HB := Lib.hid hbw
        have hcL := hl.cell (j := i) (by omega)
        have hfL := hl.frozen i
        clear hp ho hl hbw
        by_cases h1 : i = rt c
        · have hq := eqq_bool h1
          have HN : Hid (freeC c (lfs c a) a i = false) := by
            rcases e : freeC c (lfs c a) a i with _ | _
            · exact rfl
            · exact absurd h1 (freeC_iff.1 e).1
          clear h1
          go_wp2
          try simp only [Exit.jump]
          go_wp2
          go_roundw
          case rel => exact ⟨i + 1, a, by omega, by go_num, by omega, rfl, HP.out.stop HN.out, HO.out, HL.out, HB.out⟩
          case measure => simp [intOf]; omega
        · have hq := neq_bool h1
          by_cases h2 : gI (leftI c a) i = 0
          · have HF : Hid (freeC c (lfs c a) a i = true) := (leftI_free hgl).2 ⟨h1, h2⟩
            have hq2 : (gI (leftI c a) i != 0) = false := by simp [h2]
            have hal := free_lt hc ha hgl HF.out
            have hnl := nx_le hc hal
            have hb0G : b0 < G := by omega
            have hx : -1 ≤ gI ((leftI c a).set i (-1)) (nx c a) ∧ gI ((leftI c a).set i (-1)) (nx c a) ≤ 7 := left_bound hc i hnl
            obtain ⟨hx1, hx2⟩ := hx
            have S1 := HL.out.store i (-1)
            have hG1 : G < wr.heap.size := (HL.out.lt _ rfl).2.2
            have T0 := HO.out.chg S1.2 (.inl (by omega))
            have hc1 : (wr.setCell ⟨G, i, none⟩ (.int .i64 (-1))).cell? ⟨b0, off0 + a, none⟩ = some (.int .i64 (nx c a : Int)) := ((S1.2.below (by omega)).cell (p := ⟨b0, off0 + a, none⟩) hb0G).trans ((HB.out.cell (p := ⟨b0, off0 + a, none⟩) hb0).trans (HC.out a hal))
            have hc2 := T0.cell (j := i) (by omega)
            have hf2 := T0.frozen i
            have S2 := T0.store i (nx c a : Int)
            have L2 := S1.1.chg S2.2 (.inr (by omega))
            have hc3 := L2.cell (j := nx c a) (by omega)
            have hf3 := L2.frozen (nx c a)
            have S3 := L2.store (nx c a) (gI ((leftI c a).set i (-1)) (nx c a) - 1)
            have T3 := S2.1.chg S3.2 (.inl (by omega))
            have hs1 : (wr.setCell ⟨G, i, none⟩ (.int .i64 (-1))).heap.size = wr.heap.size := by simp [World.setCell]
            have HBw : Hid (Below w.heap.size w _) := HB.out.trans (((S1.2.below' (by omega) (by omega)).trans (S2.2.below' (B := w.heap.size) (by omega) (by omega))).trans (S3.2.below' (by omega) (by have := S2.2.size; omega)))
            rw [leftI_next hc HP.out (by omega) hal HF.out] at S3
            have HS3 := Lib.hid S3.1
            rw [show (ints (treeK c a)).set i (nx c a : Int) = ints (treeK c (a + 1)) by rw [← HP.out.leaf_is (by omega) HF.out, treeK_next]] at T3
            have HT3 := Lib.hid T3
            clear S1 S2 S3 L2 T0 T3 hs1 h2 h1
            by_cases h3 : nx c a < i
            · go_wp2
              go_step3
              refine ⟨rfl, ⟨a + 1, nx c a, _, _, _, _, _, _, _, _, _, _, _, _, _, _, _, _, _, _, _, _, _, _, _, _, _, _, _, _, _, _, _, _, _, _, _, rfl, by omega, HP.out.again hc (by omega) hal HF.out h3, HT3.out, HS3.out, HBw.out⟩⟩
            · go_wp2
              try simp only [Exit.jump]
              go_wp2
              go_roundw
              case rel => exact ⟨i + 1, a + 1, by omega, by go_num, by omega, by go_num, HP.out.onward hc (by omega) hal HF.out (by omega), HT3.out, HS3.out, HBw.out⟩
              case measure => simp [intOf]; omega
          · have HN : Hid (freeC c (lfs c a) a i = false) := by
              rcases e : freeC c (lfs c a) a i with _ | _
              · exact rfl
              · exact absurd ((leftI_free hgl).1 e).2 h2
            have hq2 : (gI (leftI c a) i != 0) = true := by simp [h2]
            clear h1 h2
            go_wp2
            try simp only [Exit.jump]
            go_wp2
            go_roundw
            case rel => exact ⟨i + 1, a, by omega, by go_num, by omega, rfl, HP.out.stop HN.out, HO.out, HL.out, HB.out⟩
            case measure => simp [intOf]; omega

      · rintro a' w' ⟨a, leaf, u10, u39, u40, u41, u42, u43, u44, u45, u46, u47, u48, u49, u50, u51, u52, u53, u54, u55, u56, u57, u58, u59, u60, u61, u62, u63, u64, u65, u66, u67, u68, u69, u70, u71, u72, rfl, ha, hp, ho, hl, hbw⟩
        obtain ⟨wr, rfl⟩ : ∃ wr : World, wr = w' := ⟨_, rfl⟩
        clear hpt
        have hle := hp.le
        have hgl : leaf ≤ c.length := by omega
        have HP := Lib.hid hp
        have HO := Lib.hid ho
        have HL := Lib.hid hl
        have HB := Lib.hid hbw
        have hcL := hl.cell (j := leaf) (by omega)
        have hfL := hl.frozen leaf
        clear hp ho hl hbw
        by_cases h1 : leaf = rt c
        · have hq := eqq_bool h1
          have HN : Hid (freeC c (lfs c a) a leaf = false) := by
            rcases e : freeC c (lfs c a) a leaf with _ | _
            · exact rfl
            · exact absurd h1 (freeC_iff.1 e).1
          clear h1
          go_wp2
          try simp only [Exit.jump]
          go_wp2
          go_roundw
          case rel => exact ⟨i + 1, a, by omega, by go_num, by omega, rfl, HP.out.stop HN.out, HO.out, HL.out, HB.out⟩
          case measure => simp [intOf]; omega
        · have hq := neq_bool h1
          by_cases h2 : gI (leftI c a) leaf = 0
          · have HF : Hid (freeC c (lfs c a) a leaf = true) := (leftI_free hgl).2 ⟨h1, h2⟩
            have hq2 : (gI (leftI c a) leaf != 0) = false := by simp [h2]
            have hal := free_lt hc ha hgl HF.out
            have hnl := nx_le hc hal
            have hb0G : b0 < G := by omega
            have hx : -1 ≤ gI ((leftI c a).set leaf (-1)) (nx c a) ∧ gI ((leftI c a).set leaf (-1)) (nx c a) ≤ 7 := left_bound hc leaf hnl
            obtain ⟨hx1, hx2⟩ := hx
            have S1 := HL.out.store leaf (-1)
            have hG1 : G < wr.heap.size := (HL.out.lt _ rfl).2.2
            have T0 := HO.out.chg S1.2 (.inl (by omega))
            have hc1 : (wr.setCell ⟨G, leaf, none⟩ (.int .i64 (-1))).cell? ⟨b0, off0 + a, none⟩ = some (.int .i64 (nx c a : Int)) := ((S1.2.below (by omega)).cell (p := ⟨b0, off0 + a, none⟩) hb0G).trans ((HB.out.cell (p := ⟨b0, off0 + a, none⟩) hb0).trans (HC.out a hal))
            have hc2 := T0.cell (j := leaf) (by omega)
            have hf2 := T0.frozen leaf
            have S2 := T0.store leaf (nx c a : Int)
            have L2 := S1.1.chg S2.2 (.inr (by omega))
            have hc3 := L2.cell (j := nx c a) (by omega)
            have hf3 := L2.frozen (nx c a)
            have S3 := L2.store (nx c a) (gI ((leftI c a).set leaf (-1)) (nx c a) - 1)
            have T3 := S2.1.chg S3.2 (.inl (by omega))
            have hs1 : (wr.setCell ⟨G, leaf, none⟩ (.int .i64 (-1))).heap.size = wr.heap.size := by simp [World.setCell]
            have HBw : Hid (Below w.heap.size w _) := HB.out.trans (((S1.2.below' (by omega) (by omega)).trans (S2.2.below' (B := w.heap.size) (by omega) (by omega))).trans (S3.2.below' (by omega) (by have := S2.2.size; omega)))
            rw [leftI_next hc HP.out (by omega) hal HF.out] at S3
            have HS3 := Lib.hid S3.1
            rw [show (ints (treeK c a)).set leaf (nx c a : Int) = ints (treeK c (a + 1)) by rw [← HP.out.leaf_is (by omega) HF.out, treeK_next]] at T3
            have HT3 := Lib.hid T3
            clear S1 S2 S3 L2 T0 T3 hs1 h2 h1
            by_cases h3 : nx c a < i
            · go_wp2
              go_step3
              refine ⟨rfl, ⟨a + 1, nx c a, _, _, _, _, _, _, _, _, _, _, _, _, _, _, _, _, _, _, _, _, _, _, _, _, _, _, _, _, _, _, _, _, _, _, _, rfl, by omega, HP.out.again hc (by omega) hal HF.out h3, HT3.out, HS3.out, HBw.out⟩, ?_⟩
              simp [intOf]; omega
            · go_wp2
              try simp only [Exit.jump]
              go_wp2
              go_roundw
              case rel => exact ⟨i + 1, a + 1, by omega, by go_num, by omega, by go_num, HP.out.onward hc (by omega) hal HF.out (by omega), HT3.out, HS3.out, HBw.out⟩
              case measure => simp [intOf]; omega
          · have HN : Hid (freeC c (lfs c a) a leaf = false) := by
              rcases e : freeC c (lfs c a) a leaf with _ | _
              · exact rfl
              · exact absurd ((leftI_free hgl).1 e).2 h2
            have hq2 : (gI (leftI c a) leaf != 0) = true := by simp [h2]
            clear h1 h2
            go_wp2
            try simp only [Exit.jump]
            go_wp2
            go_roundw
            case rel => exact ⟨i + 1, a, by omega, by go_num, by omega, rfl, HP.out.stop HN.out, HO.out, HL.out, HB.out⟩
            case measure => simp [intOf]; omega

    · obtain rfl : i = c.length + 1 := by omega
      have hdl : decide (((c.length + 1 : Nat) : Int) < (c.length : Int) + 1) = false := decide_eq_false (by omega)
      obtain rfl := Ptr.end_ hc hal0 hno
      have HO := Lib.hid ho
      clear ho hno
      go_wp2
      go_ret2
      exact ⟨rfl, HO.out, hbw⟩
end Go.Proofs.Ytlbiioncpeondaa
