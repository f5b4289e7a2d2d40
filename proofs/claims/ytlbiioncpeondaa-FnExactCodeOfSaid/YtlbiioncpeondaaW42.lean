/- Walks: CodeOf (impl). Printed by gen_w42.py. -/
import Derived.Test.YtlbiioncpeondaaW39
import Derived.Test.YtlbiioncpeondaaW12
import Derived.Test.YtlbiioncpeondaaW40
import Derived.Test.YtlbiioncpeondaaM11
namespace Go.Proofs.Ytlbiioncpeondaa
set_option linter.unusedVariables false
open Go.RowKit
theorem OwnIn.keepB {w w' : World} {lo hi n c B : Nat} {A : Option Addr} {xs : List Int} (h : OwnIn w lo hi A n c xs) (hb : Below B w w') (hB : hi ≤ B) : OwnIn w' lo hi A n c xs := h.below hb hB
theorem OwnV.lt {w : World} {B : Nat} {v : Value} {xs : List Int} (h : OwnV w B v xs) {g : Nat} (hg : v.ownBlock = some g) : B ≤ g ∧ g < w.heap.size := World.ownsRow.lt h g hg
def lenV : Value → Nat
  | .slice _ n _ => n
  | _ => 0
theorem OwnV.lenV {w : World} {B : Nat} {v : Value} {xs : List Int} (h : OwnV w B v xs) : Go.Proofs.Ytlbiioncpeondaa.lenV v = xs.length := by
  obtain ⟨A, c, rfl, _⟩ := h.form
  rfl
theorem treeOkI_tree {f : List Nat} {r : Nat} (h : TreeN f r) : treeOkI (ints f) = true := by
  unfold treeOkI
  rw [loopsI_ok h.map, h.loops]
  simp [gR, ints]
theorem rootI_tree {f : List Nat} {r : Nat} (h : TreeN f r) : rootI (ints f) = (r : Int) := by
  rw [rootI_yes (treeOkI_tree h)]
  have := loopI_ok h.map h.map.pos
  rw [h.lo h.map.pos] at this
  exact this
set_option maxRecDepth 100000 in
set_option maxHeartbeats 6400000 in
theorem codeOf_ok (A : Option Addr) (kc : Nat) (c : List Nat) (w : World) (h : Rd w w.heap.size A (c.length + 1) kc (ints (treeN c))) (hc : CodeN c) :
    Calls Try.prog 32 #[.slice A (c.length + 1) kc] w fun e w' => ∃ v, e = .returned (.tuple #[v, .bool true]) ∧ OwnV w' w.heap.size v (ints c) ∧ Below w.heap.size w w' := by
  have h6 := hc.le6
  have hT := treeN_tree hc
  have hok := treeOkI_tree hT
  have hro := rootI_tree hT
  have hrt := rt_le hc
  obtain ⟨i0, hi, hz0, hz1, hz2⟩ := info_parts int_info
  obtain ⟨b0, off0, rfl, hb0, hcells0⟩ := h.2.2.2 (by omega)
  have HC : Hid (∀ k, k < c.length + 1 → w.cell? ⟨b0, off0 + k, none⟩ = some (.int .i64 ((nx (treeN c) k : Nat) : Int))) := fun k hk => by rw [hcells0 k hk, gI_ints]
  clear hcells0
  have hcap := h.cap
  have hmax := h.max
  unfold maxLen at hmax
  go_enter Try.func32, Try.ntmps32
  go_wp2_with fail
  refine (treeOk_c _ _ _ _ _ h).mono ?_
  rintro e w1 ⟨rfl, hb1⟩
  rw [hok]
  go_wp2_with fail
  refine (rootOf_c _ _ _ _ _ (h.up hb1)).mono ?_
  rintro e w2 ⟨rfl, hb2⟩
  rw [hro]
  have hB2 := bt hb1 hb2
  clear hb1 hb2 hok hro
  have hGw : w.heap.size ≤ w2.heap.size := hB2.size
  go_wp2_with (at_make; refine wpList_make_full _ rfl _ _ 22 rfl w2.heap.size 3 i0 (.int .i64 0) 1 Try.underlying22 hi hz0 hz1 _ _ _ _ (c.length + 1) rfl rfl (by omega) (by omega) (by rw [hz2]; omega) (by unfold maxLen; omega) (Nat.le_refl _) ?_)
  intro w3 hown3 hg3
  have hb3 : Below w2.heap.size w2 w3 := (Below.refl _ _).grown hg3 (Nat.le_refl _) (fun k hk => by cases hk)
  have hB3 := bt hB2 hb3
  have ho3 : OwnIn w3 w2.heap.size (w2.heap.size + 1) (some ⟨w2.heap.size, 0, none⟩) (c.length + 1) (c.length + 1) (ints (cnK (treeN c) 0)) := by
    have := tree_start (w := w3) (B := w2.heap.size) (n := c.length + 1) (r := 0) (by omega) (by simpa [toList_madeCells_one, Value.cells] using hown3)
    rw [cnK_zero, treeN_len]; exact this
  generalize w2.heap.size = G at ho3 hGw ⊢
  clear hown3 hg3 hb3 hB2 w2 w1
  go_wp2_with fail
  go_loopw [22] (fun i wr => ∃ j : Nat, j ≤ c.length + 1 ∧ i = .int .i64 j ∧ OwnIn wr G (G + 1) (some ⟨G, 0, none⟩) (c.length + 1) (c.length + 1) (ints (cnK (treeN c) j)) ∧ Below w.heap.size w wr) (fun i _ => c.length + 1 - (intOf i).toNat)
  case atStart => exact ⟨0, Nat.zero_le _, rfl, ho3, hB3⟩
  case round =>
    obtain ⟨j, hj, rfl, ho, hbw⟩ := hrel
    clear ho3 hB3 w3
    by_cases hlt : j < c.length + 1
    · have hdl : decide ((j : Int) < (c.length : Int) + 1) = true := decide_eq_true (by omega)
      have hcell : wr.cell? ⟨b0, off0 + j, none⟩ = some (.int .i64 ((nx (treeN c) j : Nat) : Int)) := by rw [hbw.cell (p := ⟨b0, off0 + j, none⟩) hb0, HC.out j hlt]
      have hx := hT.map.has j (by rw [treeN_len]; omega)
      have hle := cnK_le (i := j) hx
      rw [treeN_len] at hx hle
      have hold : wr.cell? ⟨G, nx (treeN c) j, none⟩ = some (.int .i64 ((nx (cnK (treeN c) j) (nx (treeN c) j) : Nat) : Int)) := by rw [ho.cell (by omega), gI_ints]
      have hfz := ho.frozen (nx (treeN c) j)
      have HST := Lib.hid (ho.store (nx (treeN c) j) ((nx (cnK (treeN c) j) (nx (treeN c) j) : Int) + 1))
      have hGr : G < wr.heap.size := (ho.lt G rfl).2.2
      have HB := Lib.hid hbw
      have HSZ := Lib.hid hGr
      have hsu := Lib.hid (cnK_succ (f := treeN c) (i := j) (by rw [treeN_len]; omega))
      clear ho hbw hGr
      go_wp2
      go_roundw
      case rel => exact ⟨j + 1, by omega, by go_num, by
        have := HST.out.1
        rw [← hsu.out, ints_set]
        rwa [show ((nx (cnK (treeN c) j) (nx (treeN c) j) : Int) + 1) = ((nx (cnK (treeN c) j) (nx (treeN c) j) + 1 : Nat) : Int) by omega] at this, HB.out.trans (HST.out.2.below' hGw (by have := HSZ.out; omega))⟩
      case measure => simp [intOf]; omega
    · obtain rfl : j = c.length + 1 := by omega
      have hdl : decide (((c.length + 1 : Nat) : Int) < (c.length : Int) + 1) = false := decide_eq_false (by omega)
      have hz := leftR_zero hc
      rw [treeN_len] at hz
      rw [hz] at ho
      clear hz
      have hw1 : IntKind.i64.wrap ((c.length : Int) + 1 - 1) = (c.length : Int) := by rw [show (c.length : Int) + 1 - 1 = (c.length : Int) by omega]; exact IntWalk.i64_in _ (by omega)
      go_wp2_with (at_make; refine wpList_make_own _ rfl _ _ 22 rfl wr.heap.size 3 i0 (.int .i64 0) 1 Try.underlying22 hi hz0 hz1 _ _ _ c.length rfl rfl (by omega) (by rw [hz2]; omega) (by unfold maxLen; omega) (Nat.le_refl _) ?_)
      intro w4 hown4 hg4
      have hb4 : Below wr.heap.size wr w4 := (Below.refl _ _).grown hg4 (Nat.le_refl _) (fun k hk => by cases hk)
      have ho4 : OwnV w4 wr.heap.size (.slice (some ⟨wr.heap.size, 0, none⟩) 0 c.length) (ints (c.take 0)) := hown4
      have hl4 := ho.up hb4
      have hB4 := bt hbw hb4
      have hGB : G < wr.heap.size := (ho.lt G rfl).2.2
      have hlt4 : wr.heap.size < w4.heap.size := (OwnV.lt ho4 (g := wr.heap.size) rfl).2
      generalize wr.heap.size = Bc at ho4 hGB hlt4 ⊢
      clear hown4 hg4 hb4 ho hbw
      go_wp2_with fail
      go_loopw [8, 39] (fun v t x => ∃ i a : Nat, i ≤ c.length + 1 ∧ t = .int .i64 i ∧ a ≤ c.length ∧ (∀ j, j < i → freeC c (lfs c a) a j = false) ∧ OwnV x Bc v (ints (c.take a)) ∧ OwnIn x G (G + 1) (some ⟨G, 0, none⟩) (c.length + 1) (c.length + 1) (leftR c a) ∧ Below w.heap.size w x ∧ Bc ≤ x.heap.size) (fun v t _ => c.length + 1 - (intOf t).toNat)
      case atStart => exact ⟨0, 0, Nat.zero_le _, rfl, Nat.zero_le _, fun j hj => absurd hj (Nat.not_lt_zero _), ho4, hl4, hB4, by omega⟩
      case round =>
        obtain ⟨i, a, hil, rfl, hal0, hno, ho, hl, hbw, hzw⟩ := hrel
        obtain ⟨v, rfl⟩ : ∃ v : Value, v = u8 := ⟨_, rfl⟩
        clear ho4 hl4 hB4 hlt4 hj hlt hdl
        by_cases hlt : i < c.length + 1
        · have hdl : decide ((i : Int) < (c.length : Int) + 1) = true := decide_eq_true (by omega)
          have hpt := Lib.hid (Ptr.start hno)
          clear hno
          go_wp2_with fail
          refine wp_scope_jumps 0 (fun (a' : Act) (w' : World) => ∃ (a leaf : Nat) (v u11 u42 u43 u44 u45 u46 u47 u48 u49 u50 u51 u52 u53 u54 u55 u56 u57 u58 u59 u60 u61 u62 u63 u64 u65 u66 u67 u68 u69 u70 u71 u72 u73 : Value), a' = ⟨#[.slice (some ⟨b0, off0, none⟩) (c.length + 1) kc, undef, .slice none 0 0, .bool false, .int .i64 (rt c : Int), .slice (some ⟨G, 0, none⟩) (c.length + 1) (c.length + 1), undef, u7, v, .int .i64 (i : Int), .int .i64 (leaf : Int), u11, .slice (some ⟨b0, off0, none⟩) (c.length + 1) kc, .bool true, .bool false, .slice (some ⟨b0, off0, none⟩) (c.length + 1) kc, .int .i64 (rt c : Int), .slice (some ⟨b0, off0, none⟩) (c.length + 1) kc, .int .i64 ((c.length : Int) + 1), .slice (some ⟨G, 0, none⟩) (c.length + 1) (c.length + 1), .slice (some ⟨b0, off0, none⟩) (c.length + 1) kc, .int .i64 ((c.length : Int) + 1), .int .i64 ((c.length : Int) + 1), .bool false, u24, u25, u26, u27, u28, u29, u30, u31, u32, .slice (some ⟨b0, off0, none⟩) (c.length + 1) kc, .int .i64 ((c.length : Int) + 1), .int .i64 (c.length : Int), .slice (some ⟨Bc, 0, none⟩) 0 c.length, .slice (some ⟨b0, off0, none⟩) (c.length + 1) kc, .int .i64 ((c.length : Int) + 1), .int .i64 (i : Int), .bool true, .int .i64 (i : Int), u42, u43, u44, u45, u46, u47, u48, u49, u50, u51, u52, u53, u54, u55, u56, u57, u58, u59, u60, u61, u62, u63, u64, u65, u66, u67, u68, u69, u70, u71, u72, u73, u74, undef], []⟩ ∧ a ≤ c.length ∧ Ptr c a i leaf ∧ OwnV w' Bc v (ints (c.take a)) ∧ OwnIn w' G (G + 1) (some ⟨G, 0, none⟩) (c.length + 1) (c.length + 1) (leftR c a) ∧ Below w.heap.size w w' ∧ Bc ≤ w'.heap.size) (fun a' _ => c.length - lenV (a'.tmps.getD 8 undef)) rfl ?_ ?_
          · go_wp2_with fail
            go_step3
            have hp := hpt.out
            have ha := hal0
            clear hpt
            have hle := hp.le
            have hgl : i ≤ c.length := by omega
            have HP := Lib.hid hp
            have HO := Lib.hid ho
            have HL := Lib.hid hl
            have HB := Lib.hid hbw
            have HZ := Lib.hid hzw
            have hcL := hl.cell (j := i) (by omega)
            have hfL := hl.frozen i
            clear hp ho hl hbw hzw
            by_cases h1 : i = rt c
            · have hq := eqq_bool h1
              have HN : Hid (freeC c (lfs c a) a i = false) := by
                rcases e : freeC c (lfs c a) a i with _ | _
                · exact rfl
                · exact absurd h1 (freeC_iff.1 e).1
              clear h1
              go_wp2
              try simp only [Exit.jump]
              go_wp2
              go_roundw
              case rel => exact ⟨i + 1, a, by omega, by go_num, by omega, HP.out.stop HN.out, HO.out, HL.out, HB.out, HZ.out⟩
              case measure => simp [intOf]; omega
            · have hq := neq_bool h1
              by_cases h2 : gI (leftR c a) i = 0
              · have HF : Hid (freeC c (lfs c a) a i = true) := (leftR_free hgl).2 ⟨h1, h2⟩
                have hq2 : (gI (leftR c a) i != 0) = false := by simp [h2]
                have hal := free_lt hc ha hgl HF.out
                have hnl := nx_le hc hal
                have hb0G : b0 < G := by omega
                have hx : -1 ≤ gI ((leftR c a).set i (-1)) (nx c a) ∧ gI ((leftR c a).set i (-1)) (nx c a) ≤ 8 := leftR_bound hc a i hnl
                obtain ⟨hx1, hx2⟩ := hx
                have HE : Hid (lf c a = i) := HP.out.leaf_is (by omega) HF.out
                have S1 := HL.out.store i (-1)
                have hG1 : G < wr.heap.size := (HL.out.lt _ rfl).2.2
                have hs1 : (wr.setCell ⟨G, i, none⟩ (.int .i64 (-1))).heap.size = wr.heap.size := by simp [World.setCell]
                have HB1 : Hid (Below w.heap.size w (wr.setCell ⟨G, i, none⟩ (.int .i64 (-1)))) := HB.out.trans (S1.2.below' (by omega) (by omega))
                have O1 := HO.out.chg S1.2 (by omega)
                have hcell : (wr.setCell ⟨G, i, none⟩ (.int .i64 (-1))).cell? ⟨b0, off0 + i, none⟩ = some (.int .i64 (nx c a : Int)) := by
                  rw [HB1.out.cell (p := ⟨b0, off0 + i, none⟩) hb0, HC.out i (by omega), ← HE.out, nx_treeN hc hal]
                have hln : (ints (c.take a)).length ≤ 1000000000000 := by rw [ints_len, List.length_take]; omega
                have hsz1 : Bc ≤ (wr.setCell ⟨G, i, none⟩ (.int .i64 (-1))).heap.size := by rw [hs1]; exact HZ.out
                have HL1 := Lib.hid S1.1
                have HSE := Lib.hid hs1
                have HNX := Lib.hid (leftR_next hc HP.out (by omega) hal HF.out)
                have HG1 := Lib.hid hG1
                clear S1 h2 h1 hs1 hG1
                go_wp2_with (at_builtin; refine app_int (wr.setCell ⟨G, i, none⟩ (.int .i64 (-1))) _ rfl _ _ rfl Bc v (ints (c.take a)) rfl O1 (by rw [HSE.out]; rfl) hln hsz1 ?_)
                intro v2 w4 O4 hb4
                have L4 := HL1.out.keepB hb4 hGB
                have HB4 := Lib.hid (HB1.out.trans (hb4.mono (by omega)))
                have hc3 := L4.cell (j := nx c a) (by omega)
                have hf3 := L4.frozen (nx c a)
                have S3 := L4.store (nx c a) (gI ((leftR c a).set i (-1)) (nx c a) - 1)
                have O5 := Lib.hid (O4.chg S3.2 (by omega))
                rw [HNX.out] at S3
                have HL5 := Lib.hid S3.1
                have hG4 : G < w4.heap.size := (L4.lt G rfl).2.2
                have HZ5 : Hid (Bc ≤ (w4.setCell ⟨G, nx c a, none⟩ (.int .i64 (gI ((leftR c a).set i (-1)) (nx c a) - 1))).heap.size) := by unfold Hid; have := hb4.size; simp only [World.setCell, Array.size_modify]; omega
                have HB5 := Lib.hid (HB4.out.trans (S3.2.below' (B := w.heap.size) (by omega) (by omega)))
                have HT : Hid (ints (c.take a) ++ [(nx c a : Int)] = ints (c.take (a + 1))) := by unfold Hid; rw [List.take_succ_eq_append_getElem hal, ints_append, nx_get hal]; rfl
                rw [HT.out] at O5
                clear L4 S3 O4 hb4 hG4 O1
                by_cases h3 : nx c a < i
                · go_wp2
                  go_step3
                  refine ⟨rfl, ⟨a + 1, nx c a, _, _, _, _, _, _, _, _, _, _, _, _, _, _, _, _, _, _, _, _, _, _, _, _, _, _, _, _, _, _, _, _, _, _, rfl, by omega, HP.out.again hc (by omega) hal HF.out h3, O5.out, HL5.out, HB5.out, HZ5.out⟩⟩
                · go_wp2
                  try simp only [Exit.jump]
                  go_wp2
                  go_roundw
                  case rel => exact ⟨i + 1, a + 1, by omega, by go_num, by omega, HP.out.onward hc (by omega) hal HF.out (by omega), O5.out, HL5.out, HB5.out, HZ5.out⟩
                  case measure => simp [intOf]; omega
              · have HN : Hid (freeC c (lfs c a) a i = false) := by
                  rcases e : freeC c (lfs c a) a i with _ | _
                  · exact rfl
                  · exact absurd ((leftR_free hgl).1 e).2 h2
                have hq2 : (gI (leftR c a) i != 0) = true := by simp [h2]
                clear h1 h2
                go_wp2
                try simp only [Exit.jump]
                go_wp2
                go_roundw
                case rel => exact ⟨i + 1, a, by omega, by go_num, by omega, HP.out.stop HN.out, HO.out, HL.out, HB.out, HZ.out⟩
                case measure => simp [intOf]; omega

          · rintro a' w' ⟨a, leaf, v, u11, u42, u43, u44, u45, u46, u47, u48, u49, u50, u51, u52, u53, u54, u55, u56, u57, u58, u59, u60, u61, u62, u63, u64, u65, u66, u67, u68, u69, u70, u71, u72, u73, rfl, ha, hp, ho, hl, hbw, hzw⟩
            obtain ⟨wr, rfl⟩ : ∃ wr : World, wr = w' := ⟨_, rfl⟩
            clear hpt
            have hle := hp.le
            have hgl : leaf ≤ c.length := by omega
            have HP := Lib.hid hp
            have HO := Lib.hid ho
            have HL := Lib.hid hl
            have HB := Lib.hid hbw
            have HZ := Lib.hid hzw
            have hcL := hl.cell (j := leaf) (by omega)
            have hfL := hl.frozen leaf
            clear hp ho hl hbw hzw
            by_cases h1 : leaf = rt c
            · have hq := eqq_bool h1
              have HN : Hid (freeC c (lfs c a) a leaf = false) := by
                rcases e : freeC c (lfs c a) a leaf with _ | _
                · exact rfl
                · exact absurd h1 (freeC_iff.1 e).1
              clear h1
              go_wp2
              try simp only [Exit.jump]
              go_wp2
              go_roundw
              case rel => exact ⟨i + 1, a, by omega, by go_num, by omega, HP.out.stop HN.out, HO.out, HL.out, HB.out, HZ.out⟩
              case measure => simp [intOf]; omega
            · have hq := neq_bool h1
              by_cases h2 : gI (leftR c a) leaf = 0
              · have HF : Hid (freeC c (lfs c a) a leaf = true) := (leftR_free hgl).2 ⟨h1, h2⟩
                have hq2 : (gI (leftR c a) leaf != 0) = false := by simp [h2]
                have hal := free_lt hc ha hgl HF.out
                have hnl := nx_le hc hal
                have hb0G : b0 < G := by omega
                have hx : -1 ≤ gI ((leftR c a).set leaf (-1)) (nx c a) ∧ gI ((leftR c a).set leaf (-1)) (nx c a) ≤ 8 := leftR_bound hc a leaf hnl
                obtain ⟨hx1, hx2⟩ := hx
                have HE : Hid (lf c a = leaf) := HP.out.leaf_is (by omega) HF.out
                have S1 := HL.out.store leaf (-1)
                have hG1 : G < wr.heap.size := (HL.out.lt _ rfl).2.2
                have hs1 : (wr.setCell ⟨G, leaf, none⟩ (.int .i64 (-1))).heap.size = wr.heap.size := by simp [World.setCell]
                have HB1 : Hid (Below w.heap.size w (wr.setCell ⟨G, leaf, none⟩ (.int .i64 (-1)))) := HB.out.trans (S1.2.below' (by omega) (by omega))
                have O1 := HO.out.chg S1.2 (by omega)
                have hcell : (wr.setCell ⟨G, leaf, none⟩ (.int .i64 (-1))).cell? ⟨b0, off0 + leaf, none⟩ = some (.int .i64 (nx c a : Int)) := by
                  rw [HB1.out.cell (p := ⟨b0, off0 + leaf, none⟩) hb0, HC.out leaf (by omega), ← HE.out, nx_treeN hc hal]
                have hln : (ints (c.take a)).length ≤ 1000000000000 := by rw [ints_len, List.length_take]; omega
                have hsz1 : Bc ≤ (wr.setCell ⟨G, leaf, none⟩ (.int .i64 (-1))).heap.size := by rw [hs1]; exact HZ.out
                have HL1 := Lib.hid S1.1
                have HSE := Lib.hid hs1
                have HNX := Lib.hid (leftR_next hc HP.out (by omega) hal HF.out)
                have HG1 := Lib.hid hG1
                clear S1 h2 h1 hs1 hG1
                go_wp2_with (at_builtin; refine app_int (wr.setCell ⟨G, leaf, none⟩ (.int .i64 (-1))) _ rfl _ _ rfl Bc v (ints (c.take a)) rfl O1 (by rw [HSE.out]; rfl) hln hsz1 ?_)
                intro v2 w4 O4 hb4
                have L4 := HL1.out.keepB hb4 hGB
                have HB4 := Lib.hid (HB1.out.trans (hb4.mono (by omega)))
                have hc3 := L4.cell (j := nx c a) (by omega)
                have hf3 := L4.frozen (nx c a)
                have S3 := L4.store (nx c a) (gI ((leftR c a).set leaf (-1)) (nx c a) - 1)
                have O5 := Lib.hid (O4.chg S3.2 (by omega))
                rw [HNX.out] at S3
                have HL5 := Lib.hid S3.1
                have hG4 : G < w4.heap.size := (L4.lt G rfl).2.2
                have HZ5 : Hid (Bc ≤ (w4.setCell ⟨G, nx c a, none⟩ (.int .i64 (gI ((leftR c a).set leaf (-1)) (nx c a) - 1))).heap.size) := by unfold Hid; have := hb4.size; simp only [World.setCell, Array.size_modify]; omega
                have HB5 := Lib.hid (HB4.out.trans (S3.2.below' (B := w.heap.size) (by omega) (by omega)))
                have HT : Hid (ints (c.take a) ++ [(nx c a : Int)] = ints (c.take (a + 1))) := by unfold Hid; rw [List.take_succ_eq_append_getElem hal, ints_append, nx_get hal]; rfl
                rw [HT.out] at O5
                clear L4 S3 O4 hb4 hG4 O1
                by_cases h3 : nx c a < i
                · go_wp2
                  go_step3
                  refine ⟨rfl, ⟨a + 1, nx c a, _, _, _, _, _, _, _, _, _, _, _, _, _, _, _, _, _, _, _, _, _, _, _, _, _, _, _, _, _, _, _, _, _, _, rfl, by omega, HP.out.again hc (by omega) hal HF.out h3, O5.out, HL5.out, HB5.out, HZ5.out⟩, ?_⟩
                  have e1 := HO.out.lenV
                  have e2 := O5.out.lenV
                  rw [ints_len, List.length_take] at e1 e2
                  show c.length - lenV v2 < c.length - lenV v
                  omega
                · go_wp2
                  try simp only [Exit.jump]
                  go_wp2
                  go_roundw
                  case rel => exact ⟨i + 1, a + 1, by omega, by go_num, by omega, HP.out.onward hc (by omega) hal HF.out (by omega), O5.out, HL5.out, HB5.out, HZ5.out⟩
                  case measure => simp [intOf]; omega
              · have HN : Hid (freeC c (lfs c a) a leaf = false) := by
                  rcases e : freeC c (lfs c a) a leaf with _ | _
                  · exact rfl
                  · exact absurd ((leftR_free hgl).1 e).2 h2
                have hq2 : (gI (leftR c a) leaf != 0) = true := by simp [h2]
                clear h1 h2
                go_wp2
                try simp only [Exit.jump]
                go_wp2
                go_roundw
                case rel => exact ⟨i + 1, a, by omega, by go_num, by omega, HP.out.stop HN.out, HO.out, HL.out, HB.out, HZ.out⟩
                case measure => simp [intOf]; omega

        · obtain rfl : i = c.length + 1 := by omega
          have hdl : decide (((c.length + 1 : Nat) : Int) < (c.length : Int) + 1) = false := decide_eq_false (by omega)
          obtain rfl := Ptr.end_ hc hal0 hno
          have HO := Lib.hid ho
          clear ho hno
          go_wp2
          go_ret2
          exact ⟨_, rfl, OwnV.more (B := Bc) (by have := HO.out; rwa [List.take_length] at this) (by omega), hbw⟩
end Go.Proofs.Ytlbiioncpeondaa
