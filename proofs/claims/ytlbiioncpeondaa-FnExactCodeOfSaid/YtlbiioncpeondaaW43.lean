/- Walks: CodeOf (spec); CodeOf of whatever row. Printed by gen_w43.py. -/
import Derived.Test.YtlbiioncpeondaaW42
import Derived.Test.YtlbiioncpeondaaW13
namespace Go.Proofs.Ytlbiioncpeondaa
set_option linter.unusedVariables false
open Go.RowKit

theorem meas_len {w : World} {B a : Nat} {v : Value} {c : List Nat} {A : Option Addr} {k : Nat} {u : List Int} (h : OwnV w B v (ints (c.take (a + 1)))) (hu : u.length = a) (hlt : a < c.length) : c.length - lenV v < c.length - lenV (.slice A a k) := by
  have := h.lenV
  rw [ints_len, List.length_take] at this
  show c.length - lenV v < c.length - a
  omega
set_option maxRecDepth 100000 in
set_option maxHeartbeats 6400000 in
theorem sCodeOf_ok (A : Option Addr) (kc : Nat) (c : List Nat) (w : World) (h : Rd w w.heap.size A (c.length + 1) kc (ints (treeN c))) (hc : CodeN c) :
    Calls Try.prog 31 #[.slice A (c.length + 1) kc] w fun e w' => ∃ v, e = .returned (.tuple #[v, .bool true]) ∧ OwnV w' w.heap.size v (ints c) ∧ Below w.heap.size w w' := by
  have h6 := hc.le6
  have hT := treeN_tree hc
  have hok := treeOkI_tree hT
  have hro := rootI_tree hT
  have hrt := rt_le hc
  obtain ⟨b0, off0, rfl, hb0, hcells0⟩ := h.2.2.2 (by omega)
  have HC : Hid (∀ k, k < c.length + 1 → w.cell? ⟨b0, off0 + k, none⟩ = some (.int .i64 ((nx (treeN c) k : Nat) : Int))) := fun k hk => by rw [hcells0 k hk, gI_ints]
  clear hcells0
  have hcap := h.cap
  have hmax := h.max
  unfold maxLen at hmax
  go_enter Try.func31, Try.ntmps31
  go_wp2_with fail
  refine (sTreeOk_c _ _ _ _ _ h).mono ?_
  rintro e w1 ⟨rfl, hb1⟩
  rw [hok]
  have hO1 : OwnV (w1.alloc (Obj.cells #[] 3)) w.heap.size (.slice (some ⟨w1.heap.size, 0, none⟩) 0 0) [] := (OwnV.made w1 w1.heap.size #[] (Nat.le_refl _) rfl).more hb1.size
  have hb2 : Below w.heap.size w (w1.alloc (Obj.cells #[] 3)) := hb1.alloc hb1.size _
  have hrd2 := h.up hb2
  go_wp2_with fail
  generalize w1.alloc (Obj.cells #[] 3) = w2 at hO1 hb2 hrd2 ⊢
  refine (sRootOf_c _ _ _ _ _ hrd2).mono ?_
  rintro e w3 ⟨rfl, hb3⟩
  rw [hro]
  have hO3 : OwnV w3 w.heap.size (.slice (some ⟨w1.heap.size, 0, none⟩) 0 0) (ints (c.take 0)) := hO1.up hb3
  have hB3 := bt hb2 hb3
  have hw1 : IntKind.i64.wrap ((c.length : Int) + 1 - 1) = (c.length : Int) := by rw [show (c.length : Int) + 1 - 1 = (c.length : Int) by omega]; exact IntWalk.i64_in _ (by omega)
  generalize w1.heap.size = G at hO3 hO1 ⊢
  clear hb1 hok hro hO1 hb2 hrd2 hb3
  go_wp2_with fail
  go_loopw [4, 5] (fun v g wr => ∃ a : Nat, a ≤ c.length ∧ g = .int .i64 ((gm c a : Nat) : Int) ∧ OwnV wr w.heap.size v (ints (c.take a)) ∧ Below w.heap.size w wr) (fun v g _ => c.length - lenV v)
  case atStart => exact ⟨0, Nat.zero_le _, rfl, hO3, hB3⟩
  case round =>
    obtain ⟨a, ha, rfl, ho, hbw⟩ := hrel
    clear hO3 hB3 w3 w2 w1
    obtain ⟨A2, c2, rfl, hO2⟩ := ho.form
    have hla : (ints (c.take a)).length = a := by rw [ints_len, List.length_take]; omega
    have hcp2 := hO2.rd.cap
    rw [hla] at ho hO2 hcp2 ⊢
    have hmx2 := hO2.rd.max
    unfold maxLen at hmx2
    clear hO2
    by_cases hlt : a < c.length
    · have hlv := lvs hc a ha
      have hgm := gm_lt hc ha
      have HF := Lib.hid (hlv.free hc hlt)
      have HO := Lib.hid ho
      have HB := Lib.hid hbw
      have HLA := Lib.hid hla
      clear ho hbw hlv hla
      go_wp2_with fail
      obtain ⟨wo, rfl⟩ : ∃ wo : World, wo = wr := ⟨_, rfl⟩
      go_loopw [4, 5, 7] (fun v g t wr => ∃ k : Nat, k ≤ c.length + 1 ∧ t = .int .i64 k ∧ g = .int .i64 ((gm c a : Nat) : Int) ∧ v = .slice A2 a c2 ∧ (∀ j, j < k → freeC c (lfs c a) a j = false) ∧ wr = wo) (fun v g t _ => c.length + 1 - (intOf t).toNat)
      case atStart => exact ⟨0, Nat.zero_le _, rfl, rfl, rfl, fun j hj => absurd hj (Nat.not_lt_zero _), rfl⟩
      case round =>
        obtain ⟨k, hk, rfl, rfl, rfl, hno, rfl⟩ := hrel
        have HN := Lib.hid hno
        clear hno
        by_cases hkl : k < c.length + 1
        · have hdk : decide ((k : Int) < (c.length : Int) + 1) = true := decide_eq_true (by omega)
          have hob := even_bit (gm c a) k
          have hsr := shr_bit (gm c a) k
          have h27 := two_le (k := k) (by omega)
          have hi1 : (1 : Int) ≤ 2 ^ k := by rw [castPow]; omega
          have hi2 : (2 : Int) ^ k ≤ 128 := by rw [castPow]; omega
          have hor : bits .or .i64 ((gm c a : Nat) : Int) (2 ^ k) = ((gm c a ||| 2 ^ k : Nat) : Int) := by
            rw [castPow]; exact bits_or _ _ (by omega) (by omega)
          clear h27
          have hcase : k = rt c ∨ (k ≠ rt c ∧ (gm c a).testBit k = true) ∨ (k ≠ rt c ∧ (gm c a).testBit k = false) := by
            by_cases h1 : k = rt c
            · exact .inl h1
            · rcases h2 : (gm c a).testBit k with _ | _
              · exact .inr (.inr ⟨h1, rfl⟩)
              · exact .inr (.inl ⟨h1, rfl⟩)
          rcases hcase with h1 | ⟨h1, h2⟩ | ⟨h1, h2⟩
          · have hq := eq_bool h1
            have HFr : Hid (FrT c a k 0 false) := FrT.start ⟨fun h => (by cases h), fun h => absurd h1 h.1⟩
            clear h1
            go_wp2_with fail
            go_loop [8, 9] (fun fr j => ∃ (b : Bool) (t : Nat), t ≤ c.length + 1 ∧ j = .int .i64 t ∧ fr = .bool b ∧ FrT c a k t b) (fun fr j => c.length + 1 - (intOf j).toNat)
            case atStart => exact ⟨_, 0, by omega, rfl, rfl, HFr.out⟩
            case round =>
              obtain ⟨b, t, htc, rfl, rfl, hFr⟩ := hrel
              have HF2 := Lib.hid hFr
              clear hFr
              by_cases htl : t < c.length + 1
              · have hdt : decide ((t : Int) < (c.length : Int) + 1) = true := decide_eq_true (by omega)
                have hcell := (HB.out.cell (p := ⟨b0, off0 + t, none⟩) hb0).trans (HC.out t htl)
                have hob2 := even_bit (gm c a) t
                have hsr2 := shr_bit (gm c a) t
                by_cases he : nx (treeN c) t = k
                · have hq2 := eqq_bool he
                  have HE := Lib.hid he
                  clear he
                  rcases hbt : (gm c a).testBit t with _ | _
                  · rw [hbt] at hob2
                    by_cases htk : t = k
                    · have hq3 := eq_bool htk
                      have HK := Lib.hid htk
                      clear htk hbt
                      go_wp2
                      go_round
                      case rel => exact ⟨b, t + 1, by omega, by go_num, rfl, HF2.out.keep (.inr (.inr HK.out))⟩
                      case measure => simp [intOf]; omega
                    · have hq3 := ne_bool htk
                      have HK := Lib.hid htk
                      have HG : Hid (t ∉ lfs c a) := fun hm => by rw [(gm_bit c t a).2 hm] at hbt; cases hbt
                      clear htk hbt
                      go_wp2
                      go_round
                      case rel => exact ⟨false, t + 1, by omega, by go_num, rfl, FrT.drop HE.out HG.out HK.out⟩
                      case measure => simp [intOf]; omega
                  · have HG : Hid (t ∈ lfs c a) := (gm_bit c t a).1 hbt
                    rw [hbt] at hob2
                    clear hbt
                    go_wp2
                    go_round
                    case rel => exact ⟨b, t + 1, by omega, by go_num, rfl, HF2.out.keep (.inr (.inl HG.out))⟩
                    case measure => simp [intOf]; omega
                · have hq2 := neq_bool he
                  have HE := Lib.hid he
                  clear he hob2 hsr2
                  go_wp2
                  go_round
                  case rel => exact ⟨b, t + 1, by omega, by go_num, rfl, HF2.out.keep (.inl HE.out)⟩
                  case measure => simp [intOf]; omega
              · obtain rfl : t = c.length + 1 := by omega
                have hdt : decide (((c.length + 1 : Nat) : Int) < (c.length : Int) + 1) = false := decide_eq_false (by omega)
                have HD : Hid (b = freeC c (lfs c a) a k) := HF2.out.done hc ha (by omega)
                rcases b with _ | _
                · go_wp2
                  go_roundw
                  case rel => exact ⟨k + 1, by omega, by go_num, rfl, rfl, fun j hj => by
                    rcases Nat.lt_or_ge j k with h' | h'
                    · exact HN.out j h'
                    · obtain rfl : j = k := by omega
                      exact HD.out.symm, by first | rfl | trivial⟩
                  case measure => simp [intOf]; omega
                · have HK : Hid (lf c a = k) := minF_is (by omega) HD.out.symm HN.out
                  have hcell := (HB.out.cell (p := ⟨b0, off0 + k, none⟩) hb0).trans (HC.out k hkl)
                  have HX : Hid (nx (treeN c) k = nx c a) := by unfold Hid; rw [← HK.out]; exact nx_treeN hc hlt
                  have hO := HO.out
                  have hln : (ints (c.take a)).length ≤ 1000000000000 := by rw [ints_len, List.length_take]; omega
                  have hsz := HB.out.size
                  go_wp2_with (at_builtin; refine app_int wr _ rfl _ _ rfl w.heap.size _ (ints (c.take a)) rfl hO rfl hln hsz ?_; intro v2 w4 hown4 hb4)
                  rw [HX.out] at hown4
                  have HT : Hid (ints (c.take a) ++ [(nx c a : Int)] = ints (c.take (a + 1))) := by unfold Hid; rw [List.take_succ_eq_append_getElem hlt, ints_append, nx_get hlt]; rfl
                  rw [HT.out] at hown4
                  go_wp2
                  go_roundw
                  case rel => exact ⟨a + 1, by omega, by rw [gm_succ, HK.out], hown4, HB.out.trans hb4⟩
                  case measure => exact meas_len hown4 HLA.out hlt

          · have hq := ne_bool h1
            have HFr : Hid (FrT c a k 0 false) := FrT.start ⟨fun h => (by cases h), fun h => absurd ((gm_bit c k a).1 h2) h.2⟩
            rw [h2] at hob
            clear h1
            go_wp2_with fail
            go_loop [8, 9] (fun fr j => ∃ (b : Bool) (t : Nat), t ≤ c.length + 1 ∧ j = .int .i64 t ∧ fr = .bool b ∧ FrT c a k t b) (fun fr j => c.length + 1 - (intOf j).toNat)
            case atStart => exact ⟨_, 0, by omega, rfl, rfl, HFr.out⟩
            case round =>
              obtain ⟨b, t, htc, rfl, rfl, hFr⟩ := hrel
              have HF2 := Lib.hid hFr
              clear hFr
              by_cases htl : t < c.length + 1
              · have hdt : decide ((t : Int) < (c.length : Int) + 1) = true := decide_eq_true (by omega)
                have hcell := (HB.out.cell (p := ⟨b0, off0 + t, none⟩) hb0).trans (HC.out t htl)
                have hob2 := even_bit (gm c a) t
                have hsr2 := shr_bit (gm c a) t
                by_cases he : nx (treeN c) t = k
                · have hq2 := eqq_bool he
                  have HE := Lib.hid he
                  clear he
                  rcases hbt : (gm c a).testBit t with _ | _
                  · rw [hbt] at hob2
                    by_cases htk : t = k
                    · have hq3 := eq_bool htk
                      have HK := Lib.hid htk
                      clear htk hbt
                      go_wp2
                      go_round
                      case rel => exact ⟨b, t + 1, by omega, by go_num, rfl, HF2.out.keep (.inr (.inr HK.out))⟩
                      case measure => simp [intOf]; omega
                    · have hq3 := ne_bool htk
                      have HK := Lib.hid htk
                      have HG : Hid (t ∉ lfs c a) := fun hm => by rw [(gm_bit c t a).2 hm] at hbt; cases hbt
                      clear htk hbt
                      go_wp2
                      go_round
                      case rel => exact ⟨false, t + 1, by omega, by go_num, rfl, FrT.drop HE.out HG.out HK.out⟩
                      case measure => simp [intOf]; omega
                  · have HG : Hid (t ∈ lfs c a) := (gm_bit c t a).1 hbt
                    rw [hbt] at hob2
                    clear hbt
                    go_wp2
                    go_round
                    case rel => exact ⟨b, t + 1, by omega, by go_num, rfl, HF2.out.keep (.inr (.inl HG.out))⟩
                    case measure => simp [intOf]; omega
                · have hq2 := neq_bool he
                  have HE := Lib.hid he
                  clear he hob2 hsr2
                  go_wp2
                  go_round
                  case rel => exact ⟨b, t + 1, by omega, by go_num, rfl, HF2.out.keep (.inl HE.out)⟩
                  case measure => simp [intOf]; omega
              · obtain rfl : t = c.length + 1 := by omega
                have hdt : decide (((c.length + 1 : Nat) : Int) < (c.length : Int) + 1) = false := decide_eq_false (by omega)
                have HD : Hid (b = freeC c (lfs c a) a k) := HF2.out.done hc ha (by omega)
                rcases b with _ | _
                · go_wp2
                  go_roundw
                  case rel => exact ⟨k + 1, by omega, by go_num, rfl, rfl, fun j hj => by
                    rcases Nat.lt_or_ge j k with h' | h'
                    · exact HN.out j h'
                    · obtain rfl : j = k := by omega
                      exact HD.out.symm, by first | rfl | trivial⟩
                  case measure => simp [intOf]; omega
                · have HK : Hid (lf c a = k) := minF_is (by omega) HD.out.symm HN.out
                  have hcell := (HB.out.cell (p := ⟨b0, off0 + k, none⟩) hb0).trans (HC.out k hkl)
                  have HX : Hid (nx (treeN c) k = nx c a) := by unfold Hid; rw [← HK.out]; exact nx_treeN hc hlt
                  have hO := HO.out
                  have hln : (ints (c.take a)).length ≤ 1000000000000 := by rw [ints_len, List.length_take]; omega
                  have hsz := HB.out.size
                  go_wp2_with (at_builtin; refine app_int wr _ rfl _ _ rfl w.heap.size _ (ints (c.take a)) rfl hO rfl hln hsz ?_; intro v2 w4 hown4 hb4)
                  rw [HX.out] at hown4
                  have HT : Hid (ints (c.take a) ++ [(nx c a : Int)] = ints (c.take (a + 1))) := by unfold Hid; rw [List.take_succ_eq_append_getElem hlt, ints_append, nx_get hlt]; rfl
                  rw [HT.out] at hown4
                  go_wp2
                  go_roundw
                  case rel => exact ⟨a + 1, by omega, by rw [gm_succ, HK.out], hown4, HB.out.trans hb4⟩
                  case measure => exact meas_len hown4 HLA.out hlt

          · have hq := ne_bool h1
            have HFr : Hid (FrT c a k 0 true) := FrT.start ⟨fun _ => ⟨h1, fun hm => by rw [(gm_bit c k a).2 hm] at h2; cases h2⟩, fun _ => rfl⟩
            rw [h2] at hob
            clear h1
            go_wp2_with fail
            go_loop [8, 9] (fun fr j => ∃ (b : Bool) (t : Nat), t ≤ c.length + 1 ∧ j = .int .i64 t ∧ fr = .bool b ∧ FrT c a k t b) (fun fr j => c.length + 1 - (intOf j).toNat)
            case atStart => exact ⟨_, 0, by omega, rfl, rfl, HFr.out⟩
            case round =>
              obtain ⟨b, t, htc, rfl, rfl, hFr⟩ := hrel
              have HF2 := Lib.hid hFr
              clear hFr
              by_cases htl : t < c.length + 1
              · have hdt : decide ((t : Int) < (c.length : Int) + 1) = true := decide_eq_true (by omega)
                have hcell := (HB.out.cell (p := ⟨b0, off0 + t, none⟩) hb0).trans (HC.out t htl)
                have hob2 := even_bit (gm c a) t
                have hsr2 := shr_bit (gm c a) t
                by_cases he : nx (treeN c) t = k
                · have hq2 := eqq_bool he
                  have HE := Lib.hid he
                  clear he
                  rcases hbt : (gm c a).testBit t with _ | _
                  · rw [hbt] at hob2
                    by_cases htk : t = k
                    · have hq3 := eq_bool htk
                      have HK := Lib.hid htk
                      clear htk hbt
                      go_wp2
                      go_round
                      case rel => exact ⟨b, t + 1, by omega, by go_num, rfl, HF2.out.keep (.inr (.inr HK.out))⟩
                      case measure => simp [intOf]; omega
                    · have hq3 := ne_bool htk
                      have HK := Lib.hid htk
                      have HG : Hid (t ∉ lfs c a) := fun hm => by rw [(gm_bit c t a).2 hm] at hbt; cases hbt
                      clear htk hbt
                      go_wp2
                      go_round
                      case rel => exact ⟨false, t + 1, by omega, by go_num, rfl, FrT.drop HE.out HG.out HK.out⟩
                      case measure => simp [intOf]; omega
                  · have HG : Hid (t ∈ lfs c a) := (gm_bit c t a).1 hbt
                    rw [hbt] at hob2
                    clear hbt
                    go_wp2
                    go_round
                    case rel => exact ⟨b, t + 1, by omega, by go_num, rfl, HF2.out.keep (.inr (.inl HG.out))⟩
                    case measure => simp [intOf]; omega
                · have hq2 := neq_bool he
                  have HE := Lib.hid he
                  clear he hob2 hsr2
                  go_wp2
                  go_round
                  case rel => exact ⟨b, t + 1, by omega, by go_num, rfl, HF2.out.keep (.inl HE.out)⟩
                  case measure => simp [intOf]; omega
              · obtain rfl : t = c.length + 1 := by omega
                have hdt : decide (((c.length + 1 : Nat) : Int) < (c.length : Int) + 1) = false := decide_eq_false (by omega)
                have HD : Hid (b = freeC c (lfs c a) a k) := HF2.out.done hc ha (by omega)
                rcases b with _ | _
                · go_wp2
                  go_roundw
                  case rel => exact ⟨k + 1, by omega, by go_num, rfl, rfl, fun j hj => by
                    rcases Nat.lt_or_ge j k with h' | h'
                    · exact HN.out j h'
                    · obtain rfl : j = k := by omega
                      exact HD.out.symm, by first | rfl | trivial⟩
                  case measure => simp [intOf]; omega
                · have HK : Hid (lf c a = k) := minF_is (by omega) HD.out.symm HN.out
                  have hcell := (HB.out.cell (p := ⟨b0, off0 + k, none⟩) hb0).trans (HC.out k hkl)
                  have HX : Hid (nx (treeN c) k = nx c a) := by unfold Hid; rw [← HK.out]; exact nx_treeN hc hlt
                  have hO := HO.out
                  have hln : (ints (c.take a)).length ≤ 1000000000000 := by rw [ints_len, List.length_take]; omega
                  have hsz := HB.out.size
                  go_wp2_with (at_builtin; refine app_int wr _ rfl _ _ rfl w.heap.size _ (ints (c.take a)) rfl hO rfl hln hsz ?_; intro v2 w4 hown4 hb4)
                  rw [HX.out] at hown4
                  have HT : Hid (ints (c.take a) ++ [(nx c a : Int)] = ints (c.take (a + 1))) := by unfold Hid; rw [List.take_succ_eq_append_getElem hlt, ints_append, nx_get hlt]; rfl
                  rw [HT.out] at hown4
                  go_wp2
                  go_roundw
                  case rel => exact ⟨a + 1, by omega, by rw [gm_succ, HK.out], hown4, HB.out.trans hb4⟩
                  case measure => exact meas_len hown4 HLA.out hlt

        · exfalso
          obtain ⟨f1, f2, f3⟩ := HF.out
          have := HN.out (lf c a) (by omega)
          rw [f2] at this; cases this
    · obtain rfl : a = c.length := by omega
      have HO := Lib.hid ho
      clear ho
      go_wp2
      go_ret2
      exact ⟨_, rfl, by have := HO.out; rwa [List.take_length] at this, hbw⟩
end Go.Proofs.Ytlbiioncpeondaa
