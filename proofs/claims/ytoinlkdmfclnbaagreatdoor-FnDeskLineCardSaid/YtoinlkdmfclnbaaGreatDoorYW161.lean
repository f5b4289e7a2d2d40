/- Bundle W161. -/
import Derived.Test.YtoinlkdmfclnbaaGreatDoorYV16
import Derived.Test.YtoinlkdmfclnbaaGreatDoorYW160
namespace Go.Proofs.YtoinlkdmfclnbaaGreatDoor
set_option linter.unusedVariables false
section
open Go.RowKit
def DrawnLn (w : World) (e : Ending) (w' : World) : Prop :=
 ∃ A n c xs P m d yss t, e = .returned (.tuple #[.agg #[.slice A n c, .slice P m d], .string t]) ∧ RdD w' w'.heap.size A n c xs P m d yss ∧ t.size ≤ 20 ∧ Below w.heap.size w w'
set_option maxRecDepth 100000 in
set_option maxHeartbeats 3200000 in
theorem drawDeskLine_c (A : Option Addr) (n c : Nat) (bs : List Nat) (w : World) (h : RdB w w.heap.size A n c bs) :
    Calls Tryz.prog 8 #[.slice A n c] w (DrawnLn w) := by
 have hR1 := Two.made w 26 (.slice none 0 0) (.slice none 0 0)
 have hb1 := below_new w (.cells #[.slice none 0 0, .slice none 0 0] 26)
 have hB1 := h.below hb1
 go_enter Tryz.func8, Tryz.ntmps8
 go_wp2_with fail
 generalize w.alloc (.cells #[.slice none 0 0, .slice none 0 0] 26) = w1 at *
 refine (openB_c w.heap.size A n c bs _ hB1 (by have := hb1.size; omega)).mono ?_
 rintro e w2 ⟨rfl, hr2, hb2⟩
 have hR2 := hR1.up hb2
 have hz2 := hb2.size
 have hz1 := hR1.1
 have hbw2 := bt hb1 hb2
 clear hR1 hb1 hB1 hb2
 go_wp2_with fail
 refine (desk_c w1.heap.size w.heap.size 0 12 _ hr2 (by omega) (by omega)).mono ?_
 rintro e w3 ⟨A3, n3, c3, xs, P3, m3, d3, yss, rfl, hD, hF, hn, hr3, hc3⟩
 have hgl := hr2.lt
 have hR3 := hR2.chg hc3 (.inl hz1)
 have hB3 := hbw2.trans (hc3.belowLo (B := w.heap.size) (by omega) (by omega))
 have hz3 := hc3.size
 have hbA := below_new w3 (.cells #[.slice A3 n3 c3, .slice P3 m3 d3] 26)
 have hT4 := Two.made w3 26 (.slice A3 n3 c3) (.slice P3 m3 d3)
 have hR4 := hR3.up hbA
 have hB4 := bt hB3 hbA
 have hz4 := hbA.size
 have hr4 := hr3.al (.cells #[.slice A3 n3 c3, .slice P3 m3 d3] 26)
 have hD4 : RdD _ _ A3 n3 c3 xs P3 m3 d3 yss := ⟨hD.1.up hbA, hD.2.up hbA⟩
 have hF4 := hF.upF hD hbA
 clear hR2 hr2 hc3 hR3 hB3 hbA hr3 hbw2 hD hF
 go_upto_region 3 with fail
 generalize w3.alloc (.cells #[.slice A3 n3 c3, .slice P3 m3 d3] 26) = w5 at *
 have hR5 := hR4
 have hT5 := hT4
 have hD5 := hD4
 have hF5 := hF4
 have hB5 := hB4
 have hr5 := hr4
 have hz5 : w3.heap.size ≤ w5.heap.size := hz4
 clear hR4 hT4 hD4 hF4 hB4 hr4
 obtain ⟨_, t0, t1, t2, t3⟩ := id hT5
 obtain ⟨_, r0, r1, r2, r3⟩ := id hR5
 have hR8 := (hR5.set0 (.slice A3 n3 c3)).set1 (.slice P3 m3 d3)
 have hC8 : Chg w.heap.size (w.heap.size + 1) w5 ((w5.setCell ⟨w.heap.size, 0, none⟩ (.slice A3 n3 c3)).setCell ⟨w.heap.size, 1, none⟩ (.slice P3 m3 d3)) :=
  ((Chg.refl _ _ w5).setCell (p := ⟨w.heap.size, 0, none⟩) (Nat.le_refl _) (Nat.lt_succ_self _) _).setCell (p := ⟨w.heap.size, 1, none⟩) (Nat.le_refl _) (Nat.lt_succ_self _) _
 have hD8 := hD5.chgF hF5 hC8 (by omega)
 have hF8 := hF5.chgF hD5 hC8 (by omega)
 have hr8 := hr5.chg hC8 (Nat.le_refl _) (.inr (by omega))
 have hB8 := hB5.trans (hC8.belowLo (B := w.heap.size) (Nat.le_refl _) (by omega))
 have hz8 := hC8.size
 have hV8 := hT5.chg hC8 (.inr (by omega))
 have K0 : RdD w5.drew w5.drew.heap.size A3 n3 c3 xs P3 m3 d3 yss := hD5
 have K8 : RdD (World.drew ((w5.setCell ⟨w.heap.size, 0, none⟩ (.slice A3 n3 c3)).setCell ⟨w.heap.size, 1, none⟩ (.slice P3 m3 d3))) (World.drew ((w5.setCell ⟨w.heap.size, 0, none⟩ (.slice A3 n3 c3)).setCell ⟨w.heap.size, 1, none⟩ (.slice P3 m3 d3))).heap.size A3 n3 c3 xs P3 m3 d3 yss := hD8
 have V0 : Two w5.drew w3.heap.size (.slice A3 n3 c3) (.slice P3 m3 d3) := hT5
 have V8 : Two (World.drew ((w5.setCell ⟨w.heap.size, 0, none⟩ (.slice A3 n3 c3)).setCell ⟨w.heap.size, 1, none⟩ (.slice P3 m3 d3))) w3.heap.size (.slice A3 n3 c3) (.slice P3 m3 d3) := hV8
 have hne : ¬ w3.heap.size = w.heap.size := by omega
 have hne' : ¬ w.heap.size = w3.heap.size := by omega
 have KR0 : Rd w5.drew w5.drew.heap.size A3 n3 c3 xs := K0.1
 have KR8 : Rd (World.drew ((w5.setCell ⟨w.heap.size, 0, none⟩ (.slice A3 n3 c3)).setCell ⟨w.heap.size, 1, none⟩ (.slice P3 m3 d3))) (World.drew ((w5.setCell ⟨w.heap.size, 0, none⟩ (.slice A3 n3 c3)).setCell ⟨w.heap.size, 1, none⟩ (.slice P3 m3 d3))).heap.size A3 n3 c3 xs := K8.1
 have J0 : Rdr w5.drew w.heap.size w1.heap.size (0 + 1000) := hr5
 have J8 : Rdr (World.drew ((w5.setCell ⟨w.heap.size, 0, none⟩ (.slice A3 n3 c3)).setCell ⟨w.heap.size, 1, none⟩ (.slice P3 m3 d3))) w.heap.size w1.heap.size (0 + 1000) := hr8
 have L0 : Two w5.drew w.heap.size (.slice none 0 0) (.slice none 0 0) := hR5
 have L8 : Two (World.drew ((w5.setCell ⟨w.heap.size, 0, none⟩ (.slice A3 n3 c3)).setCell ⟨w.heap.size, 1, none⟩ (.slice P3 m3 d3))) w.heap.size (.slice A3 n3 c3) (.slice P3 m3 d3) := hR8
 have B0 : Below w.heap.size w w5.drew := hB5.drew
 have B8 : Below w.heap.size w (World.drew ((w5.setCell ⟨w.heap.size, 0, none⟩ (.slice A3 n3 c3)).setCell ⟨w.heap.size, 1, none⟩ (.slice P3 m3 d3))) := hB8.drew
 have z0 : w5.heap.size ≤ w5.drew.heap.size := Nat.le_refl _
 have z8 : w5.heap.size ≤ (World.drew ((w5.setCell ⟨w.heap.size, 0, none⟩ (.slice A3 n3 c3)).setCell ⟨w.heap.size, 1, none⟩ (.slice P3 m3 d3))).heap.size := hz8
 have F0 : FreshD w5.drew (w2.heap.size + 1) A3 n3 c3 P3 m3 d3 := hF5
 have F8 : FreshD (World.drew ((w5.setCell ⟨w.heap.size, 0, none⟩ (.slice A3 n3 c3)).setCell ⟨w.heap.size, 1, none⟩ (.slice P3 m3 d3))) (w2.heap.size + 1) A3 n3 c3 P3 m3 d3 := hF8
 have hq : ∀ q, (Value.slice A3 n3 c3).ownBlock = some q → w1.heap.size + 1 ≤ q := fun q hq => by have := hF5.1 q hq; omega
 clear hV8 hD8 hF8 hr8 hB8 hC8 hR8 hD5 hF5 hr5 hB5 hR5
 have Y0 := Lib.hid (show World.cell? w5.drew ⟨w3.heap.size, 0, none⟩ = some (.slice A3 n3 c3) ∧ World.cell? w5.drew ⟨w3.heap.size, 1, none⟩ = some (.slice P3 m3 d3) from ⟨V0.2.1, V0.2.2.1⟩)
 have KF : Hid (∀ (wz : World) (y z : Value), World.cell? wz ⟨w3.heap.size, 0, none⟩ = some (.slice A3 n3 c3) ∧ World.cell? wz ⟨w3.heap.size, 1, none⟩ = some (.slice P3 m3 d3) → World.cell? ((wz.setCell ⟨w.heap.size, 0, none⟩ y).setCell ⟨w.heap.size, 1, none⟩ z) ⟨w3.heap.size, 0, none⟩ = some (.slice A3 n3 c3) ∧ World.cell? ((wz.setCell ⟨w.heap.size, 0, none⟩ y).setCell ⟨w.heap.size, 1, none⟩ z) ⟨w3.heap.size, 1, none⟩ = some (.slice P3 m3 d3)) := Lib.hid (fun wz y z h => by rw [World.cell?_setCell_other _ _ _ _ (by intro e; exact hne' (congrArg Addr.block e)), World.cell?_setCell_other _ _ _ _ (by intro e; exact hne' (congrArg Addr.block e)), World.cell?_setCell_other _ _ _ _ (by intro e; exact hne' (congrArg Addr.block e)), World.cell?_setCell_other _ _ _ _ (by intro e; exact hne' (congrArg Addr.block e))]; exact h)
 have V00 := Lib.hid V0
 have V88 := Lib.hid V8
 clear V0 V8 t0 t1
 go_region_held3 (fun w' => World.cell? w' ⟨w3.heap.size, 0, none⟩ = some (.slice A3 n3 c3) ∧ World.cell? w' ⟨w3.heap.size, 1, none⟩ = some (.slice P3 m3 d3))
  (first
   | exact Y0.out
   | exact YY6.out
   | exact KF.out _ _ _ Y0.out
   | exact KF.out _ _ _ YY6.out)
  (first
   | (go_at_call 40; refine (line20_c w1.heap.size w.heap.size (0 + 1000) n3 c3 A3 xs _ (by first | with_reducible exact J0 | with_reducible exact J8) (by first | with_reducible exact KR0 | with_reducible exact KR8) hn (by omega) (w1.heap.size + 1) hq (Nat.le_refl _)).mono ?_; rintro e w6 ⟨t6, rfl, hS6, hr6, hc6⟩; (first | (have hR6 := L0.chg hc6 (.inl hz1); have hD6 := K0.chgF F0 hc6 (by omega); have hB6 := B0.trans (hc6.belowLo (B := w.heap.size) (by omega) (by omega)); have hF6 := F0.chgF K0 hc6 (by omega); have hV6 := V00.out.chg hc6 (.inr (by omega))) | (have hR6 := L8.chg hc6 (.inl hz1); have hD6 := K8.chgF F8 hc6 (by omega); have hB6 := B8.trans (hc6.belowLo (B := w.heap.size) (by omega) (by omega)); have hF6 := F8.chgF K8 hc6 (by omega); have hV6 := V88.out.chg hc6 (.inr (by omega)))); have hz6 := hc6.size; obtain ⟨_, s0, s1, s2, s3⟩ := id hR6; have hcw6 : Chg w.heap.size (w.heap.size + 1) w6 ((w6.setCell ⟨w.heap.size, 0, none⟩ (.slice A3 n3 c3)).setCell ⟨w.heap.size, 1, none⟩ (.slice P3 m3 d3)) := ((Chg.refl _ _ w6).setCell (p := ⟨w.heap.size, 0, none⟩) (Nat.le_refl _) (Nat.lt_succ_self _) _).setCell (p := ⟨w.heap.size, 1, none⟩) (Nat.le_refl _) (Nat.lt_succ_self _) _; have HD7 := Lib.hid (hD6.chgF hF6 hcw6 (by omega)); have HT7 := Lib.hid ((hR6.set0 (.slice A3 n3 c3)).set1 (.slice P3 m3 d3)); have HB7 := Lib.hid (hB6.trans (hcw6.belowLo (B := w.heap.size) (Nat.le_refl _) (by omega))); have YY6 := Lib.hid (show World.cell? w6 ⟨w3.heap.size, 0, none⟩ = some (.slice A3 n3 c3) ∧ World.cell? w6 ⟨w3.heap.size, 1, none⟩ = some (.slice P3 m3 d3) from ⟨hV6.2.1, hV6.2.2.1⟩); have HT6 := Lib.hid hR6; have HD6 := Lib.hid hD6; have HB6 := Lib.hid hB6; clear hcw6 hF6 hV6 hR6 hD6 hB6 hr6 hc6))
 all_goals
  go_wp2_with fail
  (try simp only [Exit.inBlock, Exit.then])
  first
   | (refine bodyPost_ret (v := .tuple #[.agg #[.slice A3 n3 c3, .slice P3 m3 d3], .string t6]) ?_ rfl ⟨A3, n3, c3, xs, P3, m3, d3, yss, _, rfl, HD7.out, hS6, HB7.out⟩; exact Eq.trans (results_two_tmp (p := 2) (u := 3) rfl _ _ w.heap.size _ _ _ rfl HT7.out Tryz.underlying26 rfl desk_size) rfl)
   | (refine bodyPost_ret (v := .tuple #[.agg #[.slice A3 n3 c3, .slice P3 m3 d3], .string t6]) ?_ rfl ⟨A3, n3, c3, xs, P3, m3, d3, yss, _, rfl, HD6.out, hS6, HB6.out⟩; exact Eq.trans (results_two_tmp (p := 2) (u := 3) rfl _ _ w.heap.size _ _ _ rfl HT6.out Tryz.underlying26 rfl desk_size) rfl)
end
end Go.Proofs.YtoinlkdmfclnbaaGreatDoor
