/- Walks: the law FnExactDeskRun. Printed by gen_w99.py. -/
import Derived.Test.YtnpjelekpkgbpaaV14
namespace Go.Proofs.Ytnpjelekpkgbpaa
set_option linter.unusedVariables false
open Go.RowKit
set_option maxRecDepth 100000 in
set_option maxHeartbeats 6400000 in
theorem walk_FnExactDeskRun (A P : Option Addr) (n c m d : Nat) (xs : List Int) (yss : List (List Int)) (E : Option Addr) (N C : Nat) (ds : List Dd) (w : World) (X0 : RdD w w.heap.size A n c xs P m d yss) (E0 : RdE w w.heap.size E N C ds ∧ ∀ k, k < N → (dS ds k).size ≤ maxLen) :
    Calls Try.prog 5 #[.agg #[.slice A n c, .slice P m d], .slice E N C] w fun e w' => e = .returned (.bool true) ∧ Below w.heap.size w w' := by
  have hmE := E0.1.max
  have hcE := E0.1.cap
  unfold maxLen at hmE
  have HB1 : Below w.heap.size w (w.alloc (.cells #[.slice A n c, .slice P m d] 25)) := below_new _ _
  have TA1 := Two.made w 25 (.slice A n c) (.slice P m d)
  go_enter Try.func5, Try.ntmps5
  go_wp2_with fail
  generalize (w.alloc (.cells #[.slice A n c, .slice P m d] 25)) = w1 at *
  have hz1 := HB1.size
  refine (szDesk_t A P n c m d xs yss _ (X0.up HB1)).mono ?_
  rintro e w2 ⟨r, rfl, hb2, hr0, hr1, hr2⟩
  have HB2 : Below w.heap.size w w2 := bt HB1 hb2
  have TA2 : Two w2 w.heap.size (.slice A n c) (.slice P m d) := TA1.up hb2
  have hz2 := hb2.size
  clear HB1 TA1
  by_cases hneg : r < 0
  · go_wp2_with fail
    go_ret
    exact ⟨rfl, HB2⟩
  have hfit := hr2 (by omega)
  obtain ⟨hx, hy⟩ := small_of hfit
  go_wp2_with fail
  refine (szDeedS_c E N C ds r _ (E0.1.up HB2) E0.2 (by omega) hr1).mono ?_
  rintro e w3 ⟨r2, rfl, hb3, hq0, hq1, hq2⟩
  have HB3 : Below w.heap.size w w3 := bt HB2 hb3
  have TA3 : Two w3 w.heap.size (.slice A n c) (.slice P m d) := TA2.up hb3
  have hz3 := hb3.size
  clear HB2 TA2
  by_cases hneg2 : r2 < 0
  · go_wp2_with fail
    go_ret
    exact ⟨rfl, HB3⟩
  obtain ⟨hs2, hs3⟩ := hq2 (by omega)
  have hlE := E0.1.len
  have hN : N ≤ 1048576 := by omega
  have hsh : Shrt ds := fun k hk => by have := hs3 k hk; omega
  obtain ⟨s1, s2, s3, ⟨hl1, hl2, hl3, hl4, hl5⟩, hrun, KS, KI⟩ := deskRun_any xs yss ds hsh
  have HQS : Hid ((eqB s1 s1 && eqBB s2 s2) = true) := Lib.hid (by rw [eqB_self, eqBB_self]; rfl)
  have HQX : Hid ((eqB xs xs && eqBB yss yss) = true) := Lib.hid (by rw [eqB_self, eqBB_self]; rfl)
  have HQE : Hid (eqDs ds ds = true) := Lib.hid (eqDs_self ds)
  have hqm : ((s3 : Int) != (s3 : Int)) = false := by simp
  clear hq2 hr2 hl4 hrun hs3 hsh hlE
  obtain ⟨_, qTA0, qTA1, _, _⟩ := id TA3
  go_wp2_with fail
  clear qTA0 qTA1
  refine (toDesk_d A P n c m d xs yss _ (X0.up HB3) hx hy).mono ?_
  rintro e w4 ⟨A4, n4, c4, P4, m4, d4, rfl, Q4, hb4⟩
  have HB4 : Below w.heap.size w w4 := bt HB3 hb4
  have TA4 : Two w4 w.heap.size (.slice A n c) (.slice P m d) := TA3.up hb4
  have hz4 := hb4.size
  clear HB3 TA3
  go_wp2_with fail
  refine (toDeedS_c E N C ds _ (E0.1.up HB4) hN).mono ?_
  rintro e w5 ⟨rfl, L5, hb5⟩
  have HB5 : Below w.heap.size w w5 := bt HB4 hb5
  have TA5 : Two w5 w.heap.size (.slice A n c) (.slice P m d) := TA4.up hb5
  have Q5 : OwnD w5 w3.heap.size w4.heap.size A4 n4 c4 xs P4 m4 d4 yss := Q4.up hb5
  have hz5 := hb5.size
  clear HB4 TA4 Q4
  go_wp2_with fail
  refine (KS _ _ _ _ _ _ _ _ _ _ Q5.rd L5.rd).mono ?_
  rintro e w6 ⟨A6, n6, c6, P6, m6, d6, rfl, S6, hb6⟩
  have HB6 : Below w.heap.size w w6 := bt HB5 hb6
  have TA6 : Two w6 w.heap.size (.slice A n c) (.slice P m d) := TA5.up hb6
  have Q6 : OwnD w6 w3.heap.size w4.heap.size A4 n4 c4 xs P4 m4 d4 yss := Q5.up hb6
  have L6 : OwnE w6 w4.heap.size w5.heap.size (some ⟨w4.heap.size, 0, none⟩) N N ds := L5.up hb6
  have hz6 := hb6.size
  clear HB5 TA5 Q5 L5
  have TS7 := Two.made w6 30 (.slice A6 n6 c6) (.slice P6 m6 d6)
  have hb7 : Below w6.heap.size w6 (w6.alloc (.cells #[.slice A6 n6 c6, .slice P6 m6 d6] 30)) := below_new _ _
  have HB7 : Below w.heap.size w (w6.alloc (.cells #[.slice A6 n6 c6, .slice P6 m6 d6] 30)) := bt HB6 hb7
  have TA7 : Two (w6.alloc (.cells #[.slice A6 n6 c6, .slice P6 m6 d6] 30)) w.heap.size (.slice A n c) (.slice P m d) := TA6.up hb7
  have S7 : RdD (w6.alloc (.cells #[.slice A6 n6 c6, .slice P6 m6 d6] 30)) w6.heap.size A6 n6 c6 s1 P6 m6 d6 s2 := S6.upB hb7 (by omega)
  have hz7 := hb7.size
  clear HB6 TA6 S6
  obtain ⟨_, qTA0, qTA1, _, _⟩ := id TA7
  go_wp2_with fail
  clear qTA0 qTA1
  generalize (w6.alloc (.cells #[.slice A6 n6 c6, .slice P6 m6 d6] 30)) = w7 at *
  have hlTS := TS7.1
  refine (toDesk_d A P n c m d xs yss _ (X0.up HB7) hx hy).mono ?_
  rintro e w8 ⟨A8, n8, c8, P8, m8, d8, rfl, Y8, hb8⟩
  have HB8 : Below w.heap.size w w8 := bt HB7 hb8
  have TA8 : Two w8 w.heap.size (.slice A n c) (.slice P m d) := TA7.up hb8
  have S8 : RdD w8 w6.heap.size A6 n6 c6 s1 P6 m6 d6 s2 := S7.upB hb8 (by omega)
  have TS8 : Two w8 w6.heap.size (.slice A6 n6 c6) (.slice P6 m6 d6) := TS7.up hb8
  have hz8 := hb8.size
  clear HB7 TA7 S7 TS7
  have TX9 := Two.made w8 30 (.slice A8 n8 c8) (.slice P8 m8 d8)
  have hb9 : Below w8.heap.size w8 (w8.alloc (.cells #[.slice A8 n8 c8, .slice P8 m8 d8] 30)) := below_new _ _
  have HB9 : Below w.heap.size w (w8.alloc (.cells #[.slice A8 n8 c8, .slice P8 m8 d8] 30)) := bt HB8 hb9
  have TA9 : Two (w8.alloc (.cells #[.slice A8 n8 c8, .slice P8 m8 d8] 30)) w.heap.size (.slice A n c) (.slice P m d) := TA8.up hb9
  have S9 : RdD (w8.alloc (.cells #[.slice A8 n8 c8, .slice P8 m8 d8] 30)) w6.heap.size A6 n6 c6 s1 P6 m6 d6 s2 := S8.upB hb9 (by omega)
  have TS9 : Two (w8.alloc (.cells #[.slice A8 n8 c8, .slice P8 m8 d8] 30)) w6.heap.size (.slice A6 n6 c6) (.slice P6 m6 d6) := TS8.up hb9
  have Y9 : OwnD (w8.alloc (.cells #[.slice A8 n8 c8, .slice P8 m8 d8] 30)) w7.heap.size w8.heap.size A8 n8 c8 xs P8 m8 d8 yss := Y8.up hb9
  have hz9 := hb9.size
  clear HB8 TA8 S8 TS8 Y8
  go_wp2_with fail
  generalize (w8.alloc (.cells #[.slice A8 n8 c8, .slice P8 m8 d8] 30)) = w9 at *
  have hlTX := TX9.1
  refine (toDeedS_c E N C ds _ (E0.1.up HB9) hN).mono ?_
  rintro e w10 ⟨rfl, Z10, hb10⟩
  have HB10 : Below w.heap.size w w10 := bt HB9 hb10
  have TA10 : Two w10 w.heap.size (.slice A n c) (.slice P m d) := TA9.up hb10
  have S10 : RdD w10 w6.heap.size A6 n6 c6 s1 P6 m6 d6 s2 := S9.upB hb10 (by omega)
  have TS10 : Two w10 w6.heap.size (.slice A6 n6 c6) (.slice P6 m6 d6) := TS9.up hb10
  have Y10 : OwnD w10 w7.heap.size w8.heap.size A8 n8 c8 xs P8 m8 d8 yss := Y9.up hb10
  have TX10 : Two w10 w8.heap.size (.slice A8 n8 c8) (.slice P8 m8 d8) := TX9.up hb10
  have hz10 := hb10.size
  clear HB9 TA9 S9 TS9 Y9 TX9
  obtain ⟨_, qTX0, qTX1, _, _⟩ := id TX10
  go_wp2_with fail
  clear qTX0 qTX1
  refine (KI _ _ _ _ _ _ _ _ _ _ Y10.rd Z10.rd).mono ?_
  rintro e w11 ⟨A11, n11, c11, P11, m11, d11, rfl, Gd11, hb11⟩
  have HB11 : Below w.heap.size w w11 := bt HB10 hb11
  have TA11 : Two w11 w.heap.size (.slice A n c) (.slice P m d) := TA10.up hb11
  have S11 : RdD w11 w6.heap.size A6 n6 c6 s1 P6 m6 d6 s2 := S10.upB hb11 (by omega)
  have TS11 : Two w11 w6.heap.size (.slice A6 n6 c6) (.slice P6 m6 d6) := TS10.up hb11
  have Y11 : OwnD w11 w7.heap.size w8.heap.size A8 n8 c8 xs P8 m8 d8 yss := Y10.up hb11
  have TX11 : Two w11 w8.heap.size (.slice A8 n8 c8) (.slice P8 m8 d8) := TX10.up hb11
  have Z11 : OwnE w11 w9.heap.size w10.heap.size (some ⟨w9.heap.size, 0, none⟩) N N ds := Z10.up hb11
  have hz11 := hb11.size
  clear HB10 TA10 S10 TS10 Y10 TX10 Z10
  have TG12 := Two.made w11 30 (.slice A11 n11 c11) (.slice P11 m11 d11)
  have hb12 : Below w11.heap.size w11 (w11.alloc (.cells #[.slice A11 n11 c11, .slice P11 m11 d11] 30)) := below_new _ _
  have HB12 : Below w.heap.size w (w11.alloc (.cells #[.slice A11 n11 c11, .slice P11 m11 d11] 30)) := bt HB11 hb12
  have TA12 : Two (w11.alloc (.cells #[.slice A11 n11 c11, .slice P11 m11 d11] 30)) w.heap.size (.slice A n c) (.slice P m d) := TA11.up hb12
  have S12 : RdD (w11.alloc (.cells #[.slice A11 n11 c11, .slice P11 m11 d11] 30)) w6.heap.size A6 n6 c6 s1 P6 m6 d6 s2 := S11.upB hb12 (by omega)
  have TS12 : Two (w11.alloc (.cells #[.slice A11 n11 c11, .slice P11 m11 d11] 30)) w6.heap.size (.slice A6 n6 c6) (.slice P6 m6 d6) := TS11.up hb12
  have Y12 : OwnD (w11.alloc (.cells #[.slice A11 n11 c11, .slice P11 m11 d11] 30)) w7.heap.size w8.heap.size A8 n8 c8 xs P8 m8 d8 yss := Y11.up hb12
  have TX12 : Two (w11.alloc (.cells #[.slice A11 n11 c11, .slice P11 m11 d11] 30)) w8.heap.size (.slice A8 n8 c8) (.slice P8 m8 d8) := TX11.up hb12
  have Z12 : OwnE (w11.alloc (.cells #[.slice A11 n11 c11, .slice P11 m11 d11] 30)) w9.heap.size w10.heap.size (some ⟨w9.heap.size, 0, none⟩) N N ds := Z11.up hb12
  have Gd12 : OwnD (w11.alloc (.cells #[.slice A11 n11 c11, .slice P11 m11 d11] 30)) w10.heap.size w11.heap.size A11 n11 c11 s1 P11 m11 d11 s2 := Gd11.up hb12
  have hz12 := hb12.size
  clear HB11 TA11 S11 TS11 Y11 TX11 Z11 Gd11
  obtain ⟨_, qTS0, qTS1, _, _⟩ := id TS12
  go_wp2_with fail
  clear qTS0 qTS1
  generalize (w11.alloc (.cells #[.slice A11 n11 c11, .slice P11 m11 d11] 30)) = w12 at *
  have hlTG := TG12.1
  refine (eqDesk_c A11 P11 A6 P6 n11 c11 m11 d11 n6 c6 m6 d6 _ _ _ _ _ Gd12.rd (S12.moreB (by omega))).mono ?_
  rintro e w13 ⟨rfl, hb13⟩
  rw [HQS.out]
  have HB13 : Below w.heap.size w w13 := bt HB12 hb13
  have TA13 : Two w13 w.heap.size (.slice A n c) (.slice P m d) := TA12.up hb13
  have S13 : RdD w13 w6.heap.size A6 n6 c6 s1 P6 m6 d6 s2 := S12.upB hb13 (by omega)
  have TS13 : Two w13 w6.heap.size (.slice A6 n6 c6) (.slice P6 m6 d6) := TS12.up hb13
  have Y13 : OwnD w13 w7.heap.size w8.heap.size A8 n8 c8 xs P8 m8 d8 yss := Y12.up hb13
  have TX13 : Two w13 w8.heap.size (.slice A8 n8 c8) (.slice P8 m8 d8) := TX12.up hb13
  have Z13 : OwnE w13 w9.heap.size w10.heap.size (some ⟨w9.heap.size, 0, none⟩) N N ds := Z12.up hb13
  have Gd13 : OwnD w13 w10.heap.size w11.heap.size A11 n11 c11 s1 P11 m11 d11 s2 := Gd12.up hb13
  have TG13 : Two w13 w11.heap.size (.slice A11 n11 c11) (.slice P11 m11 d11) := TG12.up hb13
  have hz13 := hb13.size
  clear HB12 TA12 S12 TS12 Y12 TX12 Z12 Gd12 TG12
  go_upto_region 14 with fail
  have HB14 : Below w.heap.size w w13.drew := bd HB13 1
  have TA14 : Two w13.drew w.heap.size (.slice A n c) (.slice P m d) := TA13.dn 1
  have S14 : RdD w13.drew w6.heap.size A6 n6 c6 s1 P6 m6 d6 s2 := S13.dnB 1
  have TS14 : Two w13.drew w6.heap.size (.slice A6 n6 c6) (.slice P6 m6 d6) := TS13.dn 1
  have Y14 : OwnD w13.drew w7.heap.size w8.heap.size A8 n8 c8 xs P8 m8 d8 yss := Y13.dn 1
  have TX14 : Two w13.drew w8.heap.size (.slice A8 n8 c8) (.slice P8 m8 d8) := TX13.dn 1
  have Z14 : OwnE w13.drew w9.heap.size w10.heap.size (some ⟨w9.heap.size, 0, none⟩) N N ds := Z13.dn 1
  have Gd14 : OwnD w13.drew w10.heap.size w11.heap.size A11 n11 c11 s1 P11 m11 d11 s2 := Gd13.dn 1
  have TG14 : Two w13.drew w11.heap.size (.slice A11 n11 c11) (.slice P11 m11 d11) := TG13.dn 1
  have hz14 : w13.heap.size ≤ w13.drew.heap.size := Nat.le_refl _
  clear HB13 TA13 S13 TS13 Y13 TX13 Z13 Gd13 TG13
  go_region_held3 (fun w' => World.cell? w' ⟨w8.heap.size, 0, none⟩ = some (.slice A8 n8 c8) ∧ World.cell? w' ⟨w8.heap.size, 1, none⟩ = some (.slice P8 m8 d8) ∧ World.cell? w' ⟨w.heap.size, 0, none⟩ = some (.slice A n c) ∧ World.cell? w' ⟨w.heap.size, 1, none⟩ = some (.slice P m d))
    (first
      | exact ⟨TX14.2.1, TX14.2.2.1, TA14.2.1, TA14.2.2.1⟩
      | exact ⟨TX15.2.1, TX15.2.2.1, TA15.2.1, TA15.2.2.1⟩
      | exact ⟨TX16.2.1, TX16.2.2.1, TA16.2.1, TA16.2.2.1⟩)
    (first
      | (go_at_call 11; refine (toDesk_d A P n c m d xs yss _ (X0.up HB14) hx hy).mono ?_; rintro e w15 ⟨A15, n15, c15, P15, m15, d15, rfl, h15, hb15⟩; have hz15 := hb15.size; have HB15 : Below w.heap.size w w15 := bt HB14 hb15; have TA15 : Two w15 w.heap.size (.slice A n c) (.slice P m d) := TA14.up hb15; have S15 : RdD w15 w6.heap.size A6 n6 c6 s1 P6 m6 d6 s2 := S14.upB hb15 (by omega); have TS15 : Two w15 w6.heap.size (.slice A6 n6 c6) (.slice P6 m6 d6) := TS14.up hb15; have Y15 : OwnD w15 w7.heap.size w8.heap.size A8 n8 c8 xs P8 m8 d8 yss := Y14.up hb15; have TX15 : Two w15 w8.heap.size (.slice A8 n8 c8) (.slice P8 m8 d8) := TX14.up hb15; have Z15 : OwnE w15 w9.heap.size w10.heap.size (some ⟨w9.heap.size, 0, none⟩) N N ds := Z14.up hb15; have Gd15 : OwnD w15 w10.heap.size w11.heap.size A11 n11 c11 s1 P11 m11 d11 s2 := Gd14.up hb15; have TG15 : Two w15 w11.heap.size (.slice A11 n11 c11) (.slice P11 m11 d11) := TG14.up hb15)
      | (go_at_call 14; refine (eqDesk_c A8 P8 A15 P15 n8 c8 m8 d8 n15 c15 m15 d15 xs xs yss yss _ Y15.rd h15.rd).mono ?_; rintro e w16 ⟨rfl, hb16⟩; rw [HQX.out]; have hz16 := hb16.size; have HB16 : Below w.heap.size w w16 := bt HB15 hb16; have TA16 : Two w16 w.heap.size (.slice A n c) (.slice P m d) := TA15.up hb16; have S16 : RdD w16 w6.heap.size A6 n6 c6 s1 P6 m6 d6 s2 := S15.upB hb16 (by omega); have TS16 : Two w16 w6.heap.size (.slice A6 n6 c6) (.slice P6 m6 d6) := TS15.up hb16; have Y16 : OwnD w16 w7.heap.size w8.heap.size A8 n8 c8 xs P8 m8 d8 yss := Y15.up hb16; have TX16 : Two w16 w8.heap.size (.slice A8 n8 c8) (.slice P8 m8 d8) := TX15.up hb16; have Z16 : OwnE w16 w9.heap.size w10.heap.size (some ⟨w9.heap.size, 0, none⟩) N N ds := Z15.up hb16; have Gd16 : OwnD w16 w10.heap.size w11.heap.size A11 n11 c11 s1 P11 m11 d11 s2 := Gd15.up hb16; have TG16 : Two w16 w11.heap.size (.slice A11 n11 c11) (.slice P11 m11 d11) := TG15.up hb16))
  all_goals
    go_wp2_with fail
    refine (toDeedS_c E N C ds _ (E0.1.up HB16) hN).mono ?_
    rintro e w17 ⟨rfl, L17, hb17⟩
    have HB17 : Below w.heap.size w w17 := bt HB16 hb17
    have TA17 : Two w17 w.heap.size (.slice A n c) (.slice P m d) := TA16.up hb17
    have S17 : RdD w17 w6.heap.size A6 n6 c6 s1 P6 m6 d6 s2 := S16.upB hb17 (by omega)
    have TS17 : Two w17 w6.heap.size (.slice A6 n6 c6) (.slice P6 m6 d6) := TS16.up hb17
    have Y17 : OwnD w17 w7.heap.size w8.heap.size A8 n8 c8 xs P8 m8 d8 yss := Y16.up hb17
    have TX17 : Two w17 w8.heap.size (.slice A8 n8 c8) (.slice P8 m8 d8) := TX16.up hb17
    have Z17 : OwnE w17 w9.heap.size w10.heap.size (some ⟨w9.heap.size, 0, none⟩) N N ds := Z16.up hb17
    have Gd17 : OwnD w17 w10.heap.size w11.heap.size A11 n11 c11 s1 P11 m11 d11 s2 := Gd16.up hb17
    have TG17 : Two w17 w11.heap.size (.slice A11 n11 c11) (.slice P11 m11 d11) := TG16.up hb17
    have hz17 := hb17.size
    clear HB16 TA16 S16 TS16 Y16 TX16 Z16 Gd16 TG16
    go_wp2_with fail
    refine (eqDeedS_c _ _ _ _ _ _ ds ds _ Z17.rd L17.rd).mono ?_
    rintro e w18 ⟨rfl, hb18⟩
    rw [HQE.out]
    have HB18 : Below w.heap.size w w18 := bt HB17 hb18
    have TA18 : Two w18 w.heap.size (.slice A n c) (.slice P m d) := TA17.up hb18
    have S18 : RdD w18 w6.heap.size A6 n6 c6 s1 P6 m6 d6 s2 := S17.upB hb18 (by omega)
    have TS18 : Two w18 w6.heap.size (.slice A6 n6 c6) (.slice P6 m6 d6) := TS17.up hb18
    have Y18 : OwnD w18 w7.heap.size w8.heap.size A8 n8 c8 xs P8 m8 d8 yss := Y17.up hb18
    have TX18 : Two w18 w8.heap.size (.slice A8 n8 c8) (.slice P8 m8 d8) := TX17.up hb18
    have Z18 : OwnE w18 w9.heap.size w10.heap.size (some ⟨w9.heap.size, 0, none⟩) N N ds := Z17.up hb18
    have Gd18 : OwnD w18 w10.heap.size w11.heap.size A11 n11 c11 s1 P11 m11 d11 s2 := Gd17.up hb18
    have TG18 : Two w18 w11.heap.size (.slice A11 n11 c11) (.slice P11 m11 d11) := TG17.up hb18
    have hz18 := hb18.size
    clear HB17 TA17 S17 TS17 Y17 TX17 Z17 Gd17 TG17
    obtain ⟨_, qTX0, qTX1, _, _⟩ := id TX18
    go_wp2_with fail
    clear qTX0 qTX1
    obtain ⟨hlx, hly⟩ := Y18.lens
    have hk1 : 1 + n8 + tot yss ≤ 3000000 := by omega
    clear hlx hly
    refine (markDesk_d A8 P8 n8 c8 m8 d8 1 w7.heap.size w8.heap.size xs yss _ Y18 (by omega) (by omega)).mono ?_
    rintro e w19 ⟨rfl, Y19, hc19⟩
    have hk0 : 0 < 1 + n8 + tot yss := by omega
    generalize 1 + n8 + tot yss = k1 at hk1 hk0 ⊢
    have HB19 : Below w.heap.size w w19 := HB18.trans (hc19.belowLo (by omega) (by omega))
    have TA19 : Two w19 w.heap.size (.slice A n c) (.slice P m d) := TA18.chg hc19 (by omega)
    have S19 : RdD w19 w6.heap.size A6 n6 c6 s1 P6 m6 d6 s2 := S18.chgB hc19 (by omega) (by omega)
    have TS19 : Two w19 w6.heap.size (.slice A6 n6 c6) (.slice P6 m6 d6) := TS18.chg hc19 (by omega)
    have TX19 : Two w19 w8.heap.size (.slice A8 n8 c8) (.slice P8 m8 d8) := TX18.chg hc19 (by omega)
    have Z19 : OwnE w19 w9.heap.size w10.heap.size (some ⟨w9.heap.size, 0, none⟩) N N ds := Z18.chg hc19 (by omega)
    have Gd19 : OwnD w19 w10.heap.size w11.heap.size A11 n11 c11 s1 P11 m11 d11 s2 := Gd18.chg hc19 (by omega)
    have TG19 : Two w19 w11.heap.size (.slice A11 n11 c11) (.slice P11 m11 d11) := TG18.chg hc19 (by omega)
    have hz19 := hc19.size
    clear HB18 TA18 S18 TS18 TX18 Z18 Gd18 TG18
    go_wp2_with fail
    refine (markDeedS_c _ N N k1 w9.heap.size w10.heap.size ds _ Z19 hk0 (by omega)).mono ?_
    rintro e w20 ⟨rfl, Z20, hc20⟩
    have HB20 : Below w.heap.size w w20 := HB19.trans (hc20.belowLo (by omega) (by omega))
    have TA20 : Two w20 w.heap.size (.slice A n c) (.slice P m d) := TA19.chg hc20 (by omega)
    have S20 : RdD w20 w6.heap.size A6 n6 c6 s1 P6 m6 d6 s2 := S19.chgB hc20 (by omega) (by omega)
    have TS20 : Two w20 w6.heap.size (.slice A6 n6 c6) (.slice P6 m6 d6) := TS19.chg hc20 (by omega)
    have TX20 : Two w20 w8.heap.size (.slice A8 n8 c8) (.slice P8 m8 d8) := TX19.chg hc20 (by omega)
    have Gd20 : OwnD w20 w10.heap.size w11.heap.size A11 n11 c11 s1 P11 m11 d11 s2 := Gd19.chg hc20 (by omega)
    have TG20 : Two w20 w11.heap.size (.slice A11 n11 c11) (.slice P11 m11 d11) := TG19.chg hc20 (by omega)
    have hz20 := hc20.size
    clear HB19 TA19 S19 TS19 TX19 Gd19 TG19
    obtain ⟨_, qTG0, qTG1, _, _⟩ := id TG20
    obtain ⟨_, qTS0, qTS1, _, _⟩ := id TS20
    go_wp2_with fail
    clear qTG0 qTG1 qTS0 qTS1
    refine (eqDesk_c A11 P11 A6 P6 n11 c11 m11 d11 n6 c6 m6 d6 _ _ _ _ _ Gd20.rd (S20.moreB (by omega))).mono ?_
    rintro e w21 ⟨rfl, hb21⟩
    rw [HQS.out]
    have HB21 : Below w.heap.size w w21 := bt HB20 hb21
    have TA21 : Two w21 w.heap.size (.slice A n c) (.slice P m d) := TA20.up hb21
    have S21 : RdD w21 w6.heap.size A6 n6 c6 s1 P6 m6 d6 s2 := S20.upB hb21 (by omega)
    have TS21 : Two w21 w6.heap.size (.slice A6 n6 c6) (.slice P6 m6 d6) := TS20.up hb21
    have TX21 : Two w21 w8.heap.size (.slice A8 n8 c8) (.slice P8 m8 d8) := TX20.up hb21
    have Gd21 : OwnD w21 w10.heap.size w11.heap.size A11 n11 c11 s1 P11 m11 d11 s2 := Gd20.up hb21
    have TG21 : Two w21 w11.heap.size (.slice A11 n11 c11) (.slice P11 m11 d11) := TG20.up hb21
    have hz21 := hb21.size
    clear HB20 TA20 S20 TS20 TX20 Gd20 TG20
    obtain ⟨_, qTG0, qTG1, _, _⟩ := id TG21
    go_wp2_with fail
    clear qTG0 qTG1
    obtain ⟨hgx, hgy⟩ := Gd21.lens
    have hgn : n11 ≤ 7 := by omega
    clear hgx hgy
    refine (markDesk_d A11 P11 n11 c11 m11 d11 1 w10.heap.size w11.heap.size s1 s2 _ Gd21 (by omega) (by omega)).mono ?_
    rintro e w22 ⟨rfl, GN22, hc22⟩
    have HB22 : Below w.heap.size w w22 := HB21.trans (hc22.belowLo (by omega) (by omega))
    have TA22 : Two w22 w.heap.size (.slice A n c) (.slice P m d) := TA21.chg hc22 (by omega)
    have S22 : RdD w22 w6.heap.size A6 n6 c6 s1 P6 m6 d6 s2 := S21.chgB hc22 (by omega) (by omega)
    have TS22 : Two w22 w6.heap.size (.slice A6 n6 c6) (.slice P6 m6 d6) := TS21.chg hc22 (by omega)
    have TX22 : Two w22 w8.heap.size (.slice A8 n8 c8) (.slice P8 m8 d8) := TX21.chg hc22 (by omega)
    have TG22 : Two w22 w11.heap.size (.slice A11 n11 c11) (.slice P11 m11 d11) := TG21.chg hc22 (by omega)
    have hz22 := hc22.size
    clear HB21 TA21 S21 TS21 TX21 TG21
    obtain ⟨_, qTG0, qTG1, _, _⟩ := id TG22
    go_wp2_with fail
    clear qTG0 qTG1
    refine (heldDesk_d A11 P11 n11 c11 m11 d11 1 s2 _ GN22.rd (by omega)).mono ?_
    rintro e w23 ⟨rfl, hb23⟩
    have HB23 : Below w.heap.size w w23 := bt HB22 hb23
    have TA23 : Two w23 w.heap.size (.slice A n c) (.slice P m d) := TA22.up hb23
    have S23 : RdD w23 w6.heap.size A6 n6 c6 s1 P6 m6 d6 s2 := S22.upB hb23 (by omega)
    have TS23 : Two w23 w6.heap.size (.slice A6 n6 c6) (.slice P6 m6 d6) := TS22.up hb23
    have TX23 : Two w23 w8.heap.size (.slice A8 n8 c8) (.slice P8 m8 d8) := TX22.up hb23
    have TG23 : Two w23 w11.heap.size (.slice A11 n11 c11) (.slice P11 m11 d11) := TG22.up hb23
    have GN23 : OwnD w23 w10.heap.size w11.heap.size A11 n11 c11 (marks 1 n11) P11 m11 d11 (markR (1 + n11) s2) := GN22.up hb23
    have hz23 := hb23.size
    clear HB22 TA22 S22 TS22 TX22 TG22 GN22
    obtain ⟨_, qTA0, qTA1, _, _⟩ := id TA23
    go_wp2_with fail
    clear qTA0 qTA1
    refine (toDesk_d A P n c m d xs yss _ (X0.up HB23) hx hy).mono ?_
    rintro e w24 ⟨A24, n24, c24, P24, m24, d24, rfl, Q24, hb24⟩
    have HB24 : Below w.heap.size w w24 := bt HB23 hb24
    have TA24 : Two w24 w.heap.size (.slice A n c) (.slice P m d) := TA23.up hb24
    have S24 : RdD w24 w6.heap.size A6 n6 c6 s1 P6 m6 d6 s2 := S23.upB hb24 (by omega)
    have TS24 : Two w24 w6.heap.size (.slice A6 n6 c6) (.slice P6 m6 d6) := TS23.up hb24
    have TX24 : Two w24 w8.heap.size (.slice A8 n8 c8) (.slice P8 m8 d8) := TX23.up hb24
    have TG24 : Two w24 w11.heap.size (.slice A11 n11 c11) (.slice P11 m11 d11) := TG23.up hb24
    have GN24 : OwnD w24 w10.heap.size w11.heap.size A11 n11 c11 (marks 1 n11) P11 m11 d11 (markR (1 + n11) s2) := GN23.up hb24
    have hz24 := hb24.size
    clear HB23 TA23 S23 TS23 TX23 TG23 GN23
    go_wp2_with fail
    refine (toDeedS_c E N C ds _ (E0.1.up HB24) hN).mono ?_
    rintro e w25 ⟨rfl, L25, hb25⟩
    have HB25 : Below w.heap.size w w25 := bt HB24 hb25
    have TA25 : Two w25 w.heap.size (.slice A n c) (.slice P m d) := TA24.up hb25
    have S25 : RdD w25 w6.heap.size A6 n6 c6 s1 P6 m6 d6 s2 := S24.upB hb25 (by omega)
    have TS25 : Two w25 w6.heap.size (.slice A6 n6 c6) (.slice P6 m6 d6) := TS24.up hb25
    have TX25 : Two w25 w8.heap.size (.slice A8 n8 c8) (.slice P8 m8 d8) := TX24.up hb25
    have TG25 : Two w25 w11.heap.size (.slice A11 n11 c11) (.slice P11 m11 d11) := TG24.up hb25
    have GN25 : OwnD w25 w10.heap.size w11.heap.size A11 n11 c11 (marks 1 n11) P11 m11 d11 (markR (1 + n11) s2) := GN24.up hb25
    have Q25 : OwnD w25 w23.heap.size w24.heap.size A24 n24 c24 xs P24 m24 d24 yss := Q24.up hb25
    have hz25 := hb25.size
    clear HB24 TA24 S24 TS24 TX24 TG24 GN24 Q24
    go_wp2_with fail
    refine (KI _ _ _ _ _ _ _ _ _ _ Q25.rd L25.rd).mono ?_
    rintro e w26 ⟨A26, n26, c26, P26, m26, d26, rfl, H26, hb26⟩
    have HB26 : Below w.heap.size w w26 := bt HB25 hb26
    have TA26 : Two w26 w.heap.size (.slice A n c) (.slice P m d) := TA25.up hb26
    have S26 : RdD w26 w6.heap.size A6 n6 c6 s1 P6 m6 d6 s2 := S25.upB hb26 (by omega)
    have TS26 : Two w26 w6.heap.size (.slice A6 n6 c6) (.slice P6 m6 d6) := TS25.up hb26
    have TX26 : Two w26 w8.heap.size (.slice A8 n8 c8) (.slice P8 m8 d8) := TX25.up hb26
    have TG26 : Two w26 w11.heap.size (.slice A11 n11 c11) (.slice P11 m11 d11) := TG25.up hb26
    have GN26 : OwnD w26 w10.heap.size w11.heap.size A11 n11 c11 (marks 1 n11) P11 m11 d11 (markR (1 + n11) s2) := GN25.up hb26
    have Q26 : OwnD w26 w23.heap.size w24.heap.size A24 n24 c24 xs P24 m24 d24 yss := Q25.up hb26
    have L26 : OwnE w26 w24.heap.size w25.heap.size (some ⟨w24.heap.size, 0, none⟩) N N ds := L25.up hb26
    have hz26 := hb26.size
    clear HB25 TA25 S25 TS25 TX25 TG25 GN25 Q25 L25
    have TH27 := Two.made w26 30 (.slice A26 n26 c26) (.slice P26 m26 d26)
    have hb27 : Below w26.heap.size w26 (w26.alloc (.cells #[.slice A26 n26 c26, .slice P26 m26 d26] 30)) := below_new _ _
    have HB27 : Below w.heap.size w (w26.alloc (.cells #[.slice A26 n26 c26, .slice P26 m26 d26] 30)) := bt HB26 hb27
    have TA27 : Two (w26.alloc (.cells #[.slice A26 n26 c26, .slice P26 m26 d26] 30)) w.heap.size (.slice A n c) (.slice P m d) := TA26.up hb27
    have S27 : RdD (w26.alloc (.cells #[.slice A26 n26 c26, .slice P26 m26 d26] 30)) w6.heap.size A6 n6 c6 s1 P6 m6 d6 s2 := S26.upB hb27 (by omega)
    have TS27 : Two (w26.alloc (.cells #[.slice A26 n26 c26, .slice P26 m26 d26] 30)) w6.heap.size (.slice A6 n6 c6) (.slice P6 m6 d6) := TS26.up hb27
    have TX27 : Two (w26.alloc (.cells #[.slice A26 n26 c26, .slice P26 m26 d26] 30)) w8.heap.size (.slice A8 n8 c8) (.slice P8 m8 d8) := TX26.up hb27
    have TG27 : Two (w26.alloc (.cells #[.slice A26 n26 c26, .slice P26 m26 d26] 30)) w11.heap.size (.slice A11 n11 c11) (.slice P11 m11 d11) := TG26.up hb27
    have GN27 : OwnD (w26.alloc (.cells #[.slice A26 n26 c26, .slice P26 m26 d26] 30)) w10.heap.size w11.heap.size A11 n11 c11 (marks 1 n11) P11 m11 d11 (markR (1 + n11) s2) := GN26.up hb27
    have H27 : OwnD (w26.alloc (.cells #[.slice A26 n26 c26, .slice P26 m26 d26] 30)) w25.heap.size w26.heap.size A26 n26 c26 s1 P26 m26 d26 s2 := H26.up hb27
    have hz27 := hb27.size
    clear HB26 TA26 S26 TS26 TX26 TG26 GN26 H26
    obtain ⟨_, qTS0, qTS1, _, _⟩ := id TS27
    go_wp2_with fail
    clear qTS0 qTS1
    generalize (w26.alloc (.cells #[.slice A26 n26 c26, .slice P26 m26 d26] 30)) = w27 at *
    have hlTH := TH27.1
    refine (eqDesk_c A26 P26 A6 P6 n26 c26 m26 d26 n6 c6 m6 d6 _ _ _ _ _ H27.rd (S27.moreB (by omega))).mono ?_
    rintro e w28 ⟨rfl, hb28⟩
    rw [HQS.out]
    have HB28 : Below w.heap.size w w28 := bt HB27 hb28
    have TA28 : Two w28 w.heap.size (.slice A n c) (.slice P m d) := TA27.up hb28
    have S28 : RdD w28 w6.heap.size A6 n6 c6 s1 P6 m6 d6 s2 := S27.upB hb28 (by omega)
    have TS28 : Two w28 w6.heap.size (.slice A6 n6 c6) (.slice P6 m6 d6) := TS27.up hb28
    have TX28 : Two w28 w8.heap.size (.slice A8 n8 c8) (.slice P8 m8 d8) := TX27.up hb28
    have TG28 : Two w28 w11.heap.size (.slice A11 n11 c11) (.slice P11 m11 d11) := TG27.up hb28
    have GN28 : OwnD w28 w10.heap.size w11.heap.size A11 n11 c11 (marks 1 n11) P11 m11 d11 (markR (1 + n11) s2) := GN27.up hb28
    have H28 : OwnD w28 w25.heap.size w26.heap.size A26 n26 c26 s1 P26 m26 d26 s2 := H27.up hb28
    have TH28 : Two w28 w26.heap.size (.slice A26 n26 c26) (.slice P26 m26 d26) := TH27.up hb28
    have hz28 := hb28.size
    clear HB27 TA27 S27 TS27 TX27 TG27 GN27 H27 TH27
    obtain ⟨_, qTG0, qTG1, _, _⟩ := id TG28
    go_wp2_with fail
    clear qTG0 qTG1
    refine (heldDesk_d A11 P11 n11 c11 m11 d11 1 s2 _ GN28.rd (by omega)).mono ?_
    rintro e w29 ⟨rfl, hb29⟩
    have HBE := bt HB28 hb29
    go_wp2_with fail
    go_ret
    exact ⟨rfl, HBE⟩
end Go.Proofs.Ytnpjelekpkgbpaa
