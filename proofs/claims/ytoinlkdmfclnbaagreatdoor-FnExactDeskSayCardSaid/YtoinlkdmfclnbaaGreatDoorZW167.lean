/- Bundle W167. -/
import Derived.Test.YtoinlkdmfclnbaaGreatDoorZVM
namespace Go.Proofs.YtoinlkdmfclnbaaGreatDoor
set_option linter.unusedVariables false
open Go.RowKit
set_option maxRecDepth 100000 in
set_option maxHeartbeats 6400000 in
theorem walk_FnExactDeskSay (A P : Option Addr) (n c m d : Nat) (xs : List Int) (yss : List (List Int)) (E : Option Addr) (N C : Nat) (ts : List ByteArray) (w : World) (hg : Glo w) (X0 : RdD w w.heap.size A n c xs P m d yss) (E0 : RdT w w.heap.size E N C ts ∧ ∀ k, k < N → (gT ts k).size ≤ maxLen) :
    Calls Tryz.prog 5 #[.agg #[.slice A n c, .slice P m d], .slice E N C] w fun e w' => e = .returned (.bool true) ∧ Below w.heap.size w w' := by
  have hmE := E0.1.max
  have hcE := E0.1.cap
  unfold maxLen at hmE
  have HB1 : Below w.heap.size w (w.alloc (.cells #[.slice A n c, .slice P m d] 39)) := below_new _ _
  have TA1 := Two.made w 39 (.slice A n c) (.slice P m d)
  go_enter Tryz.func5, Tryz.ntmps5
  go_wp2_with fail
  generalize (w.alloc (.cells #[.slice A n c, .slice P m d] 39)) = w1 at *
  have hz1 := HB1.size
  refine (szDesk_t A P n c m d xs yss _ (X0.up HB1)).mono ?_
  rintro e w2 ⟨r, rfl, hb2, hr0, hr1, hr2⟩
  have HB2 : Below w.heap.size w w2 := bt HB1 hb2
  have TA2 : Two w2 w.heap.size (.slice A n c) (.slice P m d) := TA1.up hb2
  have hz2 := hb2.size
  clear HB1 TA1
  by_cases hneg : r < 0
  · go_wp2_with fail
    go_ret
    exact ⟨rfl, HB2⟩
  have hfit := hr2 (by omega)
  obtain ⟨hx, hy⟩ := small_of hfit
  go_wp2_with fail
  refine (szStringS_c E N C ts r _ (E0.1.up HB2) E0.2 (by omega) hr1).mono ?_
  rintro e w3 ⟨r2, rfl, hb3, hq0, hq1, hq2⟩
  have HB3 : Below w.heap.size w w3 := bt HB2 hb3
  have TA3 : Two w3 w.heap.size (.slice A n c) (.slice P m d) := TA2.up hb3
  have hz3 := hb3.size
  clear HB2 TA2
  by_cases hneg2 : r2 < 0
  · go_wp2_with fail
    go_ret
    exact ⟨rfl, HB3⟩
  obtain ⟨hs2, hs3⟩ := hq2 (by omega)
  have hlE := E0.1.len
  have hN : N ≤ 1048576 := by omega
  have hsh : Ln ts := fun k hk => by have := hs3 k hk; omega
  obtain ⟨s1, s2, zs, ⟨hl1, hl2, hl3, hl4, hl5⟩, hrun, KS, KI⟩ := deskSay_any xs yss ts hsh
  have HQS : Hid ((eqB s1 s1 && eqBB s2 s2) = true) := Lib.hid (by rw [eqB_self, eqBB_self]; rfl)
  have HQX : Hid ((eqB xs xs && eqBB yss yss) = true) := Lib.hid (by rw [eqB_self, eqBB_self]; rfl)
  have HQE : Hid (eqTs ts ts = true) := Lib.hid (eqTs_self ts)
  have HQZ : Hid (eqTs zs zs = true) := Lib.hid (eqTs_self zs)
  clear hq2 hr2 hl4 hrun hs3 hsh hlE
  obtain ⟨_, qTA0, qTA1, _, _⟩ := id TA3
  go_wp2_with fail
  clear qTA0 qTA1
  refine (toDesk_d A P n c m d xs yss _ (X0.up HB3) hx hy).mono ?_
  rintro e w4 ⟨A4, n4, c4, P4, m4, d4, rfl, Q4, hb4⟩
  have HB4 : Below w.heap.size w w4 := bt HB3 hb4
  have TA4 : Two w4 w.heap.size (.slice A n c) (.slice P m d) := TA3.up hb4
  have hz4 := hb4.size
  clear HB3 TA3
  go_wp2_with fail
  refine (toStringS_c E N C ts _ (E0.1.up HB4) hN).mono ?_
  rintro e w5 ⟨rfl, L5, hb5⟩
  have HB5 : Below w.heap.size w w5 := bt HB4 hb5
  have TA5 : Two w5 w.heap.size (.slice A n c) (.slice P m d) := TA4.up hb5
  have Q5 : OwnD w5 w3.heap.size w4.heap.size A4 n4 c4 xs P4 m4 d4 yss := Q4.up hb5
  have hz5 := hb5.size
  clear HB4 TA4 Q4
  go_wp2_with fail
  refine (KS _ _ _ _ _ _ _ _ _ _ Q5.rd L5.rd).mono ?_
  rintro e w6 ⟨A6, n6, c6, P6, m6, d6, T6, N6, C6, rfl, S6, V6, hb6⟩
  have HB6 : Below w.heap.size w w6 := bt HB5 hb6
  have TA6 : Two w6 w.heap.size (.slice A n c) (.slice P m d) := TA5.up hb6
  have Q6 : OwnD w6 w3.heap.size w4.heap.size A4 n4 c4 xs P4 m4 d4 yss := Q5.up hb6
  have L6 : OwnP w6 w4.heap.size w5.heap.size (some ⟨w4.heap.size, 0, none⟩) N N ts := L5.up hb6
  have hz6 := hb6.size
  clear HB5 TA5 Q5 L5
  have TS7 := Two.made w6 26 (.slice A6 n6 c6) (.slice P6 m6 d6)
  have hb7 : Below w6.heap.size w6 (w6.alloc (.cells #[.slice A6 n6 c6, .slice P6 m6 d6] 26)) := below_new _ _
  have HB7 : Below w.heap.size w (w6.alloc (.cells #[.slice A6 n6 c6, .slice P6 m6 d6] 26)) := bt HB6 hb7
  have TA7 : Two (w6.alloc (.cells #[.slice A6 n6 c6, .slice P6 m6 d6] 26)) w.heap.size (.slice A n c) (.slice P m d) := TA6.up hb7
  have S7 : RdD (w6.alloc (.cells #[.slice A6 n6 c6, .slice P6 m6 d6] 26)) w6.heap.size A6 n6 c6 s1 P6 m6 d6 s2 := S6.upB hb7 (by omega)
  have V7 : RdT (w6.alloc (.cells #[.slice A6 n6 c6, .slice P6 m6 d6] 26)) w6.heap.size T6 N6 C6 zs := V6.upB hb7 (by omega)
  have hz7 := hb7.size
  clear HB6 TA6 S6 V6
  obtain ⟨_, qTA0, qTA1, _, _⟩ := id TA7
  go_wp2_with fail
  clear qTA0 qTA1
  generalize (w6.alloc (.cells #[.slice A6 n6 c6, .slice P6 m6 d6] 26)) = w7 at *
  have hlTS := TS7.1
  refine (toDesk_d A P n c m d xs yss _ (X0.up HB7) hx hy).mono ?_
  rintro e w8 ⟨A8, n8, c8, P8, m8, d8, rfl, Y8, hb8⟩
  have HB8 : Below w.heap.size w w8 := bt HB7 hb8
  have TA8 : Two w8 w.heap.size (.slice A n c) (.slice P m d) := TA7.up hb8
  have S8 : RdD w8 w6.heap.size A6 n6 c6 s1 P6 m6 d6 s2 := S7.upB hb8 (by omega)
  have V8 : RdT w8 w6.heap.size T6 N6 C6 zs := V7.upB hb8 (by omega)
  have TS8 : Two w8 w6.heap.size (.slice A6 n6 c6) (.slice P6 m6 d6) := TS7.up hb8
  have hz8 := hb8.size
  clear HB7 TA7 S7 V7 TS7
  have TX9 := Two.made w8 26 (.slice A8 n8 c8) (.slice P8 m8 d8)
  have hb9 : Below w8.heap.size w8 (w8.alloc (.cells #[.slice A8 n8 c8, .slice P8 m8 d8] 26)) := below_new _ _
  have HB9 : Below w.heap.size w (w8.alloc (.cells #[.slice A8 n8 c8, .slice P8 m8 d8] 26)) := bt HB8 hb9
  have TA9 : Two (w8.alloc (.cells #[.slice A8 n8 c8, .slice P8 m8 d8] 26)) w.heap.size (.slice A n c) (.slice P m d) := TA8.up hb9
  have S9 : RdD (w8.alloc (.cells #[.slice A8 n8 c8, .slice P8 m8 d8] 26)) w6.heap.size A6 n6 c6 s1 P6 m6 d6 s2 := S8.upB hb9 (by omega)
  have V9 : RdT (w8.alloc (.cells #[.slice A8 n8 c8, .slice P8 m8 d8] 26)) w6.heap.size T6 N6 C6 zs := V8.upB hb9 (by omega)
  have TS9 : Two (w8.alloc (.cells #[.slice A8 n8 c8, .slice P8 m8 d8] 26)) w6.heap.size (.slice A6 n6 c6) (.slice P6 m6 d6) := TS8.up hb9
  have Y9 : OwnD (w8.alloc (.cells #[.slice A8 n8 c8, .slice P8 m8 d8] 26)) w7.heap.size w8.heap.size A8 n8 c8 xs P8 m8 d8 yss := Y8.up hb9
  have hz9 := hb9.size
  clear HB8 TA8 S8 V8 TS8 Y8
  go_wp2_with fail
  generalize (w8.alloc (.cells #[.slice A8 n8 c8, .slice P8 m8 d8] 26)) = w9 at *
  have hlTX := TX9.1
  refine (toStringS_c E N C ts _ (E0.1.up HB9) hN).mono ?_
  rintro e w10 ⟨rfl, Z10, hb10⟩
  have HB10 : Below w.heap.size w w10 := bt HB9 hb10
  have TA10 : Two w10 w.heap.size (.slice A n c) (.slice P m d) := TA9.up hb10
  have S10 : RdD w10 w6.heap.size A6 n6 c6 s1 P6 m6 d6 s2 := S9.upB hb10 (by omega)
  have V10 : RdT w10 w6.heap.size T6 N6 C6 zs := V9.upB hb10 (by omega)
  have TS10 : Two w10 w6.heap.size (.slice A6 n6 c6) (.slice P6 m6 d6) := TS9.up hb10
  have Y10 : OwnD w10 w7.heap.size w8.heap.size A8 n8 c8 xs P8 m8 d8 yss := Y9.up hb10
  have TX10 : Two w10 w8.heap.size (.slice A8 n8 c8) (.slice P8 m8 d8) := TX9.up hb10
  have hz10 := hb10.size
  clear HB9 TA9 S9 V9 TS9 Y9 TX9
  obtain ⟨_, qTX0, qTX1, _, _⟩ := id TX10
  go_wp2_with fail
  clear qTX0 qTX1
  refine (KI _ _ _ _ _ _ _ _ _ _ Y10.rd Z10.rd (hg.up HB10)).mono ?_
  rintro e w11 ⟨A11, n11, c11, P11, m11, d11, T11, N11, C11, la11, ha11, lb11, hc11, rfl, Gd11, Ga11, ea11, eb11, ec11, ed11, ee11, ef11, hb11⟩
  have HB11 : Below w.heap.size w w11 := bt HB10 hb11
  have TA11 : Two w11 w.heap.size (.slice A n c) (.slice P m d) := TA10.up hb11
  have S11 : RdD w11 w6.heap.size A6 n6 c6 s1 P6 m6 d6 s2 := S10.upB hb11 (by omega)
  have V11 : RdT w11 w6.heap.size T6 N6 C6 zs := V10.upB hb11 (by omega)
  have TS11 : Two w11 w6.heap.size (.slice A6 n6 c6) (.slice P6 m6 d6) := TS10.up hb11
  have Y11 : OwnD w11 w7.heap.size w8.heap.size A8 n8 c8 xs P8 m8 d8 yss := Y10.up hb11
  have TX11 : Two w11 w8.heap.size (.slice A8 n8 c8) (.slice P8 m8 d8) := TX10.up hb11
  have Z11 : OwnP w11 w9.heap.size w10.heap.size (some ⟨w9.heap.size, 0, none⟩) N N ts := Z10.up hb11
  have hz11 := hb11.size
  clear HB10 TA10 S10 V10 TS10 Y10 TX10 Z10
  have TG12 := Two.made w11 26 (.slice A11 n11 c11) (.slice P11 m11 d11)
  have hb12 : Below w11.heap.size w11 (w11.alloc (.cells #[.slice A11 n11 c11, .slice P11 m11 d11] 26)) := below_new _ _
  have HB12 : Below w.heap.size w (w11.alloc (.cells #[.slice A11 n11 c11, .slice P11 m11 d11] 26)) := bt HB11 hb12
  have TA12 : Two (w11.alloc (.cells #[.slice A11 n11 c11, .slice P11 m11 d11] 26)) w.heap.size (.slice A n c) (.slice P m d) := TA11.up hb12
  have S12 : RdD (w11.alloc (.cells #[.slice A11 n11 c11, .slice P11 m11 d11] 26)) w6.heap.size A6 n6 c6 s1 P6 m6 d6 s2 := S11.upB hb12 (by omega)
  have V12 : RdT (w11.alloc (.cells #[.slice A11 n11 c11, .slice P11 m11 d11] 26)) w6.heap.size T6 N6 C6 zs := V11.upB hb12 (by omega)
  have TS12 : Two (w11.alloc (.cells #[.slice A11 n11 c11, .slice P11 m11 d11] 26)) w6.heap.size (.slice A6 n6 c6) (.slice P6 m6 d6) := TS11.up hb12
  have Y12 : OwnD (w11.alloc (.cells #[.slice A11 n11 c11, .slice P11 m11 d11] 26)) w7.heap.size w8.heap.size A8 n8 c8 xs P8 m8 d8 yss := Y11.up hb12
  have TX12 : Two (w11.alloc (.cells #[.slice A11 n11 c11, .slice P11 m11 d11] 26)) w8.heap.size (.slice A8 n8 c8) (.slice P8 m8 d8) := TX11.up hb12
  have Z12 : OwnP (w11.alloc (.cells #[.slice A11 n11 c11, .slice P11 m11 d11] 26)) w9.heap.size w10.heap.size (some ⟨w9.heap.size, 0, none⟩) N N ts := Z11.up hb12
  have Gd12 : OwnD (w11.alloc (.cells #[.slice A11 n11 c11, .slice P11 m11 d11] 26)) la11 ha11 A11 n11 c11 s1 P11 m11 d11 s2 := Gd11.up hb12
  have Ga12 : OwnP (w11.alloc (.cells #[.slice A11 n11 c11, .slice P11 m11 d11] 26)) lb11 hc11 T11 N11 C11 zs := Ga11.up hb12
  have hz12 := hb12.size
  clear HB11 TA11 S11 V11 TS11 Y11 TX11 Z11 Gd11 Ga11
  obtain ⟨_, qTS0, qTS1, _, _⟩ := id TS12
  go_wp2_with fail
  clear qTS0 qTS1
  generalize (w11.alloc (.cells #[.slice A11 n11 c11, .slice P11 m11 d11] 26)) = w12 at *
  have hlTG := TG12.1
  refine (eqDesk_c A11 P11 A6 P6 n11 c11 m11 d11 n6 c6 m6 d6 _ _ _ _ _ Gd12.rd (S12.moreB (by omega))).mono ?_
  rintro e w13 ⟨rfl, hb13⟩
  rw [HQS.out]
  have HB13 : Below w.heap.size w w13 := bt HB12 hb13
  have TA13 : Two w13 w.heap.size (.slice A n c) (.slice P m d) := TA12.up hb13
  have S13 : RdD w13 w6.heap.size A6 n6 c6 s1 P6 m6 d6 s2 := S12.upB hb13 (by omega)
  have V13 : RdT w13 w6.heap.size T6 N6 C6 zs := V12.upB hb13 (by omega)
  have TS13 : Two w13 w6.heap.size (.slice A6 n6 c6) (.slice P6 m6 d6) := TS12.up hb13
  have Y13 : OwnD w13 w7.heap.size w8.heap.size A8 n8 c8 xs P8 m8 d8 yss := Y12.up hb13
  have TX13 : Two w13 w8.heap.size (.slice A8 n8 c8) (.slice P8 m8 d8) := TX12.up hb13
  have Z13 : OwnP w13 w9.heap.size w10.heap.size (some ⟨w9.heap.size, 0, none⟩) N N ts := Z12.up hb13
  have Gd13 : OwnD w13 la11 ha11 A11 n11 c11 s1 P11 m11 d11 s2 := Gd12.up hb13
  have Ga13 : OwnP w13 lb11 hc11 T11 N11 C11 zs := Ga12.up hb13
  have TG13 : Two w13 w11.heap.size (.slice A11 n11 c11) (.slice P11 m11 d11) := TG12.up hb13
  have hz13 := hb13.size
  clear HB12 TA12 S12 V12 TS12 Y12 TX12 Z12 Gd12 Ga12 TG12
  go_wp2_with fail
  refine (eqStringS_c _ _ _ _ _ _ _ _ _ Ga13.rd (V13.moreB (by omega))).mono ?_
  rintro e w14 ⟨rfl, hb14⟩
  rw [HQZ.out]
  have HB14 : Below w.heap.size w w14 := bt HB13 hb14
  have TA14 : Two w14 w.heap.size (.slice A n c) (.slice P m d) := TA13.up hb14
  have S14 : RdD w14 w6.heap.size A6 n6 c6 s1 P6 m6 d6 s2 := S13.upB hb14 (by omega)
  have V14 : RdT w14 w6.heap.size T6 N6 C6 zs := V13.upB hb14 (by omega)
  have TS14 : Two w14 w6.heap.size (.slice A6 n6 c6) (.slice P6 m6 d6) := TS13.up hb14
  have Y14 : OwnD w14 w7.heap.size w8.heap.size A8 n8 c8 xs P8 m8 d8 yss := Y13.up hb14
  have TX14 : Two w14 w8.heap.size (.slice A8 n8 c8) (.slice P8 m8 d8) := TX13.up hb14
  have Z14 : OwnP w14 w9.heap.size w10.heap.size (some ⟨w9.heap.size, 0, none⟩) N N ts := Z13.up hb14
  have Gd14 : OwnD w14 la11 ha11 A11 n11 c11 s1 P11 m11 d11 s2 := Gd13.up hb14
  have Ga14 : OwnP w14 lb11 hc11 T11 N11 C11 zs := Ga13.up hb14
  have TG14 : Two w14 w11.heap.size (.slice A11 n11 c11) (.slice P11 m11 d11) := TG13.up hb14
  have hz14 := hb14.size
  clear HB13 TA13 S13 V13 TS13 Y13 TX13 Z13 Gd13 Ga13 TG13
  go_upto_region 14 with fail
  have HB15 : Below w.heap.size w w14.drew := bd HB14 1
  have TA15 : Two w14.drew w.heap.size (.slice A n c) (.slice P m d) := TA14.dn 1
  have S15 : RdD w14.drew w6.heap.size A6 n6 c6 s1 P6 m6 d6 s2 := S14.dnB 1
  have V15 : RdT w14.drew w6.heap.size T6 N6 C6 zs := V14.dnB 1
  have TS15 : Two w14.drew w6.heap.size (.slice A6 n6 c6) (.slice P6 m6 d6) := TS14.dn 1
  have Y15 : OwnD w14.drew w7.heap.size w8.heap.size A8 n8 c8 xs P8 m8 d8 yss := Y14.dn 1
  have TX15 : Two w14.drew w8.heap.size (.slice A8 n8 c8) (.slice P8 m8 d8) := TX14.dn 1
  have Z15 : OwnP w14.drew w9.heap.size w10.heap.size (some ⟨w9.heap.size, 0, none⟩) N N ts := Z14.dn 1
  have Gd15 : OwnD w14.drew la11 ha11 A11 n11 c11 s1 P11 m11 d11 s2 := Gd14.dn 1
  have Ga15 : OwnP w14.drew lb11 hc11 T11 N11 C11 zs := Ga14.dn 1
  have TG15 : Two w14.drew w11.heap.size (.slice A11 n11 c11) (.slice P11 m11 d11) := TG14.dn 1
  have hz15 : w14.heap.size ≤ w14.drew.heap.size := Nat.le_refl _
  clear HB14 TA14 S14 V14 TS14 Y14 TX14 Z14 Gd14 Ga14 TG14
  go_region_held3 (fun w' => World.cell? w' ⟨w8.heap.size, 0, none⟩ = some (.slice A8 n8 c8) ∧ World.cell? w' ⟨w8.heap.size, 1, none⟩ = some (.slice P8 m8 d8) ∧ World.cell? w' ⟨w.heap.size, 0, none⟩ = some (.slice A n c) ∧ World.cell? w' ⟨w.heap.size, 1, none⟩ = some (.slice P m d))
    (first
      | exact ⟨TX15.2.1, TX15.2.2.1, TA15.2.1, TA15.2.2.1⟩
      | exact ⟨TX16.2.1, TX16.2.2.1, TA16.2.1, TA16.2.2.1⟩
      | exact ⟨TX17.2.1, TX17.2.2.1, TA17.2.1, TA17.2.2.1⟩)
    (first
      | (go_at_call 22; refine (toDesk_d A P n c m d xs yss _ (X0.up HB15) hx hy).mono ?_; rintro e w16 ⟨A16, n16, c16, P16, m16, d16, rfl, h16, hb16⟩; have hz16 := hb16.size; have HB16 : Below w.heap.size w w16 := bt HB15 hb16; have TA16 : Two w16 w.heap.size (.slice A n c) (.slice P m d) := TA15.up hb16; have S16 : RdD w16 w6.heap.size A6 n6 c6 s1 P6 m6 d6 s2 := S15.upB hb16 (by omega); have V16 : RdT w16 w6.heap.size T6 N6 C6 zs := V15.upB hb16 (by omega); have TS16 : Two w16 w6.heap.size (.slice A6 n6 c6) (.slice P6 m6 d6) := TS15.up hb16; have Y16 : OwnD w16 w7.heap.size w8.heap.size A8 n8 c8 xs P8 m8 d8 yss := Y15.up hb16; have TX16 : Two w16 w8.heap.size (.slice A8 n8 c8) (.slice P8 m8 d8) := TX15.up hb16; have Z16 : OwnP w16 w9.heap.size w10.heap.size (some ⟨w9.heap.size, 0, none⟩) N N ts := Z15.up hb16; have Gd16 : OwnD w16 la11 ha11 A11 n11 c11 s1 P11 m11 d11 s2 := Gd15.up hb16; have Ga16 : OwnP w16 lb11 hc11 T11 N11 C11 zs := Ga15.up hb16; have TG16 : Two w16 w11.heap.size (.slice A11 n11 c11) (.slice P11 m11 d11) := TG15.up hb16)
      | (go_at_call 24; refine (eqDesk_c A8 P8 A16 P16 n8 c8 m8 d8 n16 c16 m16 d16 xs xs yss yss _ Y16.rd h16.rd).mono ?_; rintro e w17 ⟨rfl, hb17⟩; rw [HQX.out]; have hz17 := hb17.size; have HB17 : Below w.heap.size w w17 := bt HB16 hb17; have TA17 : Two w17 w.heap.size (.slice A n c) (.slice P m d) := TA16.up hb17; have S17 : RdD w17 w6.heap.size A6 n6 c6 s1 P6 m6 d6 s2 := S16.upB hb17 (by omega); have V17 : RdT w17 w6.heap.size T6 N6 C6 zs := V16.upB hb17 (by omega); have TS17 : Two w17 w6.heap.size (.slice A6 n6 c6) (.slice P6 m6 d6) := TS16.up hb17; have Y17 : OwnD w17 w7.heap.size w8.heap.size A8 n8 c8 xs P8 m8 d8 yss := Y16.up hb17; have TX17 : Two w17 w8.heap.size (.slice A8 n8 c8) (.slice P8 m8 d8) := TX16.up hb17; have Z17 : OwnP w17 w9.heap.size w10.heap.size (some ⟨w9.heap.size, 0, none⟩) N N ts := Z16.up hb17; have Gd17 : OwnD w17 la11 ha11 A11 n11 c11 s1 P11 m11 d11 s2 := Gd16.up hb17; have Ga17 : OwnP w17 lb11 hc11 T11 N11 C11 zs := Ga16.up hb17; have TG17 : Two w17 w11.heap.size (.slice A11 n11 c11) (.slice P11 m11 d11) := TG16.up hb17))
  all_goals
    go_wp2_with fail
    refine (toStringS_c E N C ts _ (E0.1.up HB17) hN).mono ?_
    rintro e w18 ⟨rfl, L18, hb18⟩
    have HB18 : Below w.heap.size w w18 := bt HB17 hb18
    have TA18 : Two w18 w.heap.size (.slice A n c) (.slice P m d) := TA17.up hb18
    have S18 : RdD w18 w6.heap.size A6 n6 c6 s1 P6 m6 d6 s2 := S17.upB hb18 (by omega)
    have V18 : RdT w18 w6.heap.size T6 N6 C6 zs := V17.upB hb18 (by omega)
    have TS18 : Two w18 w6.heap.size (.slice A6 n6 c6) (.slice P6 m6 d6) := TS17.up hb18
    have Y18 : OwnD w18 w7.heap.size w8.heap.size A8 n8 c8 xs P8 m8 d8 yss := Y17.up hb18
    have TX18 : Two w18 w8.heap.size (.slice A8 n8 c8) (.slice P8 m8 d8) := TX17.up hb18
    have Z18 : OwnP w18 w9.heap.size w10.heap.size (some ⟨w9.heap.size, 0, none⟩) N N ts := Z17.up hb18
    have Gd18 : OwnD w18 la11 ha11 A11 n11 c11 s1 P11 m11 d11 s2 := Gd17.up hb18
    have Ga18 : OwnP w18 lb11 hc11 T11 N11 C11 zs := Ga17.up hb18
    have TG18 : Two w18 w11.heap.size (.slice A11 n11 c11) (.slice P11 m11 d11) := TG17.up hb18
    have hz18 := hb18.size
    clear HB17 TA17 S17 V17 TS17 Y17 TX17 Z17 Gd17 Ga17 TG17
    go_wp2_with fail
    refine (eqStringS_c _ _ _ _ _ _ _ _ _ Z18.rd L18.rd).mono ?_
    rintro e w19 ⟨rfl, hb19⟩
    rw [HQE.out]
    have HB19 : Below w.heap.size w w19 := bt HB18 hb19
    have TA19 : Two w19 w.heap.size (.slice A n c) (.slice P m d) := TA18.up hb19
    have S19 : RdD w19 w6.heap.size A6 n6 c6 s1 P6 m6 d6 s2 := S18.upB hb19 (by omega)
    have V19 : RdT w19 w6.heap.size T6 N6 C6 zs := V18.upB hb19 (by omega)
    have TS19 : Two w19 w6.heap.size (.slice A6 n6 c6) (.slice P6 m6 d6) := TS18.up hb19
    have Y19 : OwnD w19 w7.heap.size w8.heap.size A8 n8 c8 xs P8 m8 d8 yss := Y18.up hb19
    have TX19 : Two w19 w8.heap.size (.slice A8 n8 c8) (.slice P8 m8 d8) := TX18.up hb19
    have Z19 : OwnP w19 w9.heap.size w10.heap.size (some ⟨w9.heap.size, 0, none⟩) N N ts := Z18.up hb19
    have Gd19 : OwnD w19 la11 ha11 A11 n11 c11 s1 P11 m11 d11 s2 := Gd18.up hb19
    have Ga19 : OwnP w19 lb11 hc11 T11 N11 C11 zs := Ga18.up hb19
    have TG19 : Two w19 w11.heap.size (.slice A11 n11 c11) (.slice P11 m11 d11) := TG18.up hb19
    have L19 : OwnP w19 w17.heap.size w18.heap.size (some ⟨w17.heap.size, 0, none⟩) N N ts := L18.up hb19
    have hz19 := hb19.size
    clear HB18 TA18 S18 V18 TS18 Y18 TX18 Z18 Gd18 Ga18 TG18 L18
    obtain ⟨_, qTX0, qTX1, _, _⟩ := id TX19
    go_wp2_with fail
    clear qTX0 qTX1
    obtain ⟨hlx, hly⟩ := Y19.lens
    have hk1 : 1 + n8 + tot yss ≤ 3000000 := by omega
    clear hlx hly
    refine (markDesk_d A8 P8 n8 c8 m8 d8 1 w7.heap.size w8.heap.size xs yss _ Y19 (by omega) (by omega)).mono ?_
    rintro e w20 ⟨rfl, Y20, hc20⟩
    have hk0 : 0 < 1 + n8 + tot yss := by omega
    generalize 1 + n8 + tot yss = k1 at hk1 hk0 ⊢
    have HB20 : Below w.heap.size w w20 := HB19.trans (hc20.belowLo (by omega) (by omega))
    have TA20 : Two w20 w.heap.size (.slice A n c) (.slice P m d) := TA19.chg hc20 (by omega)
    have S20 : RdD w20 w6.heap.size A6 n6 c6 s1 P6 m6 d6 s2 := S19.chgB hc20 (by omega) (by omega)
    have V20 : RdT w20 w6.heap.size T6 N6 C6 zs := V19.chgB hc20 (by omega) (by omega)
    have TS20 : Two w20 w6.heap.size (.slice A6 n6 c6) (.slice P6 m6 d6) := TS19.chg hc20 (by omega)
    have TX20 : Two w20 w8.heap.size (.slice A8 n8 c8) (.slice P8 m8 d8) := TX19.chg hc20 (by omega)
    have Z20 : OwnP w20 w9.heap.size w10.heap.size (some ⟨w9.heap.size, 0, none⟩) N N ts := Z19.chg hc20 (by omega)
    have Gd20 : OwnD w20 la11 ha11 A11 n11 c11 s1 P11 m11 d11 s2 := Gd19.chg hc20 (by omega)
    have Ga20 : OwnP w20 lb11 hc11 T11 N11 C11 zs := Ga19.chg hc20 (by omega)
    have TG20 : Two w20 w11.heap.size (.slice A11 n11 c11) (.slice P11 m11 d11) := TG19.chg hc20 (by omega)
    have hz20 := hc20.size
    clear HB19 TA19 S19 V19 TS19 TX19 Z19 Gd19 Ga19 TG19
    go_wp2_with fail
    refine (markStringS_c _ N N k1 w9.heap.size w10.heap.size ts _ Z20 hk0 (by omega) (by omega)).mono ?_
    rintro e w21 ⟨rfl, Z21, hc21⟩
    have HB21 : Below w.heap.size w w21 := HB20.trans (hc21.belowLo (by omega) (by omega))
    have TA21 : Two w21 w.heap.size (.slice A n c) (.slice P m d) := TA20.chg hc21 (by omega)
    have S21 : RdD w21 w6.heap.size A6 n6 c6 s1 P6 m6 d6 s2 := S20.chgB hc21 (by omega) (by omega)
    have V21 : RdT w21 w6.heap.size T6 N6 C6 zs := V20.chgB hc21 (by omega) (by omega)
    have TS21 : Two w21 w6.heap.size (.slice A6 n6 c6) (.slice P6 m6 d6) := TS20.chg hc21 (by omega)
    have TX21 : Two w21 w8.heap.size (.slice A8 n8 c8) (.slice P8 m8 d8) := TX20.chg hc21 (by omega)
    have Gd21 : OwnD w21 la11 ha11 A11 n11 c11 s1 P11 m11 d11 s2 := Gd20.chg hc21 (by omega)
    have Ga21 : OwnP w21 lb11 hc11 T11 N11 C11 zs := Ga20.chg hc21 (by omega)
    have TG21 : Two w21 w11.heap.size (.slice A11 n11 c11) (.slice P11 m11 d11) := TG20.chg hc21 (by omega)
    have hz21 := hc21.size
    clear HB20 TA20 S20 V20 TS20 TX20 Gd20 Ga20 TG20
    obtain ⟨_, qTG0, qTG1, _, _⟩ := id TG21
    obtain ⟨_, qTS0, qTS1, _, _⟩ := id TS21
    go_wp2_with fail
    clear qTG0 qTG1 qTS0 qTS1
    refine (eqDesk_c A11 P11 A6 P6 n11 c11 m11 d11 n6 c6 m6 d6 _ _ _ _ _ Gd21.rd (S21.moreB (by omega))).mono ?_
    rintro e w22 ⟨rfl, hb22⟩
    rw [HQS.out]
    have HB22 : Below w.heap.size w w22 := bt HB21 hb22
    have TA22 : Two w22 w.heap.size (.slice A n c) (.slice P m d) := TA21.up hb22
    have S22 : RdD w22 w6.heap.size A6 n6 c6 s1 P6 m6 d6 s2 := S21.upB hb22 (by omega)
    have V22 : RdT w22 w6.heap.size T6 N6 C6 zs := V21.upB hb22 (by omega)
    have TS22 : Two w22 w6.heap.size (.slice A6 n6 c6) (.slice P6 m6 d6) := TS21.up hb22
    have TX22 : Two w22 w8.heap.size (.slice A8 n8 c8) (.slice P8 m8 d8) := TX21.up hb22
    have Gd22 : OwnD w22 la11 ha11 A11 n11 c11 s1 P11 m11 d11 s2 := Gd21.up hb22
    have Ga22 : OwnP w22 lb11 hc11 T11 N11 C11 zs := Ga21.up hb22
    have TG22 : Two w22 w11.heap.size (.slice A11 n11 c11) (.slice P11 m11 d11) := TG21.up hb22
    have hz22 := hb22.size
    clear HB21 TA21 S21 V21 TS21 TX21 Gd21 Ga21 TG21
    go_wp2_with fail
    refine (eqStringS_c _ _ _ _ _ _ _ _ _ Ga22.rd (V22.moreB (by omega))).mono ?_
    rintro e w23 ⟨rfl, hb23⟩
    rw [HQZ.out]
    have HB23 : Below w.heap.size w w23 := bt HB22 hb23
    have TA23 : Two w23 w.heap.size (.slice A n c) (.slice P m d) := TA22.up hb23
    have S23 : RdD w23 w6.heap.size A6 n6 c6 s1 P6 m6 d6 s2 := S22.upB hb23 (by omega)
    have V23 : RdT w23 w6.heap.size T6 N6 C6 zs := V22.upB hb23 (by omega)
    have TS23 : Two w23 w6.heap.size (.slice A6 n6 c6) (.slice P6 m6 d6) := TS22.up hb23
    have TX23 : Two w23 w8.heap.size (.slice A8 n8 c8) (.slice P8 m8 d8) := TX22.up hb23
    have Gd23 : OwnD w23 la11 ha11 A11 n11 c11 s1 P11 m11 d11 s2 := Gd22.up hb23
    have Ga23 : OwnP w23 lb11 hc11 T11 N11 C11 zs := Ga22.up hb23
    have TG23 : Two w23 w11.heap.size (.slice A11 n11 c11) (.slice P11 m11 d11) := TG22.up hb23
    have hz23 := hb23.size
    clear HB22 TA22 S22 V22 TS22 TX22 Gd22 Ga22 TG22
    obtain ⟨_, qTG0, qTG1, _, _⟩ := id TG23
    go_wp2_with fail
    clear qTG0 qTG1
    obtain ⟨hgx, hgy⟩ := Gd23.lens
    have hgn : n11 ≤ 7 := by omega
    have hgT := Ga23.len
    have hgN : N11 ≤ 40 := by omega
    clear hgx hgy hgT
    refine (markDesk_d A11 P11 n11 c11 m11 d11 1 la11 ha11 s1 s2 _ Gd23 (by omega) (by omega)).mono ?_
    rintro e w24 ⟨rfl, GN24, hc24⟩
    have HB24 : Below w.heap.size w w24 := HB23.trans (hc24.belowLo (by omega) (by omega))
    have TA24 : Two w24 w.heap.size (.slice A n c) (.slice P m d) := TA23.chg hc24 (by omega)
    have S24 : RdD w24 w6.heap.size A6 n6 c6 s1 P6 m6 d6 s2 := S23.chgB hc24 (by omega) (by omega)
    have V24 : RdT w24 w6.heap.size T6 N6 C6 zs := V23.chgB hc24 (by omega) (by omega)
    have TS24 : Two w24 w6.heap.size (.slice A6 n6 c6) (.slice P6 m6 d6) := TS23.chg hc24 (by omega)
    have TX24 : Two w24 w8.heap.size (.slice A8 n8 c8) (.slice P8 m8 d8) := TX23.chg hc24 (by omega)
    have Ga24 : OwnP w24 lb11 hc11 T11 N11 C11 zs := Ga23.chg hc24 (by omega)
    have TG24 : Two w24 w11.heap.size (.slice A11 n11 c11) (.slice P11 m11 d11) := TG23.chg hc24 (by omega)
    have hz24 := hc24.size
    clear HB23 TA23 S23 V23 TS23 TX23 Ga23 TG23
    have hk2 : 1 + n11 + tot s2 ≤ 64 := by omega
    have hk3 : 0 < 1 + n11 + tot s2 := by omega
    have HELD := fun W (h : RdD W W.heap.size A11 n11 c11 (marks 1 n11) P11 m11 d11 (markR (1 + n11) s2)) => heldDesk_d A11 P11 n11 c11 m11 d11 1 s2 W h (by omega)
    generalize 1 + n11 + tot s2 = k2 at hk2 hk3 HELD ⊢
    go_wp2_with fail
    refine (markStringS_c T11 N11 C11 k2 lb11 hc11 zs _ Ga24 hk3 (by omega) (by omega)).mono ?_
    rintro e w25 ⟨rfl, GT25, hc25⟩
    have HB25 : Below w.heap.size w w25 := HB24.trans (hc25.belowLo (by omega) (by omega))
    have TA25 : Two w25 w.heap.size (.slice A n c) (.slice P m d) := TA24.chg hc25 (by omega)
    have S25 : RdD w25 w6.heap.size A6 n6 c6 s1 P6 m6 d6 s2 := S24.chgB hc25 (by omega) (by omega)
    have V25 : RdT w25 w6.heap.size T6 N6 C6 zs := V24.chgB hc25 (by omega) (by omega)
    have TS25 : Two w25 w6.heap.size (.slice A6 n6 c6) (.slice P6 m6 d6) := TS24.chg hc25 (by omega)
    have TX25 : Two w25 w8.heap.size (.slice A8 n8 c8) (.slice P8 m8 d8) := TX24.chg hc25 (by omega)
    have TG25 : Two w25 w11.heap.size (.slice A11 n11 c11) (.slice P11 m11 d11) := TG24.chg hc25 (by omega)
    have GN25 : OwnD w25 la11 ha11 A11 n11 c11 (marks 1 n11) P11 m11 d11 (markR (1 + n11) s2) := GN24.chg hc25 (by omega)
    have hz25 := hc25.size
    clear HB24 TA24 S24 V24 TS24 TX24 TG24 GN24
    have hk4 : ¬ ((k2 + N11 : Nat) : Int) < 0 := by omega
    have hk5 : ¬ ((k2 : Nat) : Int) < 0 := by omega
    have hk6 : (((k2 + N11 : Nat) : Int) != ((k2 + N11 : Nat) : Int)) = false := by simp
    have HELT := fun W (h : RdT W W.heap.size T11 N11 C11 (marksT k2 N11)) => heldStringS_c T11 N11 C11 k2 W h hk3 (by omega)
    obtain ⟨K9, hK9⟩ : ∃ K9 : Int, ((k2 + N11 : Nat) : Int) = K9 := ⟨_, rfl⟩
    rw [hK9] at hk4 hk6
    simp only [hK9] at HELT
    rw [hK9]
    clear hK9
    obtain ⟨_, qTG0, qTG1, _, _⟩ := id TG25
    go_wp2_with fail
    clear qTG0 qTG1
    refine (HELD _ GN25.rd).mono ?_
    rintro e w26 ⟨rfl, hb26⟩
    have HB26 : Below w.heap.size w w26 := bt HB25 hb26
    have TA26 : Two w26 w.heap.size (.slice A n c) (.slice P m d) := TA25.up hb26
    have S26 : RdD w26 w6.heap.size A6 n6 c6 s1 P6 m6 d6 s2 := S25.upB hb26 (by omega)
    have V26 : RdT w26 w6.heap.size T6 N6 C6 zs := V25.upB hb26 (by omega)
    have TS26 : Two w26 w6.heap.size (.slice A6 n6 c6) (.slice P6 m6 d6) := TS25.up hb26
    have TX26 : Two w26 w8.heap.size (.slice A8 n8 c8) (.slice P8 m8 d8) := TX25.up hb26
    have TG26 : Two w26 w11.heap.size (.slice A11 n11 c11) (.slice P11 m11 d11) := TG25.up hb26
    have GN26 : OwnD w26 la11 ha11 A11 n11 c11 (marks 1 n11) P11 m11 d11 (markR (1 + n11) s2) := GN25.up hb26
    have GT26 : OwnP w26 lb11 hc11 T11 N11 C11 (marksT k2 N11) := GT25.up hb26
    have hz26 := hb26.size
    clear HB25 TA25 S25 V25 TS25 TX25 TG25 GN25 GT25
    go_wp2_with fail
    refine (HELT _ GT26.rd).mono ?_
    rintro e w27 ⟨rfl, hb27⟩
    have HB27 : Below w.heap.size w w27 := bt HB26 hb27
    have TA27 : Two w27 w.heap.size (.slice A n c) (.slice P m d) := TA26.up hb27
    have S27 : RdD w27 w6.heap.size A6 n6 c6 s1 P6 m6 d6 s2 := S26.upB hb27 (by omega)
    have V27 : RdT w27 w6.heap.size T6 N6 C6 zs := V26.upB hb27 (by omega)
    have TS27 : Two w27 w6.heap.size (.slice A6 n6 c6) (.slice P6 m6 d6) := TS26.up hb27
    have TX27 : Two w27 w8.heap.size (.slice A8 n8 c8) (.slice P8 m8 d8) := TX26.up hb27
    have TG27 : Two w27 w11.heap.size (.slice A11 n11 c11) (.slice P11 m11 d11) := TG26.up hb27
    have GN27 : OwnD w27 la11 ha11 A11 n11 c11 (marks 1 n11) P11 m11 d11 (markR (1 + n11) s2) := GN26.up hb27
    have GT27 : OwnP w27 lb11 hc11 T11 N11 C11 (marksT k2 N11) := GT26.up hb27
    have hz27 := hb27.size
    clear HB26 TA26 S26 V26 TS26 TX26 TG26 GN26 GT26
    obtain ⟨_, qTA0, qTA1, _, _⟩ := id TA27
    go_wp2_with fail
    clear qTA0 qTA1
    refine (toDesk_d A P n c m d xs yss _ (X0.up HB27) hx hy).mono ?_
    rintro e w28 ⟨A28, n28, c28, P28, m28, d28, rfl, Q28, hb28⟩
    have HB28 : Below w.heap.size w w28 := bt HB27 hb28
    have TA28 : Two w28 w.heap.size (.slice A n c) (.slice P m d) := TA27.up hb28
    have S28 : RdD w28 w6.heap.size A6 n6 c6 s1 P6 m6 d6 s2 := S27.upB hb28 (by omega)
    have V28 : RdT w28 w6.heap.size T6 N6 C6 zs := V27.upB hb28 (by omega)
    have TS28 : Two w28 w6.heap.size (.slice A6 n6 c6) (.slice P6 m6 d6) := TS27.up hb28
    have TX28 : Two w28 w8.heap.size (.slice A8 n8 c8) (.slice P8 m8 d8) := TX27.up hb28
    have TG28 : Two w28 w11.heap.size (.slice A11 n11 c11) (.slice P11 m11 d11) := TG27.up hb28
    have GN28 : OwnD w28 la11 ha11 A11 n11 c11 (marks 1 n11) P11 m11 d11 (markR (1 + n11) s2) := GN27.up hb28
    have GT28 : OwnP w28 lb11 hc11 T11 N11 C11 (marksT k2 N11) := GT27.up hb28
    have hz28 := hb28.size
    clear HB27 TA27 S27 V27 TS27 TX27 TG27 GN27 GT27
    go_wp2_with fail
    refine (toStringS_c E N C ts _ (E0.1.up HB28) hN).mono ?_
    rintro e w29 ⟨rfl, L29, hb29⟩
    have HB29 : Below w.heap.size w w29 := bt HB28 hb29
    have TA29 : Two w29 w.heap.size (.slice A n c) (.slice P m d) := TA28.up hb29
    have S29 : RdD w29 w6.heap.size A6 n6 c6 s1 P6 m6 d6 s2 := S28.upB hb29 (by omega)
    have V29 : RdT w29 w6.heap.size T6 N6 C6 zs := V28.upB hb29 (by omega)
    have TS29 : Two w29 w6.heap.size (.slice A6 n6 c6) (.slice P6 m6 d6) := TS28.up hb29
    have TX29 : Two w29 w8.heap.size (.slice A8 n8 c8) (.slice P8 m8 d8) := TX28.up hb29
    have TG29 : Two w29 w11.heap.size (.slice A11 n11 c11) (.slice P11 m11 d11) := TG28.up hb29
    have GN29 : OwnD w29 la11 ha11 A11 n11 c11 (marks 1 n11) P11 m11 d11 (markR (1 + n11) s2) := GN28.up hb29
    have GT29 : OwnP w29 lb11 hc11 T11 N11 C11 (marksT k2 N11) := GT28.up hb29
    have Q29 : OwnD w29 w27.heap.size w28.heap.size A28 n28 c28 xs P28 m28 d28 yss := Q28.up hb29
    have hz29 := hb29.size
    clear HB28 TA28 S28 V28 TS28 TX28 TG28 GN28 GT28 Q28
    go_wp2_with fail
    refine (KI _ _ _ _ _ _ _ _ _ _ Q29.rd L29.rd (hg.up HB29)).mono ?_
    rintro e w30 ⟨A30, n30, c30, P30, m30, d30, T30, N30, C30, la30, ha30, lb30, hc30, rfl, H30, Ha30, ea30, eb30, ec30, ed30, ee30, ef30, hb30⟩
    have HB30 : Below w.heap.size w w30 := bt HB29 hb30
    have TA30 : Two w30 w.heap.size (.slice A n c) (.slice P m d) := TA29.up hb30
    have S30 : RdD w30 w6.heap.size A6 n6 c6 s1 P6 m6 d6 s2 := S29.upB hb30 (by omega)
    have V30 : RdT w30 w6.heap.size T6 N6 C6 zs := V29.upB hb30 (by omega)
    have TS30 : Two w30 w6.heap.size (.slice A6 n6 c6) (.slice P6 m6 d6) := TS29.up hb30
    have TX30 : Two w30 w8.heap.size (.slice A8 n8 c8) (.slice P8 m8 d8) := TX29.up hb30
    have TG30 : Two w30 w11.heap.size (.slice A11 n11 c11) (.slice P11 m11 d11) := TG29.up hb30
    have GN30 : OwnD w30 la11 ha11 A11 n11 c11 (marks 1 n11) P11 m11 d11 (markR (1 + n11) s2) := GN29.up hb30
    have GT30 : OwnP w30 lb11 hc11 T11 N11 C11 (marksT k2 N11) := GT29.up hb30
    have Q30 : OwnD w30 w27.heap.size w28.heap.size A28 n28 c28 xs P28 m28 d28 yss := Q29.up hb30
    have L30 : OwnP w30 w28.heap.size w29.heap.size (some ⟨w28.heap.size, 0, none⟩) N N ts := L29.up hb30
    have hz30 := hb30.size
    clear HB29 TA29 S29 V29 TS29 TX29 TG29 GN29 GT29 Q29 L29
    have TH31 := Two.made w30 26 (.slice A30 n30 c30) (.slice P30 m30 d30)
    have hb31 : Below w30.heap.size w30 (w30.alloc (.cells #[.slice A30 n30 c30, .slice P30 m30 d30] 26)) := below_new _ _
    have HB31 : Below w.heap.size w (w30.alloc (.cells #[.slice A30 n30 c30, .slice P30 m30 d30] 26)) := bt HB30 hb31
    have TA31 : Two (w30.alloc (.cells #[.slice A30 n30 c30, .slice P30 m30 d30] 26)) w.heap.size (.slice A n c) (.slice P m d) := TA30.up hb31
    have S31 : RdD (w30.alloc (.cells #[.slice A30 n30 c30, .slice P30 m30 d30] 26)) w6.heap.size A6 n6 c6 s1 P6 m6 d6 s2 := S30.upB hb31 (by omega)
    have V31 : RdT (w30.alloc (.cells #[.slice A30 n30 c30, .slice P30 m30 d30] 26)) w6.heap.size T6 N6 C6 zs := V30.upB hb31 (by omega)
    have TS31 : Two (w30.alloc (.cells #[.slice A30 n30 c30, .slice P30 m30 d30] 26)) w6.heap.size (.slice A6 n6 c6) (.slice P6 m6 d6) := TS30.up hb31
    have TX31 : Two (w30.alloc (.cells #[.slice A30 n30 c30, .slice P30 m30 d30] 26)) w8.heap.size (.slice A8 n8 c8) (.slice P8 m8 d8) := TX30.up hb31
    have TG31 : Two (w30.alloc (.cells #[.slice A30 n30 c30, .slice P30 m30 d30] 26)) w11.heap.size (.slice A11 n11 c11) (.slice P11 m11 d11) := TG30.up hb31
    have GN31 : OwnD (w30.alloc (.cells #[.slice A30 n30 c30, .slice P30 m30 d30] 26)) la11 ha11 A11 n11 c11 (marks 1 n11) P11 m11 d11 (markR (1 + n11) s2) := GN30.up hb31
    have GT31 : OwnP (w30.alloc (.cells #[.slice A30 n30 c30, .slice P30 m30 d30] 26)) lb11 hc11 T11 N11 C11 (marksT k2 N11) := GT30.up hb31
    have H31 : OwnD (w30.alloc (.cells #[.slice A30 n30 c30, .slice P30 m30 d30] 26)) la30 ha30 A30 n30 c30 s1 P30 m30 d30 s2 := H30.up hb31
    have Ha31 : OwnP (w30.alloc (.cells #[.slice A30 n30 c30, .slice P30 m30 d30] 26)) lb30 hc30 T30 N30 C30 zs := Ha30.up hb31
    have hz31 := hb31.size
    clear HB30 TA30 S30 V30 TS30 TX30 TG30 GN30 GT30 H30 Ha30
    obtain ⟨_, qTS0, qTS1, _, _⟩ := id TS31
    go_wp2_with fail
    clear qTS0 qTS1
    generalize (w30.alloc (.cells #[.slice A30 n30 c30, .slice P30 m30 d30] 26)) = w31 at *
    have hlTH := TH31.1
    refine (eqDesk_c A30 P30 A6 P6 n30 c30 m30 d30 n6 c6 m6 d6 _ _ _ _ _ H31.rd (S31.moreB (by omega))).mono ?_
    rintro e w32 ⟨rfl, hb32⟩
    rw [HQS.out]
    have HB32 : Below w.heap.size w w32 := bt HB31 hb32
    have TA32 : Two w32 w.heap.size (.slice A n c) (.slice P m d) := TA31.up hb32
    have S32 : RdD w32 w6.heap.size A6 n6 c6 s1 P6 m6 d6 s2 := S31.upB hb32 (by omega)
    have V32 : RdT w32 w6.heap.size T6 N6 C6 zs := V31.upB hb32 (by omega)
    have TS32 : Two w32 w6.heap.size (.slice A6 n6 c6) (.slice P6 m6 d6) := TS31.up hb32
    have TX32 : Two w32 w8.heap.size (.slice A8 n8 c8) (.slice P8 m8 d8) := TX31.up hb32
    have TG32 : Two w32 w11.heap.size (.slice A11 n11 c11) (.slice P11 m11 d11) := TG31.up hb32
    have GN32 : OwnD w32 la11 ha11 A11 n11 c11 (marks 1 n11) P11 m11 d11 (markR (1 + n11) s2) := GN31.up hb32
    have GT32 : OwnP w32 lb11 hc11 T11 N11 C11 (marksT k2 N11) := GT31.up hb32
    have H32 : OwnD w32 la30 ha30 A30 n30 c30 s1 P30 m30 d30 s2 := H31.up hb32
    have Ha32 : OwnP w32 lb30 hc30 T30 N30 C30 zs := Ha31.up hb32
    have TH32 : Two w32 w30.heap.size (.slice A30 n30 c30) (.slice P30 m30 d30) := TH31.up hb32
    have hz32 := hb32.size
    clear HB31 TA31 S31 V31 TS31 TX31 TG31 GN31 GT31 H31 Ha31 TH31
    go_wp2_with fail
    refine (eqStringS_c _ _ _ _ _ _ _ _ _ Ha32.rd (V32.moreB (by omega))).mono ?_
    rintro e w33 ⟨rfl, hb33⟩
    rw [HQZ.out]
    have HB33 : Below w.heap.size w w33 := bt HB32 hb33
    have TA33 : Two w33 w.heap.size (.slice A n c) (.slice P m d) := TA32.up hb33
    have S33 : RdD w33 w6.heap.size A6 n6 c6 s1 P6 m6 d6 s2 := S32.upB hb33 (by omega)
    have V33 : RdT w33 w6.heap.size T6 N6 C6 zs := V32.upB hb33 (by omega)
    have TS33 : Two w33 w6.heap.size (.slice A6 n6 c6) (.slice P6 m6 d6) := TS32.up hb33
    have TX33 : Two w33 w8.heap.size (.slice A8 n8 c8) (.slice P8 m8 d8) := TX32.up hb33
    have TG33 : Two w33 w11.heap.size (.slice A11 n11 c11) (.slice P11 m11 d11) := TG32.up hb33
    have GN33 : OwnD w33 la11 ha11 A11 n11 c11 (marks 1 n11) P11 m11 d11 (markR (1 + n11) s2) := GN32.up hb33
    have GT33 : OwnP w33 lb11 hc11 T11 N11 C11 (marksT k2 N11) := GT32.up hb33
    have H33 : OwnD w33 la30 ha30 A30 n30 c30 s1 P30 m30 d30 s2 := H32.up hb33
    have Ha33 : OwnP w33 lb30 hc30 T30 N30 C30 zs := Ha32.up hb33
    have TH33 : Two w33 w30.heap.size (.slice A30 n30 c30) (.slice P30 m30 d30) := TH32.up hb33
    have hz33 := hb33.size
    clear HB32 TA32 S32 V32 TS32 TX32 TG32 GN32 GT32 H32 Ha32 TH32
    obtain ⟨_, qTG0, qTG1, _, _⟩ := id TG33
    go_wp2_with fail
    clear qTG0 qTG1
    refine (HELD _ GN33.rd).mono ?_
    rintro e w34 ⟨rfl, hb34⟩
    have HB34 : Below w.heap.size w w34 := bt HB33 hb34
    have TA34 : Two w34 w.heap.size (.slice A n c) (.slice P m d) := TA33.up hb34
    have S34 : RdD w34 w6.heap.size A6 n6 c6 s1 P6 m6 d6 s2 := S33.upB hb34 (by omega)
    have V34 : RdT w34 w6.heap.size T6 N6 C6 zs := V33.upB hb34 (by omega)
    have TS34 : Two w34 w6.heap.size (.slice A6 n6 c6) (.slice P6 m6 d6) := TS33.up hb34
    have TX34 : Two w34 w8.heap.size (.slice A8 n8 c8) (.slice P8 m8 d8) := TX33.up hb34
    have TG34 : Two w34 w11.heap.size (.slice A11 n11 c11) (.slice P11 m11 d11) := TG33.up hb34
    have GN34 : OwnD w34 la11 ha11 A11 n11 c11 (marks 1 n11) P11 m11 d11 (markR (1 + n11) s2) := GN33.up hb34
    have GT34 : OwnP w34 lb11 hc11 T11 N11 C11 (marksT k2 N11) := GT33.up hb34
    have H34 : OwnD w34 la30 ha30 A30 n30 c30 s1 P30 m30 d30 s2 := H33.up hb34
    have Ha34 : OwnP w34 lb30 hc30 T30 N30 C30 zs := Ha33.up hb34
    have TH34 : Two w34 w30.heap.size (.slice A30 n30 c30) (.slice P30 m30 d30) := TH33.up hb34
    have hz34 := hb34.size
    clear HB33 TA33 S33 V33 TS33 TX33 TG33 GN33 GT33 H33 Ha33 TH33
    go_wp2_with fail
    refine (HELT _ GT34.rd).mono ?_
    rintro e w35 ⟨rfl, hb35⟩
    have HBE := bt HB34 hb35
    go_wp2_with fail
    go_ret
    exact ⟨rfl, HBE⟩
end Go.Proofs.YtoinlkdmfclnbaaGreatDoor
