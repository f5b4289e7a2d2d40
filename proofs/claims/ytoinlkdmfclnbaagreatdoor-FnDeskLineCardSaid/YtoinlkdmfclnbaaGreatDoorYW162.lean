/- Bundle W162. -/
import Derived.Test.YtoinlkdmfclnbaaGreatDoorYM24
import Derived.Test.YtoinlkdmfclnbaaGreatDoorYV15
import Derived.Test.YtoinlkdmfclnbaaGreatDoorYW158
import Derived.Test.YtoinlkdmfclnbaaGreatDoorYW161
namespace Go.Proofs.YtoinlkdmfclnbaaGreatDoor
set_option linter.unusedVariables false
section
open Go.RowKit
theorem lnX_law {xs : List Int} {yss : List (List Int)} (l : List UInt8) (h : deskOkB xs yss = true) :
    deskOkB (lnX xs yss l).1 (lnX xs yss l).2.1 = true ∧ ((lnX xs yss l).2.2 = ⟨#[111, 107]⟩ ∨ ((lnX xs yss l).1 = xs ∧ (lnX xs yss l).2.1 = yss)) := by
 unfold lnX
 rw [h]
 simp only [if_true]
 split
 · refine ⟨doX_desk _ _ _ _ h, ?_⟩
   rcases hb : (doX xs yss (rdV l).1.1 (rdV l).1.2.1 (rdV l).1.2.2.1 (bl (rdV l).1.2.2.2)).2.2 with _ | _
   · rcases doX_false hb with h1 | h1
     · exact .inr h1
     · rw [h] at h1; cases h1
   · exact .inl rfl
 · exact ⟨h, .inr ⟨rfl, rfl⟩⟩
theorem rdV_nil : rdV [] = ((0, 0, 0, []), false) := by
 rcases rdV_cases [] with ⟨kd, a, b, x, hr, _, _⟩ | h
 · exfalso
   have := rdV_text (l := []) (by rw [hr])
   exact this.1 rfl
 · exact h
theorem lnX_empty {xs : List Int} {yss : List (List Int)} (h : deskOkB xs yss = true) : lnX xs yss [] = (xs, yss, ⟨#[119, 104, 97, 116]⟩) := by
 unfold lnX
 rw [h, rdV_nil]
 rfl
set_option maxRecDepth 100000 in
set_option maxHeartbeats 6400000 in
theorem walk_FnDeskLine (A : Option Addr) (n c : Nat) (bs : List Nat) (w : World) (hg : Glo w) (h : RdB w w.heap.size A n c bs) :
    Calls Tryz.prog 3 #[.slice A n c] w fun e w' => e = .returned (.bool true) ∧ Below w.heap.size w w' := by
 have hmx := h.max
 have hcp := h.cap
 unfold maxLen at hmx
 by_cases hbig : 1048576 < n
 · go_enter Tryz.func3, Tryz.ntmps3
   go_wp2_with fail
   go_ret
   exact ⟨rfl, Below.refl _ _⟩
 go_enter Tryz.func3, Tryz.ntmps3
 go_wp2_with fail
 refine (drawDeskLine_c A n c bs _ h).mono ?_
 rintro e w2 ⟨A2, n2, c2, xs, P2, m2, d2, yss, t, rfl, D2, ht, HB2⟩
 have hL1 := fun h => lnX_law (xs := xs) (yss := yss) t.data.toList h
 have hL0 := fun h => lnX_no (xs := xs) (yss := yss) (l := t.data.toList) h
 have KI := fun W (h : RdD W W.heap.size A2 n2 c2 xs P2 m2 d2 yss) (hg : Glo W) => line_c A2 P2 n2 c2 m2 d2 xs yss t W h hg (by omega)
 have KS := fun W (h : RdD W W.heap.size A2 n2 c2 xs P2 m2 d2 yss) => sLine_c A2 P2 n2 c2 m2 d2 xs yss t W h (by omega)
 generalize lnX xs yss t.data.toList = R at *
 obtain ⟨r1, r2, tt⟩ := R
 simp only at hL1 hL0 KI KS
 have HQ : Hid ((eqB r1 r1 && eqBB r2 r2) = true) := Lib.hid (by rw [eqB_self, eqBB_self]; rfl)
 have HQX : Hid ((eqB xs xs && eqBB yss yss) = true) := Lib.hid (by rw [eqB_self, eqBB_self]; rfl)
 have TD3 := Two.made w2 26 (.slice A2 n2 c2) (.slice P2 m2 d2)
 have hb3 : Below w2.heap.size w2 (w2.alloc (.cells #[.slice A2 n2 c2, .slice P2 m2 d2] 26)) := below_new _ _
 have HB3 : Below w.heap.size w (w2.alloc (.cells #[.slice A2 n2 c2, .slice P2 m2 d2] 26)) := bt HB2 hb3
 have D3 : RdD (w2.alloc (.cells #[.slice A2 n2 c2, .slice P2 m2 d2] 26)) (w2.alloc (.cells #[.slice A2 n2 c2, .slice P2 m2 d2] 26)).heap.size A2 n2 c2 xs P2 m2 d2 yss := D2.up hb3
 have hz3 := hb3.size
 clear HB2 D2
 obtain ⟨_, qTD0, qTD1, _, _⟩ := id TD3
 go_wp2_with fail
 clear qTD0 qTD1
 generalize (w2.alloc (.cells #[.slice A2 n2 c2, .slice P2 m2 d2] 26)) = w3 at *
 refine (KI w3 D3 (hg.up HB3)).mono ?_
 rintro e w4 ⟨A4, n4, c4, P4, m4, d4, rfl, hO4, hb4⟩
 have X4 := hO4.rd
 clear hO4
 have HB4 : Below w.heap.size w w4 := bt HB3 hb4
 have D4 : RdD w4 w4.heap.size A2 n2 c2 xs P2 m2 d2 yss := D3.up hb4
 have TD4 : Two w4 w2.heap.size (.slice A2 n2 c2) (.slice P2 m2 d2) := TD3.up hb4
 have hz4 := hb4.size
 clear HB3 D3 TD3
 have TX5 := Two.made w4 26 (.slice A4 n4 c4) (.slice P4 m4 d4)
 have hb5 : Below w4.heap.size w4 (w4.alloc (.cells #[.slice A4 n4 c4, .slice P4 m4 d4] 26)) := below_new _ _
 have HB5 : Below w.heap.size w (w4.alloc (.cells #[.slice A4 n4 c4, .slice P4 m4 d4] 26)) := bt HB4 hb5
 have D5 : RdD (w4.alloc (.cells #[.slice A4 n4 c4, .slice P4 m4 d4] 26)) (w4.alloc (.cells #[.slice A4 n4 c4, .slice P4 m4 d4] 26)).heap.size A2 n2 c2 xs P2 m2 d2 yss := D4.up hb5
 have TD5 : Two (w4.alloc (.cells #[.slice A4 n4 c4, .slice P4 m4 d4] 26)) w2.heap.size (.slice A2 n2 c2) (.slice P2 m2 d2) := TD4.up hb5
 have X5 : RdD (w4.alloc (.cells #[.slice A4 n4 c4, .slice P4 m4 d4] 26)) (w4.alloc (.cells #[.slice A4 n4 c4, .slice P4 m4 d4] 26)).heap.size A4 n4 c4 r1 P4 m4 d4 r2 := X4.up hb5
 have hz5 := hb5.size
 clear HB4 D4 TD4 X4
 obtain ⟨_, qTX0, qTX1, _, _⟩ := id TX5
 obtain ⟨_, qTD0, qTD1, _, _⟩ := id TD5
 go_wp2_with fail
 clear qTX0 qTX1 qTD0 qTD1
 generalize (w4.alloc (.cells #[.slice A4 n4 c4, .slice P4 m4 d4] 26)) = w5 at *
 refine (KS w5 D5).mono ?_
 rintro e w6 ⟨A6, n6, c6, P6, m6, d6, rfl, Y6, _, hb6⟩
 have HB6 : Below w.heap.size w w6 := bt HB5 hb6
 have D6 : RdD w6 w6.heap.size A2 n2 c2 xs P2 m2 d2 yss := D5.up hb6
 have TD6 : Two w6 w2.heap.size (.slice A2 n2 c2) (.slice P2 m2 d2) := TD5.up hb6
 have X6 : RdD w6 w6.heap.size A4 n4 c4 r1 P4 m4 d4 r2 := X5.up hb6
 have TX6 : Two w6 w4.heap.size (.slice A4 n4 c4) (.slice P4 m4 d4) := TX5.up hb6
 have hz6 := hb6.size
 clear HB5 D5 TD5 X5 TX5
 have TY7 := Two.made w6 26 (.slice A6 n6 c6) (.slice P6 m6 d6)
 have hb7 : Below w6.heap.size w6 (w6.alloc (.cells #[.slice A6 n6 c6, .slice P6 m6 d6] 26)) := below_new _ _
 have HB7 : Below w.heap.size w (w6.alloc (.cells #[.slice A6 n6 c6, .slice P6 m6 d6] 26)) := bt HB6 hb7
 have D7 : RdD (w6.alloc (.cells #[.slice A6 n6 c6, .slice P6 m6 d6] 26)) (w6.alloc (.cells #[.slice A6 n6 c6, .slice P6 m6 d6] 26)).heap.size A2 n2 c2 xs P2 m2 d2 yss := D6.up hb7
 have TD7 : Two (w6.alloc (.cells #[.slice A6 n6 c6, .slice P6 m6 d6] 26)) w2.heap.size (.slice A2 n2 c2) (.slice P2 m2 d2) := TD6.up hb7
 have X7 : RdD (w6.alloc (.cells #[.slice A6 n6 c6, .slice P6 m6 d6] 26)) (w6.alloc (.cells #[.slice A6 n6 c6, .slice P6 m6 d6] 26)).heap.size A4 n4 c4 r1 P4 m4 d4 r2 := X6.up hb7
 have TX7 : Two (w6.alloc (.cells #[.slice A6 n6 c6, .slice P6 m6 d6] 26)) w4.heap.size (.slice A4 n4 c4) (.slice P4 m4 d4) := TX6.up hb7
 have Y7 : RdD (w6.alloc (.cells #[.slice A6 n6 c6, .slice P6 m6 d6] 26)) (w6.alloc (.cells #[.slice A6 n6 c6, .slice P6 m6 d6] 26)).heap.size A6 n6 c6 r1 P6 m6 d6 r2 := Y6.up hb7
 have hz7 := hb7.size
 clear HB6 D6 TD6 X6 TX6 Y6
 obtain ⟨_, qTX0, qTX1, _, _⟩ := id TX7
 obtain ⟨_, qTY0, qTY1, _, _⟩ := id TY7
 go_wp2_with fail
 clear qTX0 qTX1 qTY0 qTY1
 generalize (w6.alloc (.cells #[.slice A6 n6 c6, .slice P6 m6 d6] 26)) = w7 at *
 refine (sameDesk_c A4 P4 A6 P6 n4 c4 m4 d4 n6 c6 m6 d6 r1 r1 r2 r2 w7 X7 Y7).mono ?_
 rintro e w8 ⟨rfl, hb8⟩
 rw [HQ.out]
 have HB8 : Below w.heap.size w w8 := bt HB7 hb8
 have D8 : RdD w8 w8.heap.size A2 n2 c2 xs P2 m2 d2 yss := D7.up hb8
 have TD8 : Two w8 w2.heap.size (.slice A2 n2 c2) (.slice P2 m2 d2) := TD7.up hb8
 have X8 : RdD w8 w8.heap.size A4 n4 c4 r1 P4 m4 d4 r2 := X7.up hb8
 have TX8 : Two w8 w4.heap.size (.slice A4 n4 c4) (.slice P4 m4 d4) := TX7.up hb8
 have Y8 : RdD w8 w8.heap.size A6 n6 c6 r1 P6 m6 d6 r2 := Y7.up hb8
 have TY8 : Two w8 w6.heap.size (.slice A6 n6 c6) (.slice P6 m6 d6) := TY7.up hb8
 have hz8 := hb8.size
 clear HB7 D7 TD7 X7 TX7 Y7 TY7
 obtain ⟨_, qTD0, qTD1, _, _⟩ := id TD8
 go_wp2_with fail
 clear qTD0 qTD1
 refine (sDeskOk_c A2 P2 n2 c2 m2 d2 xs yss w8 D8).mono ?_
 rintro e w9 ⟨rfl, hb9⟩
 have HB9 : Below w.heap.size w w9 := bt HB8 hb9
 have D9 : RdD w9 w9.heap.size A2 n2 c2 xs P2 m2 d2 yss := D8.up hb9
 have TD9 : Two w9 w2.heap.size (.slice A2 n2 c2) (.slice P2 m2 d2) := TD8.up hb9
 have X9 : RdD w9 w9.heap.size A4 n4 c4 r1 P4 m4 d4 r2 := X8.up hb9
 have TX9 : Two w9 w4.heap.size (.slice A4 n4 c4) (.slice P4 m4 d4) := TX8.up hb9
 have Y9 : RdD w9 w9.heap.size A6 n6 c6 r1 P6 m6 d6 r2 := Y8.up hb9
 have TY9 : Two w9 w6.heap.size (.slice A6 n6 c6) (.slice P6 m6 d6) := TY8.up hb9
 have hz9 := hb9.size
 clear HB8 D8 TD8 X8 TX8 Y8 TY8
 rcases hok : deskOkB xs yss with _ | _
 · have h0 := hL0 hok
   injection h0 with e1 e2
   injection e2 with e2 e3
   subst e1 e2 e3
   clear hL0 hL1
   obtain ⟨_, qTX0, qTX1, _, _⟩ := id TX9
   go_wp2_with fail
   clear qTX0 qTX1
   refine (noDesk_c A4 P4 n4 c4 m4 d4 [] [] _ X9).mono ?_
   rintro e w10 ⟨rfl, hb10⟩
   rw [show (eqB [] [] && eqBB [] []) = true from rfl]
   have HB10 : Below w.heap.size w w10 := bt HB9 hb10
   have D10 : RdD w10 w10.heap.size A2 n2 c2 xs P2 m2 d2 yss := D9.up hb10
   have TD10 : Two w10 w2.heap.size (.slice A2 n2 c2) (.slice P2 m2 d2) := TD9.up hb10
   have X10 : RdD w10 w10.heap.size A4 n4 c4 [] P4 m4 d4 [] := X9.up hb10
   have TX10 : Two w10 w4.heap.size (.slice A4 n4 c4) (.slice P4 m4 d4) := TX9.up hb10
   have Y10 : RdD w10 w10.heap.size A6 n6 c6 [] P6 m6 d6 [] := Y9.up hb10
   have TY10 : Two w10 w6.heap.size (.slice A6 n6 c6) (.slice P6 m6 d6) := TY9.up hb10
   have hz10 := hb10.size
   clear HB9 D9 TD9 X9 TX9 Y9 TY9
   go_wp2_with fail
   refine (alive_c _).mono ?_
   rintro e w11 ⟨rfl, hb11⟩
   have HBE := bt HB10 hb11
   go_wp2_with fail
   go_ret
   exact ⟨rfl, HBE⟩
 · obtain ⟨hk, hor⟩ := hL1 hok
   clear hL0 hL1
   obtain ⟨_, qTD0, qTD1, _, _⟩ := id TD9
   go_wp2_with fail
   clear qTD0 qTD1
   have KE := line_c A2 P2 n2 c2 m2 d2 xs yss ⟨#[]⟩ w9 D9 (hg.up HB9) (Nat.zero_le _)
   rw [show (⟨#[]⟩ : ByteArray).data.toList = [] from rfl, lnX_empty hok] at KE
   refine KE.mono ?_
   rintro e w10 ⟨A10, n10, c10, P10, m10, d10, rfl, hO10, hb10⟩
   have Z10 := hO10.rd
   clear hO10 KE
   have HB10 : Below w.heap.size w w10 := bt HB9 hb10
   have D10 : RdD w10 w10.heap.size A2 n2 c2 xs P2 m2 d2 yss := D9.up hb10
   have TD10 : Two w10 w2.heap.size (.slice A2 n2 c2) (.slice P2 m2 d2) := TD9.up hb10
   have X10 : RdD w10 w10.heap.size A4 n4 c4 r1 P4 m4 d4 r2 := X9.up hb10
   have TX10 : Two w10 w4.heap.size (.slice A4 n4 c4) (.slice P4 m4 d4) := TX9.up hb10
   have Y10 : RdD w10 w10.heap.size A6 n6 c6 r1 P6 m6 d6 r2 := Y9.up hb10
   have TY10 : Two w10 w6.heap.size (.slice A6 n6 c6) (.slice P6 m6 d6) := TY9.up hb10
   have hz10 := hb10.size
   clear HB9 D9 TD9 X9 TX9 Y9 TY9
   have TZ11 := Two.made w10 26 (.slice A10 n10 c10) (.slice P10 m10 d10)
   have hb11 : Below w10.heap.size w10 (w10.alloc (.cells #[.slice A10 n10 c10, .slice P10 m10 d10] 26)) := below_new _ _
   have HB11 : Below w.heap.size w (w10.alloc (.cells #[.slice A10 n10 c10, .slice P10 m10 d10] 26)) := bt HB10 hb11
   have D11 : RdD (w10.alloc (.cells #[.slice A10 n10 c10, .slice P10 m10 d10] 26)) (w10.alloc (.cells #[.slice A10 n10 c10, .slice P10 m10 d10] 26)).heap.size A2 n2 c2 xs P2 m2 d2 yss := D10.up hb11
   have TD11 : Two (w10.alloc (.cells #[.slice A10 n10 c10, .slice P10 m10 d10] 26)) w2.heap.size (.slice A2 n2 c2) (.slice P2 m2 d2) := TD10.up hb11
   have X11 : RdD (w10.alloc (.cells #[.slice A10 n10 c10, .slice P10 m10 d10] 26)) (w10.alloc (.cells #[.slice A10 n10 c10, .slice P10 m10 d10] 26)).heap.size A4 n4 c4 r1 P4 m4 d4 r2 := X10.up hb11
   have TX11 : Two (w10.alloc (.cells #[.slice A10 n10 c10, .slice P10 m10 d10] 26)) w4.heap.size (.slice A4 n4 c4) (.slice P4 m4 d4) := TX10.up hb11
   have Y11 : RdD (w10.alloc (.cells #[.slice A10 n10 c10, .slice P10 m10 d10] 26)) (w10.alloc (.cells #[.slice A10 n10 c10, .slice P10 m10 d10] 26)).heap.size A6 n6 c6 r1 P6 m6 d6 r2 := Y10.up hb11
   have TY11 : Two (w10.alloc (.cells #[.slice A10 n10 c10, .slice P10 m10 d10] 26)) w6.heap.size (.slice A6 n6 c6) (.slice P6 m6 d6) := TY10.up hb11
   have Z11 : RdD (w10.alloc (.cells #[.slice A10 n10 c10, .slice P10 m10 d10] 26)) (w10.alloc (.cells #[.slice A10 n10 c10, .slice P10 m10 d10] 26)).heap.size A10 n10 c10 xs P10 m10 d10 yss := Z10.up hb11
   have hz11 := hb11.size
   clear HB10 D10 TD10 X10 TX10 Y10 TY10 Z10
   obtain ⟨_, qTX0, qTX1, _, _⟩ := id TX11
   obtain ⟨_, qTZ0, qTZ1, _, _⟩ := id TZ11
   go_wp2_with fail
   clear qTX0 qTX1 qTZ0 qTZ1
   generalize (w10.alloc (.cells #[.slice A10 n10 c10, .slice P10 m10 d10] 26)) = w11 at *
   refine (deskOk_c A4 P4 n4 c4 m4 d4 r1 r2 w11 X11).mono ?_
   rintro e w12 ⟨rfl, hb12⟩
   rw [hk]
   have HB12 : Below w.heap.size w w12 := bt HB11 hb12
   have D12 : RdD w12 w12.heap.size A2 n2 c2 xs P2 m2 d2 yss := D11.up hb12
   have TD12 : Two w12 w2.heap.size (.slice A2 n2 c2) (.slice P2 m2 d2) := TD11.up hb12
   have X12 : RdD w12 w12.heap.size A4 n4 c4 r1 P4 m4 d4 r2 := X11.up hb12
   have TX12 : Two w12 w4.heap.size (.slice A4 n4 c4) (.slice P4 m4 d4) := TX11.up hb12
   have Y12 : RdD w12 w12.heap.size A6 n6 c6 r1 P6 m6 d6 r2 := Y11.up hb12
   have TY12 : Two w12 w6.heap.size (.slice A6 n6 c6) (.slice P6 m6 d6) := TY11.up hb12
   have Z12 : RdD w12 w12.heap.size A10 n10 c10 xs P10 m10 d10 yss := Z11.up hb12
   have TZ12 : Two w12 w10.heap.size (.slice A10 n10 c10) (.slice P10 m10 d10) := TZ11.up hb12
   have hz12 := hb12.size
   clear HB11 D11 TD11 X11 TX11 Y11 TY11 Z11 TZ11
   by_cases hq : tt = ⟨#[111, 107]⟩
   · subst hq
     obtain ⟨_, qTZ0, qTZ1, _, _⟩ := id TZ12
     obtain ⟨_, qTD0, qTD1, _, _⟩ := id TD12
     go_wp2_with fail
     clear qTZ0 qTZ1 qTD0 qTD1
     refine (sameDesk_c A10 P10 A2 P2 n10 c10 m10 d10 n2 c2 m2 d2 xs xs yss yss _ Z12 D12).mono ?_
     rintro e w13 ⟨rfl, hb13⟩
     rw [HQX.out]
     have HBE := bt HB12 hb13
     go_wp2_with fail
     go_ret
     exact ⟨rfl, HBE⟩
   · have hqf : (tt.toList == [111, 107]) = false := beqF (fun h => hq (by rw [← bl_of tt, ← ByteArray.toList_eq, h]; rfl))
     obtain ⟨e1, e2⟩ := hor.resolve_left hq
     have e1 := e1.symm
     have e2 := e2.symm
     subst e1 e2
     obtain ⟨_, qTX0, qTX1, _, _⟩ := id TX12
     obtain ⟨_, qTD0, qTD1, _, _⟩ := id TD12
     go_wp2_with fail
     clear qTX0 qTX1 qTD0 qTD1
     refine (sameDesk_c A4 P4 A2 P2 n4 c4 m4 d4 n2 c2 m2 d2 _ _ _ _ _ X12 D12).mono ?_
     rintro e w13 ⟨rfl, hb13⟩
     rw [HQX.out]
     have HB13 : Below w.heap.size w w13 := bt HB12 hb13
     have D13 : RdD w13 w13.heap.size A2 n2 c2 xs P2 m2 d2 yss := D12.up hb13
     have TD13 : Two w13 w2.heap.size (.slice A2 n2 c2) (.slice P2 m2 d2) := TD12.up hb13
     have X13 : RdD w13 w13.heap.size A4 n4 c4 xs P4 m4 d4 yss := X12.up hb13
     have TX13 : Two w13 w4.heap.size (.slice A4 n4 c4) (.slice P4 m4 d4) := TX12.up hb13
     have Y13 : RdD w13 w13.heap.size A6 n6 c6 xs P6 m6 d6 yss := Y12.up hb13
     have TY13 : Two w13 w6.heap.size (.slice A6 n6 c6) (.slice P6 m6 d6) := TY12.up hb13
     have Z13 : RdD w13 w13.heap.size A10 n10 c10 xs P10 m10 d10 yss := Z12.up hb13
     have TZ13 : Two w13 w10.heap.size (.slice A10 n10 c10) (.slice P10 m10 d10) := TZ12.up hb13
     have hz13 := hb13.size
     clear HB12 D12 TD12 X12 TX12 Y12 TY12 Z12 TZ12
     obtain ⟨_, qTZ0, qTZ1, _, _⟩ := id TZ13
     obtain ⟨_, qTD0, qTD1, _, _⟩ := id TD13
     go_wp2_with fail
     clear qTZ0 qTZ1 qTD0 qTD1
     refine (sameDesk_c A10 P10 A2 P2 n10 c10 m10 d10 n2 c2 m2 d2 xs xs yss yss _ Z13 D13).mono ?_
     rintro e w14 ⟨rfl, hb14⟩
     rw [HQX.out]
     have HBE := bt HB13 hb14
     go_wp2_with fail
     go_ret
     exact ⟨rfl, HBE⟩
end
end Go.Proofs.YtoinlkdmfclnbaaGreatDoor
