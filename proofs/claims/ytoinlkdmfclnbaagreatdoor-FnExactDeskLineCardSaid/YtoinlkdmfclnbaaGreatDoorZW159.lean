/- Bundle W159. -/
import Derived.Test.YtoinlkdmfclnbaaGreatDoorZV15
import Derived.Test.YtoinlkdmfclnbaaGreatDoorZW158
namespace Go.Proofs.YtoinlkdmfclnbaaGreatDoor
set_option linter.unusedVariables false
open Go.RowKit
theorem lnX_sizes (xs : List Int) (yss : List (List Int)) (l : List UInt8) : (lnX xs yss l).1.length ≤ 7 ∧ (lnX xs yss l).2.1.length ≤ 8 ∧ tot (lnX xs yss l).2.1 ≤ 56 := by
  have h0 : ∀ (r1 : List Int) (r2 : List (List Int)), deskOkB r1 r2 = true → r1.length ≤ 7 ∧ r2.length ≤ 8 ∧ tot r2 ≤ 56 := fun r1 r2 h => by
    have h3 := desk_fit h
    have h4 := desk_parts h
    exact ⟨h3.2.1, h4.2.1, tot_fit h3.2.2 h4.2.1⟩
  unfold lnX
  rcases hok : deskOkB xs yss with _ | _
  · exact ⟨by simp, by simp, by simp [tot]⟩
  · simp only [if_true]
    split
    · exact h0 _ _ (doX_desk _ _ _ _ hok)
    · exact h0 _ _ hok
theorem deskLine_any (xs : List Int) (yss : List (List Int)) (s : ByteArray) (hs : s.size ≤ 2000000) :
    ∃ (r1 : List Int) (r2 : List (List Int)) (t : ByteArray), (r1.length ≤ 7 ∧ r2.length ≤ 8 ∧ tot r2 ≤ 56) ∧
      (∀ A n c P m d w, RdD w w.heap.size A n c xs P m d yss → Calls Tryz.prog 10 #[.agg #[.slice A n c, .slice P m d], .string s] w (LineR w r1 r2 t)) ∧
      (∀ A n c P m d w, RdD w w.heap.size A n c xs P m d yss → Glo w → Calls Tryz.prog 9 #[.agg #[.slice A n c, .slice P m d], .string s] w (LineO w r1 r2 t)) :=
  ⟨_, _, _, lnX_sizes xs yss s.data.toList, fun A n c P m d w h => sLine_c A P n c m d xs yss s w h hs, fun A n c P m d w h hg => line_c A P n c m d xs yss s w h hg hs⟩
set_option maxRecDepth 100000 in
set_option maxHeartbeats 6400000 in
theorem walk_FnExactDeskLine (A P : Option Addr) (n c m d : Nat) (xs : List Int) (yss : List (List Int)) (s : ByteArray) (w : World) (hg : Glo w) (X0 : RdD w w.heap.size A n c xs P m d yss) (hs : s.size ≤ maxLen) :
    Calls Tryz.prog 7 #[.agg #[.slice A n c, .slice P m d], .string s] w fun e w' => e = .returned (.bool true) ∧ Below w.heap.size w w' := by
  have TA1 := Two.made w 39 (.slice A n c) (.slice P m d)
  have HB1 : Below w.heap.size w (w.alloc (.cells #[.slice A n c, .slice P m d] 39)) := (Below.refl _ _).alloc (Nat.le_refl _) _
  go_enter Tryz.func7, Tryz.ntmps7
  by_cases hbig : (1048576 : Int) < (s.size : Int)
  · go_wp2_with fail
    go_ret
    exact ⟨rfl, HB1⟩
  have hbF : ((1048576 : Int) < (s.size : Int)) = False := eq_false hbig
  have hs2 : s.size ≤ 2000000 := by omega
  obtain ⟨_, qTA0, qTA1, _, _⟩ := id TA1
  go_wp2_with fail
  clear qTA0 qTA1 hbF
  generalize (w.alloc (.cells #[.slice A n c, .slice P m d] 39)) = w1 at *
  have hz1 := HB1.size
  refine (szDesk_t A P n c m d xs yss _ (X0.up HB1)).mono ?_
  rintro e w2 ⟨r, rfl, hb2, hr0, hr1, hr2⟩
  have HB2 : Below w.heap.size w w2 := bt HB1 hb2
  have TA2 : Two w2 w.heap.size (.slice A n c) (.slice P m d) := TA1.up hb2
  have hz2 := hb2.size
  clear HB1 TA1
  by_cases hneg : r < 0
  · go_wp2_with fail
    go_ret
    exact ⟨rfl, HB2⟩
  have hfit := hr2 (by omega)
  obtain ⟨hx, hy⟩ := small_of hfit
  obtain ⟨s1, s2, st, ⟨hl1, hl2, hl3⟩, KS, KI⟩ := deskLine_any xs yss s hs2
  have HQS : Hid ((eqB s1 s1 && eqBB s2 s2) = true) := Lib.hid (by rw [eqB_self, eqBB_self]; rfl)
  have HQX : Hid ((eqB xs xs && eqBB yss yss) = true) := Lib.hid (by rw [eqB_self, eqBB_self]; rfl)
  clear hr2
  obtain ⟨_, qTA0, qTA1, _, _⟩ := id TA2
  go_wp2_with fail
  clear qTA0 qTA1
  refine (toDesk_d A P n c m d xs yss _ (X0.up HB2) hx hy).mono ?_
  rintro e w3 ⟨A3, n3, c3, P3, m3, d3, rfl, Q3, hb3⟩
  have HB3 : Below w.heap.size w w3 := bt HB2 hb3
  have TA3 : Two w3 w.heap.size (.slice A n c) (.slice P m d) := TA2.up hb3
  have hz3 := hb3.size
  clear HB2 TA2
  go_wp2_with fail
  refine (KS _ _ _ _ _ _ _ Q3.rd).mono ?_
  rintro e w4 ⟨A4, n4, c4, P4, m4, d4, rfl, S4, _, hb4⟩
  have HB4 : Below w.heap.size w w4 := bt HB3 hb4
  have TA4 : Two w4 w.heap.size (.slice A n c) (.slice P m d) := TA3.up hb4
  have hz4 := hb4.size
  clear HB3 TA3
  have TS5 := Two.made w4 26 (.slice A4 n4 c4) (.slice P4 m4 d4)
  have hb5 : Below w4.heap.size w4 (w4.alloc (.cells #[.slice A4 n4 c4, .slice P4 m4 d4] 26)) := below_new _ _
  have HB5 : Below w.heap.size w (w4.alloc (.cells #[.slice A4 n4 c4, .slice P4 m4 d4] 26)) := bt HB4 hb5
  have TA5 : Two (w4.alloc (.cells #[.slice A4 n4 c4, .slice P4 m4 d4] 26)) w.heap.size (.slice A n c) (.slice P m d) := TA4.up hb5
  have S5 : RdD (w4.alloc (.cells #[.slice A4 n4 c4, .slice P4 m4 d4] 26)) w4.heap.size A4 n4 c4 s1 P4 m4 d4 s2 := S4.upB hb5 (by omega)
  have hz5 := hb5.size
  clear HB4 TA4 S4
  have hlTS := TS5.1
  obtain ⟨_, qTA0, qTA1, _, _⟩ := id TA5
  go_wp2_with fail
  clear qTA0 qTA1
  generalize (w4.alloc (.cells #[.slice A4 n4 c4, .slice P4 m4 d4] 26)) = w5 at *
  refine (toDesk_d A P n c m d xs yss _ (X0.up HB5) hx hy).mono ?_
  rintro e w6 ⟨A6, n6, c6, P6, m6, d6, rfl, Q6, hb6⟩
  have HB6 : Below w.heap.size w w6 := bt HB5 hb6
  have TA6 : Two w6 w.heap.size (.slice A n c) (.slice P m d) := TA5.up hb6
  have S6 : RdD w6 w4.heap.size A4 n4 c4 s1 P4 m4 d4 s2 := S5.upB hb6 (by omega)
  have TS6 : Two w6 w4.heap.size (.slice A4 n4 c4) (.slice P4 m4 d4) := TS5.up hb6
  have hz6 := hb6.size
  clear HB5 TA5 S5 TS5
  have TX7 := Two.made w6 26 (.slice A6 n6 c6) (.slice P6 m6 d6)
  have hb7 : Below w6.heap.size w6 (w6.alloc (.cells #[.slice A6 n6 c6, .slice P6 m6 d6] 26)) := below_new _ _
  have HB7 : Below w.heap.size w (w6.alloc (.cells #[.slice A6 n6 c6, .slice P6 m6 d6] 26)) := bt HB6 hb7
  have TA7 : Two (w6.alloc (.cells #[.slice A6 n6 c6, .slice P6 m6 d6] 26)) w.heap.size (.slice A n c) (.slice P m d) := TA6.up hb7
  have S7 : RdD (w6.alloc (.cells #[.slice A6 n6 c6, .slice P6 m6 d6] 26)) w4.heap.size A4 n4 c4 s1 P4 m4 d4 s2 := S6.upB hb7 (by omega)
  have TS7 : Two (w6.alloc (.cells #[.slice A6 n6 c6, .slice P6 m6 d6] 26)) w4.heap.size (.slice A4 n4 c4) (.slice P4 m4 d4) := TS6.up hb7
  have Y7 : OwnD (w6.alloc (.cells #[.slice A6 n6 c6, .slice P6 m6 d6] 26)) w5.heap.size w6.heap.size A6 n6 c6 xs P6 m6 d6 yss := Q6.up hb7
  have hz7 := hb7.size
  clear HB6 TA6 S6 TS6 Q6
  have hlTX := TX7.1
  obtain ⟨_, qTX0, qTX1, _, _⟩ := id TX7
  go_wp2_with fail
  clear qTX0 qTX1
  generalize (w6.alloc (.cells #[.slice A6 n6 c6, .slice P6 m6 d6] 26)) = w7 at *
  refine (KI _ _ _ _ _ _ _ Y7.rd (hg.up HB7)).mono ?_
  rintro e w8 ⟨A8, n8, c8, P8, m8, d8, rfl, Gd8, hb8⟩
  have HB8 : Below w.heap.size w w8 := bt HB7 hb8
  have TA8 : Two w8 w.heap.size (.slice A n c) (.slice P m d) := TA7.up hb8
  have S8 : RdD w8 w4.heap.size A4 n4 c4 s1 P4 m4 d4 s2 := S7.upB hb8 (by omega)
  have TS8 : Two w8 w4.heap.size (.slice A4 n4 c4) (.slice P4 m4 d4) := TS7.up hb8
  have Y8 : OwnD w8 w5.heap.size w6.heap.size A6 n6 c6 xs P6 m6 d6 yss := Y7.up hb8
  have TX8 : Two w8 w6.heap.size (.slice A6 n6 c6) (.slice P6 m6 d6) := TX7.up hb8
  have hz8 := hb8.size
  clear HB7 TA7 S7 TS7 Y7 TX7
  have TG9 := Two.made w8 26 (.slice A8 n8 c8) (.slice P8 m8 d8)
  have hb9 : Below w8.heap.size w8 (w8.alloc (.cells #[.slice A8 n8 c8, .slice P8 m8 d8] 26)) := below_new _ _
  have HB9 : Below w.heap.size w (w8.alloc (.cells #[.slice A8 n8 c8, .slice P8 m8 d8] 26)) := bt HB8 hb9
  have TA9 : Two (w8.alloc (.cells #[.slice A8 n8 c8, .slice P8 m8 d8] 26)) w.heap.size (.slice A n c) (.slice P m d) := TA8.up hb9
  have S9 : RdD (w8.alloc (.cells #[.slice A8 n8 c8, .slice P8 m8 d8] 26)) w4.heap.size A4 n4 c4 s1 P4 m4 d4 s2 := S8.upB hb9 (by omega)
  have TS9 : Two (w8.alloc (.cells #[.slice A8 n8 c8, .slice P8 m8 d8] 26)) w4.heap.size (.slice A4 n4 c4) (.slice P4 m4 d4) := TS8.up hb9
  have Y9 : OwnD (w8.alloc (.cells #[.slice A8 n8 c8, .slice P8 m8 d8] 26)) w5.heap.size w6.heap.size A6 n6 c6 xs P6 m6 d6 yss := Y8.up hb9
  have TX9 : Two (w8.alloc (.cells #[.slice A8 n8 c8, .slice P8 m8 d8] 26)) w6.heap.size (.slice A6 n6 c6) (.slice P6 m6 d6) := TX8.up hb9
  have Gd9 : OwnD (w8.alloc (.cells #[.slice A8 n8 c8, .slice P8 m8 d8] 26)) w7.heap.size w8.heap.size A8 n8 c8 s1 P8 m8 d8 s2 := Gd8.up hb9
  have hz9 := hb9.size
  clear HB8 TA8 S8 TS8 Y8 TX8 Gd8
  have hlTG := TG9.1
  obtain ⟨_, qTG0, qTG1, _, _⟩ := id TG9
  obtain ⟨_, qTS0, qTS1, _, _⟩ := id TS9
  go_wp2_with fail
  clear qTG0 qTG1 qTS0 qTS1
  generalize (w8.alloc (.cells #[.slice A8 n8 c8, .slice P8 m8 d8] 26)) = w9 at *
  refine (eqDesk_c A8 P8 A4 P4 n8 c8 m8 d8 n4 c4 m4 d4 _ _ _ _ _ Gd9.rd (S9.moreB (by omega))).mono ?_
  rintro e w15 ⟨rfl, hb15⟩
  rw [HQS.out]
  have HB15 : Below w.heap.size w w15 := bt HB9 hb15
  have TA15 : Two w15 w.heap.size (.slice A n c) (.slice P m d) := TA9.up hb15
  have S15 : RdD w15 w4.heap.size A4 n4 c4 s1 P4 m4 d4 s2 := S9.upB hb15 (by omega)
  have TS15 : Two w15 w4.heap.size (.slice A4 n4 c4) (.slice P4 m4 d4) := TS9.up hb15
  have Y15 : OwnD w15 w5.heap.size w6.heap.size A6 n6 c6 xs P6 m6 d6 yss := Y9.up hb15
  have TX15 : Two w15 w6.heap.size (.slice A6 n6 c6) (.slice P6 m6 d6) := TX9.up hb15
  have Gd15 : OwnD w15 w7.heap.size w8.heap.size A8 n8 c8 s1 P8 m8 d8 s2 := Gd9.up hb15
  have TG15 : Two w15 w8.heap.size (.slice A8 n8 c8) (.slice P8 m8 d8) := TG9.up hb15
  have hz15 := hb15.size
  clear HB9 TA9 S9 TS9 Y9 TX9 Gd9 TG9
  go_upto_region 12 with fail
  have HB16 : Below w.heap.size w w15.drew := bd HB15 1
  have TA16 : Two w15.drew w.heap.size (.slice A n c) (.slice P m d) := TA15.dn 1
  have S16 : RdD w15.drew w4.heap.size A4 n4 c4 s1 P4 m4 d4 s2 := S15.dnB 1
  have TS16 : Two w15.drew w4.heap.size (.slice A4 n4 c4) (.slice P4 m4 d4) := TS15.dn 1
  have Y16 : OwnD w15.drew w5.heap.size w6.heap.size A6 n6 c6 xs P6 m6 d6 yss := Y15.dn 1
  have TX16 : Two w15.drew w6.heap.size (.slice A6 n6 c6) (.slice P6 m6 d6) := TX15.dn 1
  have Gd16 : OwnD w15.drew w7.heap.size w8.heap.size A8 n8 c8 s1 P8 m8 d8 s2 := Gd15.dn 1
  have TG16 : Two w15.drew w8.heap.size (.slice A8 n8 c8) (.slice P8 m8 d8) := TG15.dn 1
  have hz16 : w15.heap.size ≤ w15.drew.heap.size := Nat.le_refl _
  clear HB15 TA15 S15 TS15 Y15 TX15 Gd15 TG15
  go_region_held3 (fun w' => World.cell? w' ⟨w6.heap.size, 0, none⟩ = some (.slice A6 n6 c6) ∧ World.cell? w' ⟨w6.heap.size, 1, none⟩ = some (.slice P6 m6 d6) ∧ World.cell? w' ⟨w.heap.size, 0, none⟩ = some (.slice A n c) ∧ World.cell? w' ⟨w.heap.size, 1, none⟩ = some (.slice P m d))
    (first
      | exact ⟨TX16.2.1, TX16.2.2.1, TA16.2.1, TA16.2.2.1⟩
      | exact ⟨TX17.2.1, TX17.2.2.1, TA17.2.1, TA17.2.2.1⟩
      | exact ⟨TX18.2.1, TX18.2.2.1, TA18.2.1, TA18.2.2.1⟩)
    (first
      | (go_at_call 22; refine (toDesk_d A P n c m d xs yss _ (X0.up HB16) hx hy).mono ?_; rintro e w17 ⟨A17, n17, c17, P17, m17, d17, rfl, h17, hb17⟩; have hz17 := hb17.size; have HB17 : Below w.heap.size w w17 := bt HB16 hb17; have TA17 : Two w17 w.heap.size (.slice A n c) (.slice P m d) := TA16.up hb17; have S17 : RdD w17 w4.heap.size A4 n4 c4 s1 P4 m4 d4 s2 := S16.upB hb17 (by omega); have TS17 : Two w17 w4.heap.size (.slice A4 n4 c4) (.slice P4 m4 d4) := TS16.up hb17; have Y17 : OwnD w17 w5.heap.size w6.heap.size A6 n6 c6 xs P6 m6 d6 yss := Y16.up hb17; have TX17 : Two w17 w6.heap.size (.slice A6 n6 c6) (.slice P6 m6 d6) := TX16.up hb17; have Gd17 : OwnD w17 w7.heap.size w8.heap.size A8 n8 c8 s1 P8 m8 d8 s2 := Gd16.up hb17; have TG17 : Two w17 w8.heap.size (.slice A8 n8 c8) (.slice P8 m8 d8) := TG16.up hb17)
      | (go_at_call 24; refine (eqDesk_c A6 P6 A17 P17 n6 c6 m6 d6 n17 c17 m17 d17 xs xs yss yss _ Y17.rd h17.rd).mono ?_; rintro e w18 ⟨rfl, hb18⟩; rw [HQX.out]; have hz18 := hb18.size; have HB18 : Below w.heap.size w w18 := bt HB17 hb18; have TA18 : Two w18 w.heap.size (.slice A n c) (.slice P m d) := TA17.up hb18; have S18 : RdD w18 w4.heap.size A4 n4 c4 s1 P4 m4 d4 s2 := S17.upB hb18 (by omega); have TS18 : Two w18 w4.heap.size (.slice A4 n4 c4) (.slice P4 m4 d4) := TS17.up hb18; have Y18 : OwnD w18 w5.heap.size w6.heap.size A6 n6 c6 xs P6 m6 d6 yss := Y17.up hb18; have TX18 : Two w18 w6.heap.size (.slice A6 n6 c6) (.slice P6 m6 d6) := TX17.up hb18; have Gd18 : OwnD w18 w7.heap.size w8.heap.size A8 n8 c8 s1 P8 m8 d8 s2 := Gd17.up hb18; have TG18 : Two w18 w8.heap.size (.slice A8 n8 c8) (.slice P8 m8 d8) := TG17.up hb18))
  all_goals
    obtain ⟨_, qTX0, qTX1, _, _⟩ := id TX18
    go_wp2_with fail
    clear qTX0 qTX1
    obtain ⟨hlx, hly⟩ := Y18.lens
    refine (markDesk_d A6 P6 n6 c6 m6 d6 1 w5.heap.size w6.heap.size xs yss _ Y18 (by omega) (by omega)).mono ?_
    rintro e w19 ⟨rfl, Y19, hc19⟩
    clear hlx hly
    have HB19 : Below w.heap.size w w19 := HB18.trans (hc19.belowLo (by omega) (by omega))
    have TA19 : Two w19 w.heap.size (.slice A n c) (.slice P m d) := TA18.chg hc19 (by omega)
    have S19 : RdD w19 w4.heap.size A4 n4 c4 s1 P4 m4 d4 s2 := S18.chgB hc19 (by omega) (by omega)
    have TS19 : Two w19 w4.heap.size (.slice A4 n4 c4) (.slice P4 m4 d4) := TS18.chg hc19 (by omega)
    have TX19 : Two w19 w6.heap.size (.slice A6 n6 c6) (.slice P6 m6 d6) := TX18.chg hc19 (by omega)
    have Gd19 : OwnD w19 w7.heap.size w8.heap.size A8 n8 c8 s1 P8 m8 d8 s2 := Gd18.chg hc19 (by omega)
    have TG19 : Two w19 w8.heap.size (.slice A8 n8 c8) (.slice P8 m8 d8) := TG18.chg hc19 (by omega)
    have hz19 := hc19.size
    clear HB18 TA18 S18 TS18 TX18 Gd18 TG18
    obtain ⟨_, qTG0, qTG1, _, _⟩ := id TG19
    obtain ⟨_, qTS0, qTS1, _, _⟩ := id TS19
    go_wp2_with fail
    clear qTG0 qTG1 qTS0 qTS1
    refine (eqDesk_c A8 P8 A4 P4 n8 c8 m8 d8 n4 c4 m4 d4 _ _ _ _ _ Gd19.rd (S19.moreB (by omega))).mono ?_
    rintro e w20 ⟨rfl, hb20⟩
    rw [HQS.out]
    have HB20 : Below w.heap.size w w20 := bt HB19 hb20
    have TA20 : Two w20 w.heap.size (.slice A n c) (.slice P m d) := TA19.up hb20
    have S20 : RdD w20 w4.heap.size A4 n4 c4 s1 P4 m4 d4 s2 := S19.upB hb20 (by omega)
    have TS20 : Two w20 w4.heap.size (.slice A4 n4 c4) (.slice P4 m4 d4) := TS19.up hb20
    have TX20 : Two w20 w6.heap.size (.slice A6 n6 c6) (.slice P6 m6 d6) := TX19.up hb20
    have Gd20 : OwnD w20 w7.heap.size w8.heap.size A8 n8 c8 s1 P8 m8 d8 s2 := Gd19.up hb20
    have TG20 : Two w20 w8.heap.size (.slice A8 n8 c8) (.slice P8 m8 d8) := TG19.up hb20
    have hz20 := hb20.size
    clear HB19 TA19 S19 TS19 TX19 Gd19 TG19
    obtain ⟨_, qTG0, qTG1, _, _⟩ := id TG20
    go_wp2_with fail
    clear qTG0 qTG1
    obtain ⟨hgx, hgy⟩ := Gd20.lens
    have hgn : n8 ≤ 7 := by omega
    clear hgx hgy
    refine (markDesk_d A8 P8 n8 c8 m8 d8 1 w7.heap.size w8.heap.size s1 s2 _ Gd20 (by omega) (by omega)).mono ?_
    rintro e w21 ⟨rfl, GN21, hc21⟩
    have HB21 : Below w.heap.size w w21 := HB20.trans (hc21.belowLo (by omega) (by omega))
    have TA21 : Two w21 w.heap.size (.slice A n c) (.slice P m d) := TA20.chg hc21 (by omega)
    have S21 : RdD w21 w4.heap.size A4 n4 c4 s1 P4 m4 d4 s2 := S20.chgB hc21 (by omega) (by omega)
    have TS21 : Two w21 w4.heap.size (.slice A4 n4 c4) (.slice P4 m4 d4) := TS20.chg hc21 (by omega)
    have TX21 : Two w21 w6.heap.size (.slice A6 n6 c6) (.slice P6 m6 d6) := TX20.chg hc21 (by omega)
    have TG21 : Two w21 w8.heap.size (.slice A8 n8 c8) (.slice P8 m8 d8) := TG20.chg hc21 (by omega)
    have hz21 := hc21.size
    clear HB20 TA20 S20 TS20 TX20 TG20
    obtain ⟨_, qTG0, qTG1, _, _⟩ := id TG21
    go_wp2_with fail
    clear qTG0 qTG1
    refine (heldDesk_d A8 P8 n8 c8 m8 d8 1 s2 _ GN21.rd (by omega)).mono ?_
    rintro e w22 ⟨rfl, hb22⟩
    have HB22 : Below w.heap.size w w22 := bt HB21 hb22
    have TA22 : Two w22 w.heap.size (.slice A n c) (.slice P m d) := TA21.up hb22
    have S22 : RdD w22 w4.heap.size A4 n4 c4 s1 P4 m4 d4 s2 := S21.upB hb22 (by omega)
    have TS22 : Two w22 w4.heap.size (.slice A4 n4 c4) (.slice P4 m4 d4) := TS21.up hb22
    have TX22 : Two w22 w6.heap.size (.slice A6 n6 c6) (.slice P6 m6 d6) := TX21.up hb22
    have TG22 : Two w22 w8.heap.size (.slice A8 n8 c8) (.slice P8 m8 d8) := TG21.up hb22
    have GN22 : OwnD w22 w7.heap.size w8.heap.size A8 n8 c8 (marks 1 n8) P8 m8 d8 (markR (1 + n8) s2) := GN21.up hb22
    have hz22 := hb22.size
    clear HB21 TA21 S21 TS21 TX21 TG21 GN21
    obtain ⟨_, qTA0, qTA1, _, _⟩ := id TA22
    go_wp2_with fail
    clear qTA0 qTA1
    refine (toDesk_d A P n c m d xs yss _ (X0.up HB22) hx hy).mono ?_
    rintro e w23 ⟨A23, n23, c23, P23, m23, d23, rfl, Q23, hb23⟩
    have HB23 : Below w.heap.size w w23 := bt HB22 hb23
    have TA23 : Two w23 w.heap.size (.slice A n c) (.slice P m d) := TA22.up hb23
    have S23 : RdD w23 w4.heap.size A4 n4 c4 s1 P4 m4 d4 s2 := S22.upB hb23 (by omega)
    have TS23 : Two w23 w4.heap.size (.slice A4 n4 c4) (.slice P4 m4 d4) := TS22.up hb23
    have TX23 : Two w23 w6.heap.size (.slice A6 n6 c6) (.slice P6 m6 d6) := TX22.up hb23
    have TG23 : Two w23 w8.heap.size (.slice A8 n8 c8) (.slice P8 m8 d8) := TG22.up hb23
    have GN23 : OwnD w23 w7.heap.size w8.heap.size A8 n8 c8 (marks 1 n8) P8 m8 d8 (markR (1 + n8) s2) := GN22.up hb23
    have hz23 := hb23.size
    clear HB22 TA22 S22 TS22 TX22 TG22 GN22
    go_wp2_with fail
    refine (KI _ _ _ _ _ _ _ Q23.rd (hg.up HB23)).mono ?_
    rintro e w24 ⟨A24, n24, c24, P24, m24, d24, rfl, H24, hb24⟩
    have HB24 : Below w.heap.size w w24 := bt HB23 hb24
    have TA24 : Two w24 w.heap.size (.slice A n c) (.slice P m d) := TA23.up hb24
    have S24 : RdD w24 w4.heap.size A4 n4 c4 s1 P4 m4 d4 s2 := S23.upB hb24 (by omega)
    have TS24 : Two w24 w4.heap.size (.slice A4 n4 c4) (.slice P4 m4 d4) := TS23.up hb24
    have TX24 : Two w24 w6.heap.size (.slice A6 n6 c6) (.slice P6 m6 d6) := TX23.up hb24
    have TG24 : Two w24 w8.heap.size (.slice A8 n8 c8) (.slice P8 m8 d8) := TG23.up hb24
    have GN24 : OwnD w24 w7.heap.size w8.heap.size A8 n8 c8 (marks 1 n8) P8 m8 d8 (markR (1 + n8) s2) := GN23.up hb24
    have hz24 := hb24.size
    clear HB23 TA23 S23 TS23 TX23 TG23 GN23
    have TH25 := Two.made w24 26 (.slice A24 n24 c24) (.slice P24 m24 d24)
    have hb25 : Below w24.heap.size w24 (w24.alloc (.cells #[.slice A24 n24 c24, .slice P24 m24 d24] 26)) := below_new _ _
    have HB25 : Below w.heap.size w (w24.alloc (.cells #[.slice A24 n24 c24, .slice P24 m24 d24] 26)) := bt HB24 hb25
    have TA25 : Two (w24.alloc (.cells #[.slice A24 n24 c24, .slice P24 m24 d24] 26)) w.heap.size (.slice A n c) (.slice P m d) := TA24.up hb25
    have S25 : RdD (w24.alloc (.cells #[.slice A24 n24 c24, .slice P24 m24 d24] 26)) w4.heap.size A4 n4 c4 s1 P4 m4 d4 s2 := S24.upB hb25 (by omega)
    have TS25 : Two (w24.alloc (.cells #[.slice A24 n24 c24, .slice P24 m24 d24] 26)) w4.heap.size (.slice A4 n4 c4) (.slice P4 m4 d4) := TS24.up hb25
    have TX25 : Two (w24.alloc (.cells #[.slice A24 n24 c24, .slice P24 m24 d24] 26)) w6.heap.size (.slice A6 n6 c6) (.slice P6 m6 d6) := TX24.up hb25
    have TG25 : Two (w24.alloc (.cells #[.slice A24 n24 c24, .slice P24 m24 d24] 26)) w8.heap.size (.slice A8 n8 c8) (.slice P8 m8 d8) := TG24.up hb25
    have GN25 : OwnD (w24.alloc (.cells #[.slice A24 n24 c24, .slice P24 m24 d24] 26)) w7.heap.size w8.heap.size A8 n8 c8 (marks 1 n8) P8 m8 d8 (markR (1 + n8) s2) := GN24.up hb25
    have H25 : OwnD (w24.alloc (.cells #[.slice A24 n24 c24, .slice P24 m24 d24] 26)) w23.heap.size w24.heap.size A24 n24 c24 s1 P24 m24 d24 s2 := H24.up hb25
    have hz25 := hb25.size
    clear HB24 TA24 S24 TS24 TX24 TG24 GN24 H24
    have hlTH := TH25.1
    obtain ⟨_, qTH0, qTH1, _, _⟩ := id TH25
    obtain ⟨_, qTS0, qTS1, _, _⟩ := id TS25
    go_wp2_with fail
    clear qTH0 qTH1 qTS0 qTS1
    generalize (w24.alloc (.cells #[.slice A24 n24 c24, .slice P24 m24 d24] 26)) = w25 at *
    refine (eqDesk_c A24 P24 A4 P4 n24 c24 m24 d24 n4 c4 m4 d4 _ _ _ _ _ H25.rd (S25.moreB (by omega))).mono ?_
    rintro e w28 ⟨rfl, hb28⟩
    rw [HQS.out]
    have HB28 : Below w.heap.size w w28 := bt HB25 hb28
    have TA28 : Two w28 w.heap.size (.slice A n c) (.slice P m d) := TA25.up hb28
    have S28 : RdD w28 w4.heap.size A4 n4 c4 s1 P4 m4 d4 s2 := S25.upB hb28 (by omega)
    have TS28 : Two w28 w4.heap.size (.slice A4 n4 c4) (.slice P4 m4 d4) := TS25.up hb28
    have TX28 : Two w28 w6.heap.size (.slice A6 n6 c6) (.slice P6 m6 d6) := TX25.up hb28
    have TG28 : Two w28 w8.heap.size (.slice A8 n8 c8) (.slice P8 m8 d8) := TG25.up hb28
    have GN28 : OwnD w28 w7.heap.size w8.heap.size A8 n8 c8 (marks 1 n8) P8 m8 d8 (markR (1 + n8) s2) := GN25.up hb28
    have H28 : OwnD w28 w23.heap.size w24.heap.size A24 n24 c24 s1 P24 m24 d24 s2 := H25.up hb28
    have TH28 : Two w28 w24.heap.size (.slice A24 n24 c24) (.slice P24 m24 d24) := TH25.up hb28
    have hz28 := hb28.size
    clear HB25 TA25 S25 TS25 TX25 TG25 GN25 H25 TH25
    obtain ⟨_, qTG0, qTG1, _, _⟩ := id TG28
    go_wp2_with fail
    clear qTG0 qTG1
    refine (heldDesk_d A8 P8 n8 c8 m8 d8 1 s2 _ GN28.rd (by omega)).mono ?_
    rintro e w29 ⟨rfl, hb29⟩
    have HBE := bt HB28 hb29
    go_wp2_with fail
    go_ret
    exact ⟨rfl, HBE⟩
end Go.Proofs.YtoinlkdmfclnbaaGreatDoor
