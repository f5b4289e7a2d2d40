/- Walks: the law FnExactDeskDo. Printed by gen_w91.py. -/
import Derived.Test.YtnpjelekpkgbpaaV13
namespace Go.Proofs.Ytnpjelekpkgbpaa
set_option linter.unusedVariables false
open Go.RowKit
set_option maxRecDepth 100000 in
set_option maxHeartbeats 6400000 in
theorem walk_FnExactDeskDo (A P : Option Addr) (n c m d : Nat) (xs : List Int) (yss : List (List Int)) (kd a b : Int) (s : ByteArray) (w : World) (X0 : RdD w w.heap.size A n c xs P m d yss) (hs : s.size ≤ maxLen) :
    Calls Try.prog 3 #[.agg #[.slice A n c, .slice P m d], .agg #[.int .i64 kd, .int .i64 a, .int .i64 b, .string s]] w fun e w' => e = .returned (.bool true) ∧ Below w.heap.size w w' := by
  have HA0 := Below.refl w.heap.size w
  go_enter Try.func3, Try.ntmps3
  go_wp2_with fail
  have TA1 := (Two.made w 25 (.slice A n c) (.slice P m d)).alloc (.cells #[.int .i64 kd, .int .i64 a, .int .i64 b, .string s] 27)
  have FA1 := Four.made (w.alloc (.cells #[.slice A n c, .slice P m d] 25)) 27 kd a b s
  have HB1 : Below w.heap.size w ((w.alloc (.cells #[.slice A n c, .slice P m d] 25)).alloc (.cells #[.int .i64 kd, .int .i64 a, .int .i64 b, .string s] 27)) := ((Below.refl _ _).alloc (Nat.le_refl _) _).alloc (by simp) _
  simp only [World.size_alloc] at FA1
  generalize ((w.alloc (.cells #[.slice A n c, .slice P m d] 25)).alloc (.cells #[.int .i64 kd, .int .i64 a, .int .i64 b, .string s] 27)) = w1 at *
  clear HA0
  have hz1 := HB1.size
  refine (szDesk_t A P n c m d xs yss _ (X0.up HB1)).mono ?_
  rintro e w2 ⟨r, rfl, hb2, hr0, hr1, hr2⟩
  have HB2 : Below w.heap.size w w2 := bt HB1 hb2
  have TA2 : Two w2 w.heap.size (.slice A n c) (.slice P m d) := TA1.up hb2
  have FA2 : Four w2 (w.heap.size + 1) kd a b s := FA1.up hb2
  have hz2 := hb2.size
  clear HB1 TA1 FA1
  by_cases hneg : r < 0
  · go_wp2_with fail
    go_ret
    exact ⟨rfl, HB2⟩
  have hfit := hr2 (by omega)
  obtain ⟨hx, hy⟩ := small_of hfit
  obtain ⟨_, qFA0, qFA1, qFA2, qFA3⟩ := id FA2
  go_wp2_with fail
  clear qFA0 qFA1 qFA2 qFA3
  refine (szDeed_c kd a b s r _ hs (by omega) hr1).mono ?_
  rintro e w3 ⟨r2, rfl, hb3, hq0, hq1, hq2⟩
  have HB3 : Below w.heap.size w w3 := bt HB2 hb3
  have TA3 : Two w3 w.heap.size (.slice A n c) (.slice P m d) := TA2.up hb3
  have FA3 : Four w3 (w.heap.size + 1) kd a b s := FA2.up hb3
  have hz3 := hb3.size
  clear HB2 TA2 FA2
  by_cases hneg2 : r2 < 0
  · go_wp2_with fail
    go_ret
    exact ⟨rfl, HB3⟩
  have hs2 := hq2 (by omega)
  have hs3 : s.size ≤ 1000000000000 := by omega
  obtain ⟨s1, s2, s3, ⟨hl1, hl2, hl3, hl4⟩, KS, KI⟩ := deskDo_any xs yss kd a b s hs3
  have HL4 := Lib.hid hl4
  have HQS : Hid ((eqB s1 s1 && eqBB s2 s2) = true) := Lib.hid (by rw [eqB_self, eqBB_self]; rfl)
  have HQX : Hid ((eqB xs xs && eqBB yss yss) = true) := Lib.hid (by rw [eqB_self, eqBB_self]; rfl)
  clear hq2 hr2 hl4
  go_upto_region 8 with fail
  go_cut [6, 7] (fun s6 s7 wx => CutS w3 wx s6 s7 s1 s2 s3)
  case first =>
    have hSTA : w.heap.size < w3.heap.size := TA3.1
    have hSFA : w.heap.size + 1 < w3.heap.size := FA3.1
    have HB4 : Below w.heap.size w w3.drew := bd HB3 1
    have TA4 : Two w3.drew w.heap.size (.slice A n c) (.slice P m d) := TA3.dn 1
    have FA4 : Four w3.drew (w.heap.size + 1) kd a b s := FA3.dn 1
    clear HB3 TA3 FA3
    have hz4 : w3.heap.size ≤ w3.drew.heap.size := Nat.le_refl _
    have KA4 : Hid (∀ o, World.cell? (w3.drew.alloc o) ⟨w.heap.size, 0, none⟩ = some (.slice A n c) ∧ World.cell? (w3.drew.alloc o) ⟨w.heap.size, 1, none⟩ = some (.slice P m d) ∧ World.cell? (w3.drew.alloc o) ⟨w.heap.size + 1, 0, none⟩ = some (.int .i64 kd) ∧ World.cell? (w3.drew.alloc o) ⟨w.heap.size + 1, 1, none⟩ = some (.int .i64 a) ∧ World.cell? (w3.drew.alloc o) ⟨w.heap.size + 1, 2, none⟩ = some (.int .i64 b) ∧ World.cell? (w3.drew.alloc o) ⟨w.heap.size + 1, 3, none⟩ = some (.string s)) := Lib.hid (fun o => ⟨(TA4.up ((Below.refl _ _).alloc (Nat.le_refl _) o)).2.1, (TA4.up ((Below.refl _ _).alloc (Nat.le_refl _) o)).2.2.1, (FA4.up ((Below.refl _ _).alloc (Nat.le_refl _) o)).2.1, (FA4.up ((Below.refl _ _).alloc (Nat.le_refl _) o)).2.2.1, (FA4.up ((Below.refl _ _).alloc (Nat.le_refl _) o)).2.2.2.1, (FA4.up ((Below.refl _ _).alloc (Nat.le_refl _) o)).2.2.2.2⟩)
    go_region_held3 (fun w' => World.cell? w' ⟨w.heap.size, 0, none⟩ = some (.slice A n c) ∧ World.cell? w' ⟨w.heap.size, 1, none⟩ = some (.slice P m d) ∧ World.cell? w' ⟨w.heap.size + 1, 0, none⟩ = some (.int .i64 kd) ∧ World.cell? w' ⟨w.heap.size + 1, 1, none⟩ = some (.int .i64 a) ∧ World.cell? w' ⟨w.heap.size + 1, 2, none⟩ = some (.int .i64 b) ∧ World.cell? w' ⟨w.heap.size + 1, 3, none⟩ = some (.string s))
      (first
        | exact ⟨TA4.2.1, TA4.2.2.1, FA4.2.1, FA4.2.2.1, FA4.2.2.2.1, FA4.2.2.2.2⟩
        | exact ⟨TA5.2.1, TA5.2.2.1, FA5.2.1, FA5.2.2.1, FA5.2.2.2.1, FA5.2.2.2.2⟩
        | exact ⟨TA6.2.1, TA6.2.2.1, FA6.2.1, FA6.2.2.1, FA6.2.2.2.1, FA6.2.2.2.2⟩
        | exact ⟨TA7.2.1, TA7.2.2.1, FA7.2.1, FA7.2.2.1, FA7.2.2.2.1, FA7.2.2.2.2⟩
        | exact KA4.out _
        | exact KA5.out _
        | exact KA6.out _
        | exact KA7.out _
        | exact KF.out _ _ _ (by omega))
      (first
        | (go_at_call 11; refine (toDesk_d A P n c m d xs yss _ (by first | exact X0.up HB4 | exact X0.up (bt HB4 ((Below.refl _ _).alloc (Nat.le_refl _) _))) hx hy).mono ?_; rintro e w5 ⟨A5, n5, c5, P5, m5, d5, rfl, h5, hx5⟩; have hb5 : Below w3.drew.heap.size w3.drew w5 := (by first | exact hx5 | exact below_of_alloc hx5); (try have tz5 : Two w5 w3.heap.size (.slice none 0 0) (.slice none 0 0) := (Two.made w3.drew _ _ _).up hx5); clear hx5; have hz5 := hb5.size; have HB5 : Below w.heap.size w w5 := bt HB4 hb5; have TA5 : Two w5 w.heap.size (.slice A n c) (.slice P m d) := TA4.up hb5; have FA5 : Four w5 (w.heap.size + 1) kd a b s := FA4.up hb5; have Q5 : OwnD w5 w3.drew.heap.size w5.heap.size A5 n5 c5 xs P5 m5 d5 yss := h5.wide (by first | exact Nat.le_refl _ | simp) (Nat.le_refl _); have KA5 : Hid (∀ o, World.cell? (w5.alloc o) ⟨w.heap.size, 0, none⟩ = some (.slice A n c) ∧ World.cell? (w5.alloc o) ⟨w.heap.size, 1, none⟩ = some (.slice P m d) ∧ World.cell? (w5.alloc o) ⟨w.heap.size + 1, 0, none⟩ = some (.int .i64 kd) ∧ World.cell? (w5.alloc o) ⟨w.heap.size + 1, 1, none⟩ = some (.int .i64 a) ∧ World.cell? (w5.alloc o) ⟨w.heap.size + 1, 2, none⟩ = some (.int .i64 b) ∧ World.cell? (w5.alloc o) ⟨w.heap.size + 1, 3, none⟩ = some (.string s)) := Lib.hid (fun o => ⟨(TA5.up ((Below.refl _ _).alloc (Nat.le_refl _) o)).2.1, (TA5.up ((Below.refl _ _).alloc (Nat.le_refl _) o)).2.2.1, (FA5.up ((Below.refl _ _).alloc (Nat.le_refl _) o)).2.1, (FA5.up ((Below.refl _ _).alloc (Nat.le_refl _) o)).2.2.1, (FA5.up ((Below.refl _ _).alloc (Nat.le_refl _) o)).2.2.2.1, (FA5.up ((Below.refl _ _).alloc (Nat.le_refl _) o)).2.2.2.2⟩))
        | (go_at_call 12; refine (toDeed_c kd a b s _).mono ?_; rintro e w6 ⟨rfl, hx6⟩; have hb6 : Below w5.heap.size w5 w6 := (by first | exact hx6 | exact below_of_alloc hx6); (try have tz6 : Two w6 w5.heap.size (.slice none 0 0) (.slice none 0 0) := (Two.made w5 _ _ _).up hx6); (try have hlz6 := tz5.1); (try have tz6 := tz5.up hx6); clear hx6; have hz6 := hb6.size; have HB6 : Below w.heap.size w w6 := bt HB5 hb6; have TA6 : Two w6 w.heap.size (.slice A n c) (.slice P m d) := TA5.up hb6; have FA6 : Four w6 (w.heap.size + 1) kd a b s := FA5.up hb6; have Q6 : OwnD w6 w3.drew.heap.size w5.heap.size A5 n5 c5 xs P5 m5 d5 yss := Q5.up hb6; have KA6 : Hid (∀ o, World.cell? (w6.alloc o) ⟨w.heap.size, 0, none⟩ = some (.slice A n c) ∧ World.cell? (w6.alloc o) ⟨w.heap.size, 1, none⟩ = some (.slice P m d) ∧ World.cell? (w6.alloc o) ⟨w.heap.size + 1, 0, none⟩ = some (.int .i64 kd) ∧ World.cell? (w6.alloc o) ⟨w.heap.size + 1, 1, none⟩ = some (.int .i64 a) ∧ World.cell? (w6.alloc o) ⟨w.heap.size + 1, 2, none⟩ = some (.int .i64 b) ∧ World.cell? (w6.alloc o) ⟨w.heap.size + 1, 3, none⟩ = some (.string s)) := Lib.hid (fun o => ⟨(TA6.up ((Below.refl _ _).alloc (Nat.le_refl _) o)).2.1, (TA6.up ((Below.refl _ _).alloc (Nat.le_refl _) o)).2.2.1, (FA6.up ((Below.refl _ _).alloc (Nat.le_refl _) o)).2.1, (FA6.up ((Below.refl _ _).alloc (Nat.le_refl _) o)).2.2.1, (FA6.up ((Below.refl _ _).alloc (Nat.le_refl _) o)).2.2.2.1, (FA6.up ((Below.refl _ _).alloc (Nat.le_refl _) o)).2.2.2.2⟩))
        | (go_at_call 10; refine (KS _ _ _ _ _ _ _ (by first | exact Q6.rd | exact (Q6.up ((Below.refl _ _).alloc (Nat.le_refl _) _)).rd)).mono ?_; rintro e w7 ⟨A7, n7, c7, P7, m7, d7, rfl, h7, hx7⟩; have hb7 : Below w6.heap.size w6 w7 := (by first | exact hx7 | exact below_of_alloc hx7); (try have tz7 : Two w7 w6.heap.size (.slice none 0 0) (.slice none 0 0) := (Two.made w6 _ _ _).up hx7); (try have hlz7 := tz6.1); (try have tz7 := tz6.up hx7); clear hx7; have hz7 := hb7.size; have HB7 : Below w.heap.size w w7 := bt HB6 hb7; have TA7 : Two w7 w.heap.size (.slice A n c) (.slice P m d) := TA6.up hb7; have FA7 : Four w7 (w.heap.size + 1) kd a b s := FA6.up hb7; have Q7 : OwnD w7 w3.drew.heap.size w5.heap.size A5 n5 c5 xs P5 m5 d5 yss := Q6.up hb7; have KA7 : Hid (∀ o, World.cell? (w7.alloc o) ⟨w.heap.size, 0, none⟩ = some (.slice A n c) ∧ World.cell? (w7.alloc o) ⟨w.heap.size, 1, none⟩ = some (.slice P m d) ∧ World.cell? (w7.alloc o) ⟨w.heap.size + 1, 0, none⟩ = some (.int .i64 kd) ∧ World.cell? (w7.alloc o) ⟨w.heap.size + 1, 1, none⟩ = some (.int .i64 a) ∧ World.cell? (w7.alloc o) ⟨w.heap.size + 1, 2, none⟩ = some (.int .i64 b) ∧ World.cell? (w7.alloc o) ⟨w.heap.size + 1, 3, none⟩ = some (.string s)) := Lib.hid (fun o => ⟨(TA7.up ((Below.refl _ _).alloc (Nat.le_refl _) o)).2.1, (TA7.up ((Below.refl _ _).alloc (Nat.le_refl _) o)).2.2.1, (FA7.up ((Below.refl _ _).alloc (Nat.le_refl _) o)).2.1, (FA7.up ((Below.refl _ _).alloc (Nat.le_refl _) o)).2.2.1, (FA7.up ((Below.refl _ _).alloc (Nat.le_refl _) o)).2.2.2.1, (FA7.up ((Below.refl _ _).alloc (Nat.le_refl _) o)).2.2.2.2⟩); have KF : Hid (∀ g u v, w3.heap.size ≤ g → World.cell? ((w7.setCell ⟨g, 0, none⟩ u).setCell ⟨g, 1, none⟩ v) ⟨w.heap.size, 0, none⟩ = some (.slice A n c) ∧ World.cell? ((w7.setCell ⟨g, 0, none⟩ u).setCell ⟨g, 1, none⟩ v) ⟨w.heap.size, 1, none⟩ = some (.slice P m d) ∧ World.cell? ((w7.setCell ⟨g, 0, none⟩ u).setCell ⟨g, 1, none⟩ v) ⟨w.heap.size + 1, 0, none⟩ = some (.int .i64 kd) ∧ World.cell? ((w7.setCell ⟨g, 0, none⟩ u).setCell ⟨g, 1, none⟩ v) ⟨w.heap.size + 1, 1, none⟩ = some (.int .i64 a) ∧ World.cell? ((w7.setCell ⟨g, 0, none⟩ u).setCell ⟨g, 1, none⟩ v) ⟨w.heap.size + 1, 2, none⟩ = some (.int .i64 b) ∧ World.cell? ((w7.setCell ⟨g, 0, none⟩ u).setCell ⟨g, 1, none⟩ v) ⟨w.heap.size + 1, 3, none⟩ = some (.string s)) := Lib.hid (fun g u v hg => ⟨farc (by omega) TA7.2.1, farc (by omega) TA7.2.2.1, farc (by omega) FA7.2.1, farc (by omega) FA7.2.2.1, farc (by omega) FA7.2.2.2.1, farc (by omega) FA7.2.2.2.2⟩); (try obtain ⟨_, z0, z1, z2, z3⟩ := id tz7)))
    all_goals
      go_wp2_with fail
      go_meet
      first
        | exact cutS_last (show Below w3.heap.size w3 w7 from bt (bt (bt (bd (Below.refl w3.heap.size w3) 1) hb5) hb6) hb7) h7
        | exact cutS_early (show Below w3.heap.size w3 w7 from bt (bt (bt (bd (Below.refl w3.heap.size w3) 1) hb5) hb6) hb7) h7 HL4.out tz7 (by omega)
  case rest =>
    obtain ⟨g8, A8, n8, c8, P8, m8, d8, rfl, rfl, TS8, hb8, S8⟩ := hcut
    generalize wc = w8 at *
    have HB8 : Below w.heap.size w w8 := bt HB3 hb8
    have TA8 : Two w8 w.heap.size (.slice A n c) (.slice P m d) := TA3.up hb8
    have FA8 : Four w8 (w.heap.size + 1) kd a b s := FA3.up hb8
    have hz8 := hb8.size
    clear HB3 TA3 FA3
    have hlTS8 := TS8.1
    obtain ⟨_, qTA0, qTA1, _, _⟩ := id TA8
    go_wp2_with fail
    clear qTA0 qTA1
    refine (toDesk_d A P n c m d xs yss _ (X0.up HB8) hx hy).mono ?_
    rintro e w9 ⟨A9, n9, c9, P9, m9, d9, rfl, Y9, hb9⟩
    have HB9 : Below w.heap.size w w9 := bt HB8 hb9
    have TA9 : Two w9 w.heap.size (.slice A n c) (.slice P m d) := TA8.up hb9
    have FA9 : Four w9 (w.heap.size + 1) kd a b s := FA8.up hb9
    have TS9 : Two w9 g8 (.slice A8 n8 c8) (.slice P8 m8 d8) := TS8.up hb9
    have S9 : RdD w9 w8.heap.size A8 n8 c8 s1 P8 m8 d8 s2 := S8.upB hb9 (by omega)
    have hz9 := hb9.size
    clear HB8 TA8 FA8 TS8 S8
    go_upto_region 10 with fail
    have TX10 := Two.made w9 30 (.slice A9 n9 c9) (.slice P9 m9 d9)
    have hb10 : Below w9.heap.size w9 (w9.alloc (.cells #[.slice A9 n9 c9, .slice P9 m9 d9] 30)) := below_new _ _
    have HB10 : Below w.heap.size w (w9.alloc (.cells #[.slice A9 n9 c9, .slice P9 m9 d9] 30)) := bt HB9 hb10
    have TA10 : Two (w9.alloc (.cells #[.slice A9 n9 c9, .slice P9 m9 d9] 30)) w.heap.size (.slice A n c) (.slice P m d) := TA9.up hb10
    have FA10 : Four (w9.alloc (.cells #[.slice A9 n9 c9, .slice P9 m9 d9] 30)) (w.heap.size + 1) kd a b s := FA9.up hb10
    have TS10 : Two (w9.alloc (.cells #[.slice A9 n9 c9, .slice P9 m9 d9] 30)) g8 (.slice A8 n8 c8) (.slice P8 m8 d8) := TS9.up hb10
    have S10 : RdD (w9.alloc (.cells #[.slice A9 n9 c9, .slice P9 m9 d9] 30)) w8.heap.size A8 n8 c8 s1 P8 m8 d8 s2 := S9.upB hb10 (by omega)
    have Y10 : OwnD (w9.alloc (.cells #[.slice A9 n9 c9, .slice P9 m9 d9] 30)) w8.heap.size w9.heap.size A9 n9 c9 xs P9 m9 d9 yss := Y9.up hb10
    have hz10 := hb10.size
    clear HB9 TA9 FA9 TS9 S9 Y9
    generalize (w9.alloc (.cells #[.slice A9 n9 c9, .slice P9 m9 d9] 30)) = w10 at *
    have hlTX := TX10.1
    go_upto_region 10 with fail
    go_cut [9, 10] (fun s9 s10 wx => CutR w10 wx s9 s10 s1 s2 s3)
    case first =>
      have hSTX : w9.heap.size < w10.heap.size := TX10.1
      have hSFA : w.heap.size + 1 < w10.heap.size := FA10.1
      have HB11 : Below w.heap.size w w10.drew := bd HB10 1
      have TA11 : Two w10.drew w.heap.size (.slice A n c) (.slice P m d) := TA10.dn 1
      have FA11 : Four w10.drew (w.heap.size + 1) kd a b s := FA10.dn 1
      have TS11 : Two w10.drew g8 (.slice A8 n8 c8) (.slice P8 m8 d8) := TS10.dn 1
      have S11 : RdD w10.drew w8.heap.size A8 n8 c8 s1 P8 m8 d8 s2 := S10.dnB 1
      have Y11 : OwnD w10.drew w8.heap.size w9.heap.size A9 n9 c9 xs P9 m9 d9 yss := Y10.dn 1
      have TX11 : Two w10.drew w9.heap.size (.slice A9 n9 c9) (.slice P9 m9 d9) := TX10.dn 1
      clear HB10 TA10 FA10 TS10 S10 Y10 TX10
      have hz11 : w10.heap.size ≤ w10.drew.heap.size := Nat.le_refl _
      have KA11 : Hid (∀ o, World.cell? (w10.drew.alloc o) ⟨w9.heap.size, 0, none⟩ = some (.slice A9 n9 c9) ∧ World.cell? (w10.drew.alloc o) ⟨w9.heap.size, 1, none⟩ = some (.slice P9 m9 d9) ∧ World.cell? (w10.drew.alloc o) ⟨w.heap.size + 1, 0, none⟩ = some (.int .i64 kd) ∧ World.cell? (w10.drew.alloc o) ⟨w.heap.size + 1, 1, none⟩ = some (.int .i64 a) ∧ World.cell? (w10.drew.alloc o) ⟨w.heap.size + 1, 2, none⟩ = some (.int .i64 b) ∧ World.cell? (w10.drew.alloc o) ⟨w.heap.size + 1, 3, none⟩ = some (.string s)) := Lib.hid (fun o => ⟨(TX11.up ((Below.refl _ _).alloc (Nat.le_refl _) o)).2.1, (TX11.up ((Below.refl _ _).alloc (Nat.le_refl _) o)).2.2.1, (FA11.up ((Below.refl _ _).alloc (Nat.le_refl _) o)).2.1, (FA11.up ((Below.refl _ _).alloc (Nat.le_refl _) o)).2.2.1, (FA11.up ((Below.refl _ _).alloc (Nat.le_refl _) o)).2.2.2.1, (FA11.up ((Below.refl _ _).alloc (Nat.le_refl _) o)).2.2.2.2⟩)
      go_region_held3 (fun w' => World.cell? w' ⟨w9.heap.size, 0, none⟩ = some (.slice A9 n9 c9) ∧ World.cell? w' ⟨w9.heap.size, 1, none⟩ = some (.slice P9 m9 d9) ∧ World.cell? w' ⟨w.heap.size + 1, 0, none⟩ = some (.int .i64 kd) ∧ World.cell? w' ⟨w.heap.size + 1, 1, none⟩ = some (.int .i64 a) ∧ World.cell? w' ⟨w.heap.size + 1, 2, none⟩ = some (.int .i64 b) ∧ World.cell? w' ⟨w.heap.size + 1, 3, none⟩ = some (.string s))
        (first
          | exact ⟨TX11.2.1, TX11.2.2.1, FA11.2.1, FA11.2.2.1, FA11.2.2.2.1, FA11.2.2.2.2⟩
          | exact ⟨TX12.2.1, TX12.2.2.1, FA12.2.1, FA12.2.2.1, FA12.2.2.2.1, FA12.2.2.2.2⟩
          | exact ⟨TX13.2.1, TX13.2.2.1, FA13.2.1, FA13.2.2.1, FA13.2.2.2.1, FA13.2.2.2.2⟩
          | exact KA11.out _
          | exact KA12.out _
          | exact KA13.out _
          | exact KF.out _ _ _ (by omega))
        (first
          | (go_at_call 12; refine (toDeed_c kd a b s _).mono ?_; rintro e w12 ⟨rfl, hx12⟩; have hb12 : Below w10.drew.heap.size w10.drew w12 := (by first | exact hx12 | exact below_of_alloc hx12); (try have tz12 : Two w12 w10.heap.size (.slice none 0 0) (.slice none 0 0) := (Two.made w10.drew _ _ _).up hx12); clear hx12; have hz12 := hb12.size; have HB12 : Below w.heap.size w w12 := bt HB11 hb12; have TA12 : Two w12 w.heap.size (.slice A n c) (.slice P m d) := TA11.up hb12; have FA12 : Four w12 (w.heap.size + 1) kd a b s := FA11.up hb12; have TS12 : Two w12 g8 (.slice A8 n8 c8) (.slice P8 m8 d8) := TS11.up hb12; have S12 : RdD w12 w8.heap.size A8 n8 c8 s1 P8 m8 d8 s2 := S11.upB hb12 (by omega); have Y12 : OwnD w12 w8.heap.size w9.heap.size A9 n9 c9 xs P9 m9 d9 yss := Y11.up hb12; have TX12 : Two w12 w9.heap.size (.slice A9 n9 c9) (.slice P9 m9 d9) := TX11.up hb12; have KA12 : Hid (∀ o, World.cell? (w12.alloc o) ⟨w9.heap.size, 0, none⟩ = some (.slice A9 n9 c9) ∧ World.cell? (w12.alloc o) ⟨w9.heap.size, 1, none⟩ = some (.slice P9 m9 d9) ∧ World.cell? (w12.alloc o) ⟨w.heap.size + 1, 0, none⟩ = some (.int .i64 kd) ∧ World.cell? (w12.alloc o) ⟨w.heap.size + 1, 1, none⟩ = some (.int .i64 a) ∧ World.cell? (w12.alloc o) ⟨w.heap.size + 1, 2, none⟩ = some (.int .i64 b) ∧ World.cell? (w12.alloc o) ⟨w.heap.size + 1, 3, none⟩ = some (.string s)) := Lib.hid (fun o => ⟨(TX12.up ((Below.refl _ _).alloc (Nat.le_refl _) o)).2.1, (TX12.up ((Below.refl _ _).alloc (Nat.le_refl _) o)).2.2.1, (FA12.up ((Below.refl _ _).alloc (Nat.le_refl _) o)).2.1, (FA12.up ((Below.refl _ _).alloc (Nat.le_refl _) o)).2.2.1, (FA12.up ((Below.refl _ _).alloc (Nat.le_refl _) o)).2.2.2.1, (FA12.up ((Below.refl _ _).alloc (Nat.le_refl _) o)).2.2.2.2⟩))
          | (go_at_call 13; refine (KI _ _ _ _ _ _ _ (by first | exact Y12.rd | exact (Y12.up ((Below.refl _ _).alloc (Nat.le_refl _) _)).rd)).mono ?_; rintro e w13 ⟨A13, n13, c13, P13, m13, d13, rfl, h13, hx13⟩; have hb13 : Below w12.heap.size w12 w13 := (by first | exact hx13 | exact below_of_alloc hx13); (try have tz13 : Two w13 w12.heap.size (.slice none 0 0) (.slice none 0 0) := (Two.made w12 _ _ _).up hx13); (try have hlz13 := tz12.1); (try have tz13 := tz12.up hx13); clear hx13; have hz13 := hb13.size; have HB13 : Below w.heap.size w w13 := bt HB12 hb13; have TA13 : Two w13 w.heap.size (.slice A n c) (.slice P m d) := TA12.up hb13; have FA13 : Four w13 (w.heap.size + 1) kd a b s := FA12.up hb13; have TS13 : Two w13 g8 (.slice A8 n8 c8) (.slice P8 m8 d8) := TS12.up hb13; have S13 : RdD w13 w8.heap.size A8 n8 c8 s1 P8 m8 d8 s2 := S12.upB hb13 (by omega); have Y13 : OwnD w13 w8.heap.size w9.heap.size A9 n9 c9 xs P9 m9 d9 yss := Y12.up hb13; have TX13 : Two w13 w9.heap.size (.slice A9 n9 c9) (.slice P9 m9 d9) := TX12.up hb13; have hO13 : OwnD w13 w12.heap.size w13.heap.size A13 n13 c13 s1 P13 m13 d13 s2 := h13.wide (by first | exact Nat.le_refl _ | simp) (Nat.le_refl _); (try have hE13 : OwnD w13 (w12.heap.size + 1) w13.heap.size A13 n13 c13 s1 P13 m13 d13 s2 := h13.wide (by simp) (Nat.le_refl _)); have KA13 : Hid (∀ o, World.cell? (w13.alloc o) ⟨w9.heap.size, 0, none⟩ = some (.slice A9 n9 c9) ∧ World.cell? (w13.alloc o) ⟨w9.heap.size, 1, none⟩ = some (.slice P9 m9 d9) ∧ World.cell? (w13.alloc o) ⟨w.heap.size + 1, 0, none⟩ = some (.int .i64 kd) ∧ World.cell? (w13.alloc o) ⟨w.heap.size + 1, 1, none⟩ = some (.int .i64 a) ∧ World.cell? (w13.alloc o) ⟨w.heap.size + 1, 2, none⟩ = some (.int .i64 b) ∧ World.cell? (w13.alloc o) ⟨w.heap.size + 1, 3, none⟩ = some (.string s)) := Lib.hid (fun o => ⟨(TX13.up ((Below.refl _ _).alloc (Nat.le_refl _) o)).2.1, (TX13.up ((Below.refl _ _).alloc (Nat.le_refl _) o)).2.2.1, (FA13.up ((Below.refl _ _).alloc (Nat.le_refl _) o)).2.1, (FA13.up ((Below.refl _ _).alloc (Nat.le_refl _) o)).2.2.1, (FA13.up ((Below.refl _ _).alloc (Nat.le_refl _) o)).2.2.2.1, (FA13.up ((Below.refl _ _).alloc (Nat.le_refl _) o)).2.2.2.2⟩); have KF : Hid (∀ g u v, w10.heap.size ≤ g → World.cell? ((w13.setCell ⟨g, 0, none⟩ u).setCell ⟨g, 1, none⟩ v) ⟨w9.heap.size, 0, none⟩ = some (.slice A9 n9 c9) ∧ World.cell? ((w13.setCell ⟨g, 0, none⟩ u).setCell ⟨g, 1, none⟩ v) ⟨w9.heap.size, 1, none⟩ = some (.slice P9 m9 d9) ∧ World.cell? ((w13.setCell ⟨g, 0, none⟩ u).setCell ⟨g, 1, none⟩ v) ⟨w.heap.size + 1, 0, none⟩ = some (.int .i64 kd) ∧ World.cell? ((w13.setCell ⟨g, 0, none⟩ u).setCell ⟨g, 1, none⟩ v) ⟨w.heap.size + 1, 1, none⟩ = some (.int .i64 a) ∧ World.cell? ((w13.setCell ⟨g, 0, none⟩ u).setCell ⟨g, 1, none⟩ v) ⟨w.heap.size + 1, 2, none⟩ = some (.int .i64 b) ∧ World.cell? ((w13.setCell ⟨g, 0, none⟩ u).setCell ⟨g, 1, none⟩ v) ⟨w.heap.size + 1, 3, none⟩ = some (.string s)) := Lib.hid (fun g u v hg => ⟨farc (by omega) TX13.2.1, farc (by omega) TX13.2.2.1, farc (by omega) FA13.2.1, farc (by omega) FA13.2.2.1, farc (by omega) FA13.2.2.2.1, farc (by omega) FA13.2.2.2.2⟩); (try obtain ⟨_, z0, z1, z2, z3⟩ := id tz13)))
      all_goals
        go_wp2_with fail
        go_meet
        first
          | exact cutR_last (show Below w10.heap.size w10 w13 from bt (bt (bd (Below.refl w10.heap.size w10) 1) hb12) hb13) hO13 (by omega) (Nat.le_refl _)
          | exact cutR_early (show Below w10.heap.size w10 w13 from bt (bt (bd (Below.refl w10.heap.size w10) 1) hb12) hb13) hO13 (by omega) (Nat.le_refl _) tz13 (by omega) (by omega)
          | exact cutR_early (show Below w10.heap.size w10 w13 from bt (bt (bd (Below.refl w10.heap.size w10) 1) hb12) hb13) hE13 (by omega) (Nat.le_refl _) tz13 (by omega) (by omega)
    case rest =>
      obtain ⟨g14, A14, n14, c14, P14, m14, d14, lo14, hi14, rfl, rfl, TG14, hb14, Gd14, hlo14, hhi14, hd14, hg14⟩ := hcut
      generalize wc = w14 at *
      have HB14 : Below w.heap.size w w14 := bt HB10 hb14
      have TA14 : Two w14 w.heap.size (.slice A n c) (.slice P m d) := TA10.up hb14
      have FA14 : Four w14 (w.heap.size + 1) kd a b s := FA10.up hb14
      have TS14 : Two w14 g8 (.slice A8 n8 c8) (.slice P8 m8 d8) := TS10.up hb14
      have S14 : RdD w14 w8.heap.size A8 n8 c8 s1 P8 m8 d8 s2 := S10.upB hb14 (by omega)
      have Y14 : OwnD w14 w8.heap.size w9.heap.size A9 n9 c9 xs P9 m9 d9 yss := Y10.up hb14
      have TX14 : Two w14 w9.heap.size (.slice A9 n9 c9) (.slice P9 m9 d9) := TX10.up hb14
      have hz14 := hb14.size
      clear HB10 TA10 FA10 TS10 S10 Y10 TX10
      have hlTG14 := TG14.1
      obtain ⟨_, qTG0, qTG1, _, _⟩ := id TG14
      obtain ⟨_, qTS0, qTS1, _, _⟩ := id TS14
      go_wp2_with fail
      clear qTG0 qTG1 qTS0 qTS1
      refine (eqDesk_c A14 P14 A8 P8 n14 c14 m14 d14 n8 c8 m8 d8 _ _ _ _ _ Gd14.rd (S14.moreB (by omega))).mono ?_
      rintro e w15 ⟨rfl, hb15⟩
      rw [HQS.out]
      have HB15 : Below w.heap.size w w15 := bt HB14 hb15
      have TA15 : Two w15 w.heap.size (.slice A n c) (.slice P m d) := TA14.up hb15
      have FA15 : Four w15 (w.heap.size + 1) kd a b s := FA14.up hb15
      have TS15 : Two w15 g8 (.slice A8 n8 c8) (.slice P8 m8 d8) := TS14.up hb15
      have S15 : RdD w15 w8.heap.size A8 n8 c8 s1 P8 m8 d8 s2 := S14.upB hb15 (by omega)
      have Y15 : OwnD w15 w8.heap.size w9.heap.size A9 n9 c9 xs P9 m9 d9 yss := Y14.up hb15
      have TX15 : Two w15 w9.heap.size (.slice A9 n9 c9) (.slice P9 m9 d9) := TX14.up hb15
      have TG15 : Two w15 g14 (.slice A14 n14 c14) (.slice P14 m14 d14) := TG14.up hb15
      have Gd15 : OwnD w15 lo14 hi14 A14 n14 c14 s1 P14 m14 d14 s2 := Gd14.up hb15
      have hz15 := hb15.size
      clear HB14 TA14 FA14 TS14 S14 Y14 TX14 TG14 Gd14
      go_upto_region 13 with fail
      have HB16 : Below w.heap.size w w15.drew := bd HB15 1
      have TA16 : Two w15.drew w.heap.size (.slice A n c) (.slice P m d) := TA15.dn 1
      have FA16 : Four w15.drew (w.heap.size + 1) kd a b s := FA15.dn 1
      have TS16 : Two w15.drew g8 (.slice A8 n8 c8) (.slice P8 m8 d8) := TS15.dn 1
      have S16 : RdD w15.drew w8.heap.size A8 n8 c8 s1 P8 m8 d8 s2 := S15.dnB 1
      have Y16 : OwnD w15.drew w8.heap.size w9.heap.size A9 n9 c9 xs P9 m9 d9 yss := Y15.dn 1
      have TX16 : Two w15.drew w9.heap.size (.slice A9 n9 c9) (.slice P9 m9 d9) := TX15.dn 1
      have TG16 : Two w15.drew g14 (.slice A14 n14 c14) (.slice P14 m14 d14) := TG15.dn 1
      have Gd16 : OwnD w15.drew lo14 hi14 A14 n14 c14 s1 P14 m14 d14 s2 := Gd15.dn 1
      have hz16 : w15.heap.size ≤ w15.drew.heap.size := Nat.le_refl _
      clear HB15 TA15 FA15 TS15 S15 Y15 TX15 TG15 Gd15
      go_region_held3 (fun w' => World.cell? w' ⟨w9.heap.size, 0, none⟩ = some (.slice A9 n9 c9) ∧ World.cell? w' ⟨w9.heap.size, 1, none⟩ = some (.slice P9 m9 d9) ∧ World.cell? w' ⟨w.heap.size, 0, none⟩ = some (.slice A n c) ∧ World.cell? w' ⟨w.heap.size, 1, none⟩ = some (.slice P m d))
        (first
          | exact ⟨TX16.2.1, TX16.2.2.1, TA16.2.1, TA16.2.2.1⟩
          | exact ⟨TX17.2.1, TX17.2.2.1, TA17.2.1, TA17.2.2.1⟩
          | exact ⟨TX18.2.1, TX18.2.2.1, TA18.2.1, TA18.2.2.1⟩)
        (first
          | (go_at_call 11; refine (toDesk_d A P n c m d xs yss _ (X0.up HB16) hx hy).mono ?_; rintro e w17 ⟨A17, n17, c17, P17, m17, d17, rfl, h17, hb17⟩; have hz17 := hb17.size; have HB17 : Below w.heap.size w w17 := bt HB16 hb17; have TA17 : Two w17 w.heap.size (.slice A n c) (.slice P m d) := TA16.up hb17; have FA17 : Four w17 (w.heap.size + 1) kd a b s := FA16.up hb17; have TS17 : Two w17 g8 (.slice A8 n8 c8) (.slice P8 m8 d8) := TS16.up hb17; have S17 : RdD w17 w8.heap.size A8 n8 c8 s1 P8 m8 d8 s2 := S16.upB hb17 (by omega); have Y17 : OwnD w17 w8.heap.size w9.heap.size A9 n9 c9 xs P9 m9 d9 yss := Y16.up hb17; have TX17 : Two w17 w9.heap.size (.slice A9 n9 c9) (.slice P9 m9 d9) := TX16.up hb17; have TG17 : Two w17 g14 (.slice A14 n14 c14) (.slice P14 m14 d14) := TG16.up hb17; have Gd17 : OwnD w17 lo14 hi14 A14 n14 c14 s1 P14 m14 d14 s2 := Gd16.up hb17)
          | (go_at_call 14; refine (eqDesk_c A9 P9 A17 P17 n9 c9 m9 d9 n17 c17 m17 d17 xs xs yss yss _ Y17.rd h17.rd).mono ?_; rintro e w18 ⟨rfl, hb18⟩; rw [HQX.out]; have hz18 := hb18.size; have HB18 : Below w.heap.size w w18 := bt HB17 hb18; have TA18 : Two w18 w.heap.size (.slice A n c) (.slice P m d) := TA17.up hb18; have FA18 : Four w18 (w.heap.size + 1) kd a b s := FA17.up hb18; have TS18 : Two w18 g8 (.slice A8 n8 c8) (.slice P8 m8 d8) := TS17.up hb18; have S18 : RdD w18 w8.heap.size A8 n8 c8 s1 P8 m8 d8 s2 := S17.upB hb18 (by omega); have Y18 : OwnD w18 w8.heap.size w9.heap.size A9 n9 c9 xs P9 m9 d9 yss := Y17.up hb18; have TX18 : Two w18 w9.heap.size (.slice A9 n9 c9) (.slice P9 m9 d9) := TX17.up hb18; have TG18 : Two w18 g14 (.slice A14 n14 c14) (.slice P14 m14 d14) := TG17.up hb18; have Gd18 : OwnD w18 lo14 hi14 A14 n14 c14 s1 P14 m14 d14 s2 := Gd17.up hb18))
      all_goals
        obtain ⟨_, qTX0, qTX1, _, _⟩ := id TX18
        go_wp2_with fail
        clear qTX0 qTX1
        obtain ⟨hlx, hly⟩ := Y18.lens
        refine (markDesk_d A9 P9 n9 c9 m9 d9 1 w8.heap.size w9.heap.size xs yss _ Y18 (by omega) (by omega)).mono ?_
        rintro e w19 ⟨rfl, Y19, hc19⟩
        clear hlx hly
        have HB19 : Below w.heap.size w w19 := HB18.trans (hc19.belowLo (by omega) (by omega))
        have TA19 : Two w19 w.heap.size (.slice A n c) (.slice P m d) := TA18.chg hc19 (by omega)
        have FA19 : Four w19 (w.heap.size + 1) kd a b s := FA18.chg hc19 (by omega)
        have TS19 : Two w19 g8 (.slice A8 n8 c8) (.slice P8 m8 d8) := TS18.chg hc19 (by omega)
        have S19 : RdD w19 w8.heap.size A8 n8 c8 s1 P8 m8 d8 s2 := S18.chgB hc19 (by omega) (by omega)
        have TX19 : Two w19 w9.heap.size (.slice A9 n9 c9) (.slice P9 m9 d9) := TX18.chg hc19 (by omega)
        have TG19 : Two w19 g14 (.slice A14 n14 c14) (.slice P14 m14 d14) := TG18.chg hc19 (by omega)
        have Gd19 : OwnD w19 lo14 hi14 A14 n14 c14 s1 P14 m14 d14 s2 := Gd18.chg hc19 (by omega)
        have hz19 := hc19.size
        clear HB18 TA18 FA18 TS18 S18 TX18 TG18 Gd18
        obtain ⟨_, qTG0, qTG1, _, _⟩ := id TG19
        obtain ⟨_, qTS0, qTS1, _, _⟩ := id TS19
        go_wp2_with fail
        clear qTG0 qTG1 qTS0 qTS1
        refine (eqDesk_c A14 P14 A8 P8 n14 c14 m14 d14 n8 c8 m8 d8 _ _ _ _ _ Gd19.rd (S19.moreB (by omega))).mono ?_
        rintro e w20 ⟨rfl, hb20⟩
        rw [HQS.out]
        have HB20 : Below w.heap.size w w20 := bt HB19 hb20
        have TA20 : Two w20 w.heap.size (.slice A n c) (.slice P m d) := TA19.up hb20
        have FA20 : Four w20 (w.heap.size + 1) kd a b s := FA19.up hb20
        have TS20 : Two w20 g8 (.slice A8 n8 c8) (.slice P8 m8 d8) := TS19.up hb20
        have S20 : RdD w20 w8.heap.size A8 n8 c8 s1 P8 m8 d8 s2 := S19.upB hb20 (by omega)
        have TX20 : Two w20 w9.heap.size (.slice A9 n9 c9) (.slice P9 m9 d9) := TX19.up hb20
        have TG20 : Two w20 g14 (.slice A14 n14 c14) (.slice P14 m14 d14) := TG19.up hb20
        have Gd20 : OwnD w20 lo14 hi14 A14 n14 c14 s1 P14 m14 d14 s2 := Gd19.up hb20
        have hz20 := hb20.size
        clear HB19 TA19 FA19 TS19 S19 TX19 TG19 Gd19
        obtain ⟨_, qTG0, qTG1, _, _⟩ := id TG20
        go_wp2_with fail
        clear qTG0 qTG1
        obtain ⟨hgx, hgy⟩ := Gd20.lens
        have hgn : n14 ≤ 7 := by omega
        clear hgx hgy
        refine (markDesk_d A14 P14 n14 c14 m14 d14 1 lo14 hi14 s1 s2 _ Gd20 (by omega) (by omega)).mono ?_
        rintro e w21 ⟨rfl, GN21, hc21⟩
        have HB21 : Below w.heap.size w w21 := HB20.trans (hc21.belowLo (by omega) (by omega))
        have TA21 : Two w21 w.heap.size (.slice A n c) (.slice P m d) := TA20.chg hc21 (by omega)
        have FA21 : Four w21 (w.heap.size + 1) kd a b s := FA20.chg hc21 (by omega)
        have TS21 : Two w21 g8 (.slice A8 n8 c8) (.slice P8 m8 d8) := TS20.chg hc21 (by omega)
        have S21 : RdD w21 w8.heap.size A8 n8 c8 s1 P8 m8 d8 s2 := S20.chgB hc21 (by omega) (by omega)
        have TX21 : Two w21 w9.heap.size (.slice A9 n9 c9) (.slice P9 m9 d9) := TX20.chg hc21 (by omega)
        have TG21 : Two w21 g14 (.slice A14 n14 c14) (.slice P14 m14 d14) := TG20.chg hc21 (by omega)
        have hz21 := hc21.size
        clear HB20 TA20 FA20 TS20 S20 TX20 TG20
        obtain ⟨_, qTG0, qTG1, _, _⟩ := id TG21
        go_wp2_with fail
        clear qTG0 qTG1
        refine (heldDesk_d A14 P14 n14 c14 m14 d14 1 s2 _ GN21.rd (by omega)).mono ?_
        rintro e w22 ⟨rfl, hb22⟩
        have HB22 : Below w.heap.size w w22 := bt HB21 hb22
        have TA22 : Two w22 w.heap.size (.slice A n c) (.slice P m d) := TA21.up hb22
        have FA22 : Four w22 (w.heap.size + 1) kd a b s := FA21.up hb22
        have TS22 : Two w22 g8 (.slice A8 n8 c8) (.slice P8 m8 d8) := TS21.up hb22
        have S22 : RdD w22 w8.heap.size A8 n8 c8 s1 P8 m8 d8 s2 := S21.upB hb22 (by omega)
        have TX22 : Two w22 w9.heap.size (.slice A9 n9 c9) (.slice P9 m9 d9) := TX21.up hb22
        have TG22 : Two w22 g14 (.slice A14 n14 c14) (.slice P14 m14 d14) := TG21.up hb22
        have GN22 : OwnD w22 lo14 hi14 A14 n14 c14 (marks 1 n14) P14 m14 d14 (markR (1 + n14) s2) := GN21.up hb22
        have hz22 := hb22.size
        clear HB21 TA21 FA21 TS21 S21 TX21 TG21 GN21
        go_upto_region 27 with fail
        go_cut [14, 15] (fun s14 s15 wx => CutR w22 wx s14 s15 s1 s2 s3)
        case first =>
          have hSTA : w.heap.size < w22.heap.size := TA22.1
          have hSFA : w.heap.size + 1 < w22.heap.size := FA22.1
          have HB23 : Below w.heap.size w w22.drew := bd HB22 1
          have TA23 : Two w22.drew w.heap.size (.slice A n c) (.slice P m d) := TA22.dn 1
          have FA23 : Four w22.drew (w.heap.size + 1) kd a b s := FA22.dn 1
          have TS23 : Two w22.drew g8 (.slice A8 n8 c8) (.slice P8 m8 d8) := TS22.dn 1
          have S23 : RdD w22.drew w8.heap.size A8 n8 c8 s1 P8 m8 d8 s2 := S22.dnB 1
          have TX23 : Two w22.drew w9.heap.size (.slice A9 n9 c9) (.slice P9 m9 d9) := TX22.dn 1
          have TG23 : Two w22.drew g14 (.slice A14 n14 c14) (.slice P14 m14 d14) := TG22.dn 1
          have GN23 : OwnD w22.drew lo14 hi14 A14 n14 c14 (marks 1 n14) P14 m14 d14 (markR (1 + n14) s2) := GN22.dn 1
          clear HB22 TA22 FA22 TS22 S22 TX22 TG22 GN22
          have hz23 : w22.heap.size ≤ w22.drew.heap.size := Nat.le_refl _
          have KA23 : Hid (∀ o, World.cell? (w22.drew.alloc o) ⟨w.heap.size, 0, none⟩ = some (.slice A n c) ∧ World.cell? (w22.drew.alloc o) ⟨w.heap.size, 1, none⟩ = some (.slice P m d) ∧ World.cell? (w22.drew.alloc o) ⟨w.heap.size + 1, 0, none⟩ = some (.int .i64 kd) ∧ World.cell? (w22.drew.alloc o) ⟨w.heap.size + 1, 1, none⟩ = some (.int .i64 a) ∧ World.cell? (w22.drew.alloc o) ⟨w.heap.size + 1, 2, none⟩ = some (.int .i64 b) ∧ World.cell? (w22.drew.alloc o) ⟨w.heap.size + 1, 3, none⟩ = some (.string s)) := Lib.hid (fun o => ⟨(TA23.up ((Below.refl _ _).alloc (Nat.le_refl _) o)).2.1, (TA23.up ((Below.refl _ _).alloc (Nat.le_refl _) o)).2.2.1, (FA23.up ((Below.refl _ _).alloc (Nat.le_refl _) o)).2.1, (FA23.up ((Below.refl _ _).alloc (Nat.le_refl _) o)).2.2.1, (FA23.up ((Below.refl _ _).alloc (Nat.le_refl _) o)).2.2.2.1, (FA23.up ((Below.refl _ _).alloc (Nat.le_refl _) o)).2.2.2.2⟩)
          go_region_held3 (fun w' => World.cell? w' ⟨w.heap.size, 0, none⟩ = some (.slice A n c) ∧ World.cell? w' ⟨w.heap.size, 1, none⟩ = some (.slice P m d) ∧ World.cell? w' ⟨w.heap.size + 1, 0, none⟩ = some (.int .i64 kd) ∧ World.cell? w' ⟨w.heap.size + 1, 1, none⟩ = some (.int .i64 a) ∧ World.cell? w' ⟨w.heap.size + 1, 2, none⟩ = some (.int .i64 b) ∧ World.cell? w' ⟨w.heap.size + 1, 3, none⟩ = some (.string s))
            (first
              | exact ⟨TA23.2.1, TA23.2.2.1, FA23.2.1, FA23.2.2.1, FA23.2.2.2.1, FA23.2.2.2.2⟩
              | exact ⟨TA24.2.1, TA24.2.2.1, FA24.2.1, FA24.2.2.1, FA24.2.2.2.1, FA24.2.2.2.2⟩
              | exact ⟨TA25.2.1, TA25.2.2.1, FA25.2.1, FA25.2.2.1, FA25.2.2.2.1, FA25.2.2.2.2⟩
              | exact ⟨TA26.2.1, TA26.2.2.1, FA26.2.1, FA26.2.2.1, FA26.2.2.2.1, FA26.2.2.2.2⟩
              | exact KA23.out _
              | exact KA24.out _
              | exact KA25.out _
              | exact KA26.out _
              | exact KF.out _ _ _ (by omega))
            (first
              | (go_at_call 11; refine (toDesk_d A P n c m d xs yss _ (by first | exact X0.up HB23 | exact X0.up (bt HB23 ((Below.refl _ _).alloc (Nat.le_refl _) _))) hx hy).mono ?_; rintro e w24 ⟨A24, n24, c24, P24, m24, d24, rfl, h24, hx24⟩; have hb24 : Below w22.drew.heap.size w22.drew w24 := (by first | exact hx24 | exact below_of_alloc hx24); (try have tz24 : Two w24 w22.heap.size (.slice none 0 0) (.slice none 0 0) := (Two.made w22.drew _ _ _).up hx24); clear hx24; have hz24 := hb24.size; have HB24 : Below w.heap.size w w24 := bt HB23 hb24; have TA24 : Two w24 w.heap.size (.slice A n c) (.slice P m d) := TA23.up hb24; have FA24 : Four w24 (w.heap.size + 1) kd a b s := FA23.up hb24; have TS24 : Two w24 g8 (.slice A8 n8 c8) (.slice P8 m8 d8) := TS23.up hb24; have S24 : RdD w24 w8.heap.size A8 n8 c8 s1 P8 m8 d8 s2 := S23.upB hb24 (by omega); have TX24 : Two w24 w9.heap.size (.slice A9 n9 c9) (.slice P9 m9 d9) := TX23.up hb24; have TG24 : Two w24 g14 (.slice A14 n14 c14) (.slice P14 m14 d14) := TG23.up hb24; have GN24 : OwnD w24 lo14 hi14 A14 n14 c14 (marks 1 n14) P14 m14 d14 (markR (1 + n14) s2) := GN23.up hb24; have Q24 : OwnD w24 w22.drew.heap.size w24.heap.size A24 n24 c24 xs P24 m24 d24 yss := h24.wide (by first | exact Nat.le_refl _ | simp) (Nat.le_refl _); have KA24 : Hid (∀ o, World.cell? (w24.alloc o) ⟨w.heap.size, 0, none⟩ = some (.slice A n c) ∧ World.cell? (w24.alloc o) ⟨w.heap.size, 1, none⟩ = some (.slice P m d) ∧ World.cell? (w24.alloc o) ⟨w.heap.size + 1, 0, none⟩ = some (.int .i64 kd) ∧ World.cell? (w24.alloc o) ⟨w.heap.size + 1, 1, none⟩ = some (.int .i64 a) ∧ World.cell? (w24.alloc o) ⟨w.heap.size + 1, 2, none⟩ = some (.int .i64 b) ∧ World.cell? (w24.alloc o) ⟨w.heap.size + 1, 3, none⟩ = some (.string s)) := Lib.hid (fun o => ⟨(TA24.up ((Below.refl _ _).alloc (Nat.le_refl _) o)).2.1, (TA24.up ((Below.refl _ _).alloc (Nat.le_refl _) o)).2.2.1, (FA24.up ((Below.refl _ _).alloc (Nat.le_refl _) o)).2.1, (FA24.up ((Below.refl _ _).alloc (Nat.le_refl _) o)).2.2.1, (FA24.up ((Below.refl _ _).alloc (Nat.le_refl _) o)).2.2.2.1, (FA24.up ((Below.refl _ _).alloc (Nat.le_refl _) o)).2.2.2.2⟩))
              | (go_at_call 12; refine (toDeed_c kd a b s _).mono ?_; rintro e w25 ⟨rfl, hx25⟩; have hb25 : Below w24.heap.size w24 w25 := (by first | exact hx25 | exact below_of_alloc hx25); (try have tz25 : Two w25 w24.heap.size (.slice none 0 0) (.slice none 0 0) := (Two.made w24 _ _ _).up hx25); (try have hlz25 := tz24.1); (try have tz25 := tz24.up hx25); clear hx25; have hz25 := hb25.size; have HB25 : Below w.heap.size w w25 := bt HB24 hb25; have TA25 : Two w25 w.heap.size (.slice A n c) (.slice P m d) := TA24.up hb25; have FA25 : Four w25 (w.heap.size + 1) kd a b s := FA24.up hb25; have TS25 : Two w25 g8 (.slice A8 n8 c8) (.slice P8 m8 d8) := TS24.up hb25; have S25 : RdD w25 w8.heap.size A8 n8 c8 s1 P8 m8 d8 s2 := S24.upB hb25 (by omega); have TX25 : Two w25 w9.heap.size (.slice A9 n9 c9) (.slice P9 m9 d9) := TX24.up hb25; have TG25 : Two w25 g14 (.slice A14 n14 c14) (.slice P14 m14 d14) := TG24.up hb25; have GN25 : OwnD w25 lo14 hi14 A14 n14 c14 (marks 1 n14) P14 m14 d14 (markR (1 + n14) s2) := GN24.up hb25; have Q25 : OwnD w25 w22.drew.heap.size w24.heap.size A24 n24 c24 xs P24 m24 d24 yss := Q24.up hb25; have KA25 : Hid (∀ o, World.cell? (w25.alloc o) ⟨w.heap.size, 0, none⟩ = some (.slice A n c) ∧ World.cell? (w25.alloc o) ⟨w.heap.size, 1, none⟩ = some (.slice P m d) ∧ World.cell? (w25.alloc o) ⟨w.heap.size + 1, 0, none⟩ = some (.int .i64 kd) ∧ World.cell? (w25.alloc o) ⟨w.heap.size + 1, 1, none⟩ = some (.int .i64 a) ∧ World.cell? (w25.alloc o) ⟨w.heap.size + 1, 2, none⟩ = some (.int .i64 b) ∧ World.cell? (w25.alloc o) ⟨w.heap.size + 1, 3, none⟩ = some (.string s)) := Lib.hid (fun o => ⟨(TA25.up ((Below.refl _ _).alloc (Nat.le_refl _) o)).2.1, (TA25.up ((Below.refl _ _).alloc (Nat.le_refl _) o)).2.2.1, (FA25.up ((Below.refl _ _).alloc (Nat.le_refl _) o)).2.1, (FA25.up ((Below.refl _ _).alloc (Nat.le_refl _) o)).2.2.1, (FA25.up ((Below.refl _ _).alloc (Nat.le_refl _) o)).2.2.2.1, (FA25.up ((Below.refl _ _).alloc (Nat.le_refl _) o)).2.2.2.2⟩))
              | (go_at_call 13; refine (KI _ _ _ _ _ _ _ (by first | exact Q25.rd | exact (Q25.up ((Below.refl _ _).alloc (Nat.le_refl _) _)).rd)).mono ?_; rintro e w26 ⟨A26, n26, c26, P26, m26, d26, rfl, h26, hx26⟩; have hb26 : Below w25.heap.size w25 w26 := (by first | exact hx26 | exact below_of_alloc hx26); (try have tz26 : Two w26 w25.heap.size (.slice none 0 0) (.slice none 0 0) := (Two.made w25 _ _ _).up hx26); (try have hlz26 := tz25.1); (try have tz26 := tz25.up hx26); clear hx26; have hz26 := hb26.size; have HB26 : Below w.heap.size w w26 := bt HB25 hb26; have TA26 : Two w26 w.heap.size (.slice A n c) (.slice P m d) := TA25.up hb26; have FA26 : Four w26 (w.heap.size + 1) kd a b s := FA25.up hb26; have TS26 : Two w26 g8 (.slice A8 n8 c8) (.slice P8 m8 d8) := TS25.up hb26; have S26 : RdD w26 w8.heap.size A8 n8 c8 s1 P8 m8 d8 s2 := S25.upB hb26 (by omega); have TX26 : Two w26 w9.heap.size (.slice A9 n9 c9) (.slice P9 m9 d9) := TX25.up hb26; have TG26 : Two w26 g14 (.slice A14 n14 c14) (.slice P14 m14 d14) := TG25.up hb26; have GN26 : OwnD w26 lo14 hi14 A14 n14 c14 (marks 1 n14) P14 m14 d14 (markR (1 + n14) s2) := GN25.up hb26; have Q26 : OwnD w26 w22.drew.heap.size w24.heap.size A24 n24 c24 xs P24 m24 d24 yss := Q25.up hb26; have hO26 : OwnD w26 w25.heap.size w26.heap.size A26 n26 c26 s1 P26 m26 d26 s2 := h26.wide (by first | exact Nat.le_refl _ | simp) (Nat.le_refl _); (try have hE26 : OwnD w26 (w25.heap.size + 1) w26.heap.size A26 n26 c26 s1 P26 m26 d26 s2 := h26.wide (by simp) (Nat.le_refl _)); have KA26 : Hid (∀ o, World.cell? (w26.alloc o) ⟨w.heap.size, 0, none⟩ = some (.slice A n c) ∧ World.cell? (w26.alloc o) ⟨w.heap.size, 1, none⟩ = some (.slice P m d) ∧ World.cell? (w26.alloc o) ⟨w.heap.size + 1, 0, none⟩ = some (.int .i64 kd) ∧ World.cell? (w26.alloc o) ⟨w.heap.size + 1, 1, none⟩ = some (.int .i64 a) ∧ World.cell? (w26.alloc o) ⟨w.heap.size + 1, 2, none⟩ = some (.int .i64 b) ∧ World.cell? (w26.alloc o) ⟨w.heap.size + 1, 3, none⟩ = some (.string s)) := Lib.hid (fun o => ⟨(TA26.up ((Below.refl _ _).alloc (Nat.le_refl _) o)).2.1, (TA26.up ((Below.refl _ _).alloc (Nat.le_refl _) o)).2.2.1, (FA26.up ((Below.refl _ _).alloc (Nat.le_refl _) o)).2.1, (FA26.up ((Below.refl _ _).alloc (Nat.le_refl _) o)).2.2.1, (FA26.up ((Below.refl _ _).alloc (Nat.le_refl _) o)).2.2.2.1, (FA26.up ((Below.refl _ _).alloc (Nat.le_refl _) o)).2.2.2.2⟩); have KF : Hid (∀ g u v, w22.heap.size ≤ g → World.cell? ((w26.setCell ⟨g, 0, none⟩ u).setCell ⟨g, 1, none⟩ v) ⟨w.heap.size, 0, none⟩ = some (.slice A n c) ∧ World.cell? ((w26.setCell ⟨g, 0, none⟩ u).setCell ⟨g, 1, none⟩ v) ⟨w.heap.size, 1, none⟩ = some (.slice P m d) ∧ World.cell? ((w26.setCell ⟨g, 0, none⟩ u).setCell ⟨g, 1, none⟩ v) ⟨w.heap.size + 1, 0, none⟩ = some (.int .i64 kd) ∧ World.cell? ((w26.setCell ⟨g, 0, none⟩ u).setCell ⟨g, 1, none⟩ v) ⟨w.heap.size + 1, 1, none⟩ = some (.int .i64 a) ∧ World.cell? ((w26.setCell ⟨g, 0, none⟩ u).setCell ⟨g, 1, none⟩ v) ⟨w.heap.size + 1, 2, none⟩ = some (.int .i64 b) ∧ World.cell? ((w26.setCell ⟨g, 0, none⟩ u).setCell ⟨g, 1, none⟩ v) ⟨w.heap.size + 1, 3, none⟩ = some (.string s)) := Lib.hid (fun g u v hg => ⟨farc (by omega) TA26.2.1, farc (by omega) TA26.2.2.1, farc (by omega) FA26.2.1, farc (by omega) FA26.2.2.1, farc (by omega) FA26.2.2.2.1, farc (by omega) FA26.2.2.2.2⟩); (try obtain ⟨_, z0, z1, z2, z3⟩ := id tz26)))
          all_goals
            go_wp2_with fail
            go_meet
            first
              | exact cutR_last (show Below w22.heap.size w22 w26 from bt (bt (bt (bd (Below.refl w22.heap.size w22) 1) hb24) hb25) hb26) hO26 (by omega) (Nat.le_refl _)
              | exact cutR_early (show Below w22.heap.size w22 w26 from bt (bt (bt (bd (Below.refl w22.heap.size w22) 1) hb24) hb25) hb26) hO26 (by omega) (Nat.le_refl _) tz26 (by omega) (by omega)
              | exact cutR_early (show Below w22.heap.size w22 w26 from bt (bt (bt (bd (Below.refl w22.heap.size w22) 1) hb24) hb25) hb26) hE26 (by omega) (Nat.le_refl _) tz26 (by omega) (by omega)
        case rest =>
          obtain ⟨g27, A27, n27, c27, P27, m27, d27, lo27, hi27, rfl, rfl, TH27, hb27, H27, hlo27, hhi27, hd27, hg27⟩ := hcut
          generalize wc = w27 at *
          have HB27 : Below w.heap.size w w27 := bt HB22 hb27
          have TA27 : Two w27 w.heap.size (.slice A n c) (.slice P m d) := TA22.up hb27
          have FA27 : Four w27 (w.heap.size + 1) kd a b s := FA22.up hb27
          have TS27 : Two w27 g8 (.slice A8 n8 c8) (.slice P8 m8 d8) := TS22.up hb27
          have S27 : RdD w27 w8.heap.size A8 n8 c8 s1 P8 m8 d8 s2 := S22.upB hb27 (by omega)
          have TX27 : Two w27 w9.heap.size (.slice A9 n9 c9) (.slice P9 m9 d9) := TX22.up hb27
          have TG27 : Two w27 g14 (.slice A14 n14 c14) (.slice P14 m14 d14) := TG22.up hb27
          have GN27 : OwnD w27 lo14 hi14 A14 n14 c14 (marks 1 n14) P14 m14 d14 (markR (1 + n14) s2) := GN22.up hb27
          have hz27 := hb27.size
          clear HB22 TA22 FA22 TS22 S22 TX22 TG22 GN22
          have hlTH27 := TH27.1
          obtain ⟨_, qTH0, qTH1, _, _⟩ := id TH27
          obtain ⟨_, qTS0, qTS1, _, _⟩ := id TS27
          go_wp2_with fail
          clear qTH0 qTH1 qTS0 qTS1
          refine (eqDesk_c A27 P27 A8 P8 n27 c27 m27 d27 n8 c8 m8 d8 _ _ _ _ _ H27.rd (S27.moreB (by omega))).mono ?_
          rintro e w28 ⟨rfl, hb28⟩
          rw [HQS.out]
          have HB28 : Below w.heap.size w w28 := bt HB27 hb28
          have TA28 : Two w28 w.heap.size (.slice A n c) (.slice P m d) := TA27.up hb28
          have FA28 : Four w28 (w.heap.size + 1) kd a b s := FA27.up hb28
          have TS28 : Two w28 g8 (.slice A8 n8 c8) (.slice P8 m8 d8) := TS27.up hb28
          have S28 : RdD w28 w8.heap.size A8 n8 c8 s1 P8 m8 d8 s2 := S27.upB hb28 (by omega)
          have TX28 : Two w28 w9.heap.size (.slice A9 n9 c9) (.slice P9 m9 d9) := TX27.up hb28
          have TG28 : Two w28 g14 (.slice A14 n14 c14) (.slice P14 m14 d14) := TG27.up hb28
          have GN28 : OwnD w28 lo14 hi14 A14 n14 c14 (marks 1 n14) P14 m14 d14 (markR (1 + n14) s2) := GN27.up hb28
          have TH28 : Two w28 g27 (.slice A27 n27 c27) (.slice P27 m27 d27) := TH27.up hb28
          have H28 : OwnD w28 lo27 hi27 A27 n27 c27 s1 P27 m27 d27 s2 := H27.up hb28
          have hz28 := hb28.size
          clear HB27 TA27 FA27 TS27 S27 TX27 TG27 GN27 TH27 H27
          obtain ⟨_, qTG0, qTG1, _, _⟩ := id TG28
          go_wp2_with fail
          clear qTG0 qTG1
          refine (heldDesk_d A14 P14 n14 c14 m14 d14 1 s2 _ GN28.rd (by omega)).mono ?_
          rintro e w29 ⟨rfl, hb29⟩
          have HBE := bt HB28 hb29
          go_wp2_with fail
          go_ret
          exact ⟨rfl, HBE⟩
end Go.Proofs.Ytnpjelekpkgbpaa
