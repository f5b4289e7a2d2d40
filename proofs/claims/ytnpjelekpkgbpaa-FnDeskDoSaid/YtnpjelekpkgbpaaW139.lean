/- Walk: FnDeskDo. -/
import Derived.Test.YtnpjelekpkgbpaaW138
import Derived.Test.YtnpjelekpkgbpaaW131
import Derived.Test.YtnpjelekpkgbpaaM24
import Derived.Test.YtnpjelekpkgbpaaW108
namespace Go.Proofs.Ytnpjelekpkgbpaa
set_option linter.unusedVariables false
open Go.RowKit

set_option maxRecDepth 100000 in
set_option maxHeartbeats 3200000 in
theorem walk_FnDeskDo (A : Option Addr) (n c : Nat) (bs : List Nat) (w : World) (h : RdB w w.heap.size A n c bs) :
    Calls Try.prog 6 #[.slice A n c] w fun e w' => e = .returned (.bool true) ∧ Below w.heap.size w w' := by
  have hmx := h.max
  have hcp := h.cap
  unfold maxLen at hmx
  by_cases hbig : 1048576 < n
  · go_enter Try.func6, Try.ntmps6
    go_wp2_with fail
    go_ret
    exact ⟨rfl, Below.refl _ _⟩
  go_enter Try.func6, Try.ntmps6
  go_wp2_with fail
  refine (drawDeskDo_c A n c bs _ h).mono ?_
  rintro e w1 ⟨A1, n1, c1, xs, P1, m1, d1, yss, kd, a, b, s, rfl, hD1, hs7, hb1⟩
  have hbA := below_new w1 (.cells #[.slice A1 n1 c1, .slice P1 m1 d1] 30)
  have hbB := below_new (w1.alloc (.cells #[.slice A1 n1 c1, .slice P1 m1 d1] 30)) (.cells #[.int .i64 kd, .int .i64 a, .int .i64 b, .string s] 34)
  have T2 := (Two.made w1 30 (.slice A1 n1 c1) (.slice P1 m1 d1)).up hbB
  have F2 := Four.made (w1.alloc (.cells #[.slice A1 n1 c1, .slice P1 m1 d1] 30)) 34 kd a b s
  rw [World.size_alloc] at F2
  have D2 := (hD1.up_ hbA).up_ hbB
  have B2 := bt (bt hb1 hbA) hbB
  clear hD1 hb1 hbA hbB
  have KI := fun A n c P m d w h => deskDo_c A P n c m d xs yss kd a b s w h (by omega)
  have KS := fun A n c P m d w h => sDeskDo_c A P n c m d xs yss kd a b s w h (by omega)
  have LF := fun h => doX_false (xs := xs) (yss := yss) (kd := kd) (a := a) (b := b) (s := s) h
  have LT := fun h => doX_true (xs := xs) (yss := yss) (kd := kd) (a := a) (b := b) (s := s) h
  have LB := fun h => doX_backs (xs := xs) (yss := yss) (kd := kd) (a := a) (b := b) (s := s) h
  have LD := fun h => doX_desk (xs := xs) (yss := yss) kd a b s h
  have LN := fun (e : kd = 3) (h : (doX xs yss kd a b s).2.2 = true) => (by subst e; exact doX_named h : ∃ f g : List Nat, MapN f ∧ MapN g ∧ xs = ints f ∧ (doX xs yss kd a b s).1 = ints g ∧ shapeT g = shapeT f)
  generalize doX xs yss kd a b s = R at *
  obtain ⟨r1, r2, r3⟩ := R
  simp only at LF LT LB LD LN
  have HL := Lib.hid (And.intro LF (And.intro LT (And.intro LB (And.intro LD LN))))
  clear LF LT LB LD LN
  go_wp2_with fail
  generalize (w1.alloc (.cells #[.slice A1 n1 c1, .slice P1 m1 d1] 30)).alloc (.cells #[.int .i64 kd, .int .i64 a, .int .i64 b, .string s] 34) = w2 at *
  refine (KI _ _ _ _ _ _ _ D2).mono ?_
  rintro e w3 ⟨A3, n3, c3, P3, m3, d3, rfl, hO3, hb3⟩
  have R3 := hO3.rd
  have hbB := below_new w3 (.cells #[.slice A3 n3 c3, .slice P3 m3 d3] 30)
  have T4 := (T2.up hb3).up hbB
  have F4 := (F2.up hb3).up hbB
  have D4 := (D2.up_ hb3).up_ hbB
  have B4 := bt (bt B2 hb3) hbB
  have U4 := Two.made w3 30 (.slice A3 n3 c3) (.slice P3 m3 d3)
  have G4 := R3.up_ hbB
  obtain ⟨_, t0, t1, _, _⟩ := id T4
  obtain ⟨_, f0, f1, f2, f3⟩ := id F4
  clear T2 F2 D2 B2 hO3 hb3 R3 hbB KI
  go_wp2_with fail
  generalize w3.alloc (.cells #[.slice A3 n3 c3, .slice P3 m3 d3] 30) = w4 at *
  clear t0 t1 f0 f1 f2 f3
  refine (KS _ _ _ _ _ _ _ D4).mono ?_
  rintro e w5 ⟨A5, n5, c5, P5, m5, d5, rfl, R5, hb5, _, _, _⟩
  have hbC := below_new w5 (.cells #[.slice A5 n5 c5, .slice P5 m5 d5] 30)
  have T6 := (T4.up hb5).up hbC
  have F6 := (F4.up hb5).up hbC
  have U6 := (U4.up hb5).up hbC
  have D6 := (D4.up_ hb5).up_ hbC
  have G6 := (G4.up_ hb5).up_ hbC
  have B6 := bt (bt B4 hb5) hbC
  have Q6 := R5.up_ hbC
  obtain ⟨_, u0, u1, _, _⟩ := id U6
  clear T4 F4 U4 D4 G4 B4 hb5 R5 hbC KS
  go_wp2_with fail
  generalize w5.alloc (.cells #[.slice A5 n5 c5, .slice P5 m5 d5] 30) = w6 at *
  clear u0 u1
  have K7 := sameDesk_c A3 P3 A5 P5 n3 c3 m3 d3 n5 c5 m5 d5 r1 r1 r2 r2 _ G6 Q6
  rw [show (eqB r1 r1 && eqBB r2 r2) = true from by rw [eqB_self, eqBB_self]; rfl] at K7
  refine K7.mono ?_
  rintro e w7 ⟨rfl, hb7⟩
  have T7 := T6.up hb7
  have F7 := F6.up hb7
  have U7 := U6.up hb7
  have D7 := D6.up_ hb7
  have G7 := G6.up_ hb7
  have B7 := bt B6 hb7
  clear T6 F6 U6 D6 G6 B6 hb7 K7 Q6
  obtain ⟨_, t0, t1, _, _⟩ := id T7
  obtain ⟨_, u0, u1, _, _⟩ := id U7
  obtain ⟨_, f0, f1, f2, f3⟩ := id F7
  rcases r3 with _ | _
  · go_wp2_with fail
    have K8 := sameDesk_c A3 P3 A1 P1 n3 c3 m3 d3 n1 c1 m1 d1 r1 xs r2 yss _ G7 D7
    rcases hbb : (eqB r1 xs && eqBB r2 yss) with _ | _
    · have hno : deskOkB xs yss = false := by
        rcases HL.out.1 (by first | exact rfl | trivial) with ⟨rfl, rfl⟩ | hno
        · rw [eqB_self, eqBB_self] at hbb; cases hbb
        · exact hno
      rw [hbb] at K8
      refine K8.mono ?_
      rintro e w8 ⟨rfl, hb8⟩
      have D8 := D7.up_ hb8
      have B8 := bt B7 hb8
      obtain ⟨_, v0, v1, _, _⟩ := id (T7.up hb8)
      clear t0 t1 u0 u1 f0 f1 f2 f3 K8 T7 F7 U7 D7 G7 B7
      go_wp2_with fail
      have K9 := deskOk_c A1 P1 n1 c1 m1 d1 xs yss _ D8
      rw [hno] at K9
      refine K9.mono ?_
      rintro e w9 ⟨rfl, hb9⟩
      have B9 := bt B8 hb9
      clear v0 v1 K9 D8 B8
      go_wp2_with fail
      refine (alive_c _).mono ?_
      rintro e w10 ⟨rfl, hb10⟩
      have B10 := bt B9 hb10
      go_wp2_with fail
      go_ret
      exact ⟨rfl, B10⟩
    · rw [hbb] at K8
      refine K8.mono ?_
      rintro e w8 ⟨rfl, hb8⟩
      have B8 := bt B7 hb8
      clear t0 t1 u0 u1 f0 f1 f2 f3 K8 T7 F7 U7 D7 G7 B7
      go_wp2_with fail
      refine (alive_c _).mono ?_
      rintro e w10 ⟨rfl, hb10⟩
      have B10 := bt B8 hb10
      go_wp2_with fail
      go_ret
      exact ⟨rfl, B10⟩
  · go_wp2_with fail
    have KB := deskDo_c A3 P3 n3 c3 m3 d3 r1 r2 4 0 0 ⟨#[]⟩ _ G7 (by show 0 ≤ _; omega)
    have LB := HL.out.2.2.1 (by first | exact rfl | trivial)
    generalize doX r1 r2 4 0 0 ⟨#[]⟩ = R2 at *
    obtain ⟨s1, s2, s3⟩ := R2
    have HLB := Lib.hid LB
    clear LB
    refine KB.mono ?_
    rintro e w8 ⟨A8, n8, c8, P8, m8, d8, rfl, hO8, hb8⟩
    have R8 := hO8.rd
    have hbC := below_new w8 (.cells #[.slice A8 n8 c8, .slice P8 m8 d8] 30)
    have T9 := (T7.up hb8).up hbC
    have F9 := (F7.up hb8).up hbC
    have U9 := (U7.up hb8).up hbC
    have D9 := (D7.up_ hb8).up_ hbC
    have G9 := (G7.up_ hb8).up_ hbC
    have B9 := bt (bt B7 hb8) hbC
    have V9 := Two.made w8 30 (.slice A8 n8 c8) (.slice P8 m8 d8)
    have Q9 := R8.up_ hbC
    clear t0 t1 u0 u1 f0 f1 f2 f3 T7 F7 U7 D7 G7 B7 hb8 hbC hO8 R8 KB
    obtain ⟨_, u0, u1, _, _⟩ := id U9
    go_wp2_with fail
    generalize w8.alloc (.cells #[.slice A8 n8 c8, .slice P8 m8 d8] 30) = w9 at *
    clear u0 u1
    have K10 := deskOk_c A3 P3 n3 c3 m3 d3 r1 r2 _ G9
    rw [HL.out.2.2.2.1 (HL.out.2.1 (by first | exact rfl | trivial))] at K10
    refine K10.mono ?_
    rintro e w10 ⟨rfl, hb10⟩
    have T10 := T9.up hb10
    have F10 := F9.up hb10
    have U10 := U9.up hb10
    have D10 := D9.up_ hb10
    have G10 := G9.up_ hb10
    have V10 := V9.up hb10
    have Q10 := Q9.up_ hb10
    have B10 := bt B9 hb10
    clear T9 F9 U9 D9 G9 V9 Q9 B9 hb10 K10
    obtain ⟨_, t0, t1, _, _⟩ := id T10
    obtain ⟨_, u0, u1, _, _⟩ := id U10
    obtain ⟨_, v0, v1, _, _⟩ := id V10
    obtain ⟨_, f0, f1, f2, f3⟩ := id F10
    have hm1 : yss.length = m1 := D10.2.len
    by_cases hk4 : kd = 4
    · subst hk4
      go_wp2_with fail
      go_ret
      exact ⟨rfl, B10⟩
    have hq4 : (kd == 4) = false := by rw [beq_eq_false_iff_ne]; exact hk4
    by_cases h8 : 8 ≤ m1
    · have h8i : (8 : Int) ≤ (m1 : Int) := by omega
      by_cases hk3 : kd = 3
      · subst hk3
        obtain ⟨f, g, hf, hg, rfl, rfl, hsh⟩ := HL.out.2.2.2.2 (by first | exact rfl | trivial) (by first | exact rfl | trivial)
        have hR3 := G10.1
        have hR1 := D10.1
        obtain rfl : g.length = n3 := by rw [← hR3.len, ints_len]
        obtain rfl : f.length = n1 := by rw [← hR1.len, ints_len]
        go_wp2_with fail
        refine (sameShape_c hg hf hsh A3 A1 c3 c1 _ hR3 hR1).mono ?_
        rintro e wz ⟨rfl, hbz⟩
        have BZ := bt B10 hbz
        go_wp2_with fail
        go_ret
        exact ⟨rfl, BZ⟩
      · have hq3 : (kd == 3) = false := by rw [beq_eq_false_iff_ne]; exact hk3
        go_wp2_with fail
        go_ret
        exact ⟨rfl, B10⟩
    · have h8i : ¬ (8 : Int) ≤ (m1 : Int) := by omega
      have e := HLB.out hk4 (by omega)
      simp only [Prod.mk.injEq] at e
      obtain ⟨rfl, rfl, rfl⟩ := e
      go_wp2_with fail
      have K11 := sameDesk_c A8 P8 A1 P1 n8 c8 m8 d8 n1 c1 m1 d1 s1 s1 s2 s2 _ Q10 D10
      rw [show (eqB s1 s1 && eqBB s2 s2) = true from by rw [eqB_self, eqBB_self]; rfl] at K11
      refine K11.mono ?_
      rintro e w11 ⟨rfl, hb11⟩
      have D11 := D10.up_ hb11
      have G11 := G10.up_ hb11
      have B11 := bt B10 hb11
      obtain ⟨_, x0, x1, _, _⟩ := id (T10.up hb11)
      obtain ⟨_, y0, y1, _, _⟩ := id (U10.up hb11)
      obtain ⟨_, g0, g1, g2, g3⟩ := id (F10.up hb11)
      clear t0 t1 u0 u1 v0 v1 f0 f1 f2 f3 T10 U10 F10 V10 Q10 D10 G10 B10 K11
      by_cases hk3 : kd = 3
      · subst hk3
        obtain ⟨f, g, hf, hg, rfl, rfl, hsh⟩ := HL.out.2.2.2.2 (by first | exact rfl | trivial) (by first | exact rfl | trivial)
        have hR3 := G11.1
        have hR1 := D11.1
        obtain rfl : g.length = n3 := by rw [← hR3.len, ints_len]
        obtain rfl : f.length = n1 := by rw [← hR1.len, ints_len]
        go_wp2_with fail
        refine (sameShape_c hg hf hsh A3 A1 c3 c1 _ hR3 hR1).mono ?_
        rintro e wz ⟨rfl, hbz⟩
        have BZ := bt B11 hbz
        go_wp2_with fail
        go_ret
        exact ⟨rfl, BZ⟩
      · have hq3 : (kd == 3) = false := by rw [beq_eq_false_iff_ne]; exact hk3
        go_wp2_with fail
        go_ret
        exact ⟨rfl, B11⟩
end Go.Proofs.Ytnpjelekpkgbpaa
