/- Walk: FnDeskRun (under way). -/
import Derived.Test.YtnpjelekpkgbpaaW107
namespace Go.Proofs.Ytnpjelekpkgbpaa
set_option linter.unusedVariables false
open Go.RowKit

theorem RdD.up_ {w w' : World} {A P : Option Addr} {n c m d : Nat} {xs : List Int} {yss : List (List Int)} (h : RdD w w.heap.size A n c xs P m d yss) (hb : Below w.heap.size w w') : RdD w' w'.heap.size A n c xs P m d yss := ⟨h.1.up hb, h.2.up hb⟩
/-- A run's outcome in a region: the desk in block g, the count. -/
def CutH (wj wx : World) (s6 s7 : Value) (r1 : List Int) (r2 : List (List Int)) (r3 : Nat) : Prop :=
  ∃ g A n c P m d, s6 = .pointer (some ⟨g, 0, none⟩) ∧ s7 = .int .i64 (r3 : Int) ∧ Two wx g (.slice A n c) (.slice P m d) ∧ Below wj.heap.size wj wx ∧ RdD wx wx.heap.size A n c r1 P m d r2
section
variable {wj wx : World} {A P : Option Addr} {n c m d g lo hi : Nat} {r1 : List Int} {r2 : List (List Int)} {r3 : Nat}
theorem cutH_last (hb : Below wj.heap.size wj wx) (h : RdD wx wx.heap.size A n c r1 P m d r2) : CutH wj (wx.alloc (.cells #[.slice A n c, .slice P m d] 30)) (.pointer (some ⟨wx.heap.size, 0, none⟩)) (.int .i64 (r3 : Int)) r1 r2 r3 :=
  ⟨_, _, _, _, _, _, _, rfl, rfl, Two.made wx _ _ _, bt hb (below_new _ _), h.up (below_new _ _)⟩
theorem cutH_early (hb : Below wj.heap.size wj wx) (h : RdD wx wx.heap.size A n c r1 P m d r2) (hf : ∀ k, k < r2.length → 0 < (gR r2 k).length) (hg : Two wx g (.slice none 0 0) (.slice none 0 0)) (hgl : wj.heap.size ≤ g) :
    CutH wj ((wx.setCell ⟨g, 0, none⟩ (.slice A n c)).setCell ⟨g, 1, none⟩ (.slice P m d)) (.pointer (some ⟨g, 0, none⟩)) (.int .i64 (r3 : Int)) r1 r2 r3 := by
  have hg1 := hg.set0 (.slice A n c)
  have hz : ((wx.setCell ⟨g, 0, none⟩ (.slice A n c)).setCell ⟨g, 1, none⟩ (.slice P m d)).heap.size = wx.heap.size := by simp
  refine ⟨g, A, n, c, P, m, d, rfl, rfl, hg1.set1 _, (hb.setCell hgl _).setCell hgl _, ?_⟩
  rw [hz]
  exact ⟨(h.1.set_ hg.2.1 _).set_ hg1.2.2.1 _, (h.2.set_ hf hg.2.1 _).set_ hf hg1.2.2.1 _⟩
end
set_option maxRecDepth 100000 in
set_option maxHeartbeats 3200000 in
theorem walk_FnDeskRun (A : Option Addr) (n c : Nat) (bs : List Nat) (w : World) (h : RdB w w.heap.size A n c bs) :
    Calls Try.prog 4 #[.slice A n c] w fun e w' => e = .returned (.bool true) ∧ Below w.heap.size w w' := by
  have hmx := h.max
  have hcp := h.cap
  unfold maxLen at hmx
  by_cases hbig : 1048576 < n
  · go_enter Try.func4, Try.ntmps4
    go_wp2_with fail
    go_ret
    exact ⟨rfl, Below.refl _ _⟩
  go_enter Try.func4, Try.ntmps4
  go_wp2_with fail
  refine (drawDeskRun_c A n c bs _ h).mono ?_
  rintro e w1 ⟨A1, n1, c1, xs, P1, m1, d1, yss, E, N, C, ds, rfl, hD1, hE1, hS, hb1⟩
  have hbA := below_new w1 (.cells #[.slice A1 n1 c1, .slice P1 m1 d1] 30)
  have T2 := Two.made w1 30 (.slice A1 n1 c1) (.slice P1 m1 d1)
  have D2 := hD1.up_ hbA
  have E2 := hE1.up hbA
  have B2 := bt hb1 hbA
  have HS := Lib.hid hS
  clear hD1 hE1 hb1 hbA hS
  go_wp2_with fail
  generalize w1.alloc (.cells #[.slice A1 n1 c1, .slice P1 m1 d1] 30) = w2 at *
  obtain ⟨r1, r2, mm, hfit, hval, KS, KI⟩ := deskRun_any xs yss ds HS.out
  refine (KI _ _ _ _ _ _ _ _ _ _ D2 E2).mono ?_
  rintro e w3 ⟨A3, n3, c3, P3, m3, d3, rfl, hO3, hb3⟩
  have R3 := hO3.rd
  have hbB := below_new w3 (.cells #[.slice A3 n3 c3, .slice P3 m3 d3] 30)
  have T4 := (T2.up hb3).up hbB
  have D4 := (D2.up_ hb3).up_ hbB
  have E4 := (E2.up hb3).up hbB
  have B4 := bt (bt B2 hb3) hbB
  have U4 := Two.made w3 30 (.slice A3 n3 c3) (.slice P3 m3 d3)
  have G4 := R3.up_ hbB
  have hz34 := hb3.size
  obtain ⟨_, t0, t1, _, _⟩ := id T4
  have HV := Lib.hid hval
  have HF := Lib.hid hfit
  clear T2 D2 E2 B2 hO3 hb3 R3 hbB hval hfit
  go_wp2_with fail
  generalize w3.alloc (.cells #[.slice A3 n3 c3, .slice P3 m3 d3] 30) = w4 at *
  clear t0 t1
  refine (KS _ _ _ _ _ _ _ _ _ _ D4 E4).mono ?_
  rintro e w5 ⟨A5, n5, c5, P5, m5, d5, rfl, R5, hb5⟩
  have hbC := below_new w5 (.cells #[.slice A5 n5 c5, .slice P5 m5 d5] 30)
  have T6 := (T4.up hb5).up hbC
  have U6 := (U4.up hb5).up hbC
  have D6 := (D4.up_ hb5).up_ hbC
  have E6 := (E4.up hb5).up hbC
  have G6 := (G4.up_ hb5).up_ hbC
  have B6 := bt (bt B4 hb5) hbC
  have V6 := Two.made w5 30 (.slice A5 n5 c5) (.slice P5 m5 d5)
  have Q6 := R5.up_ hbC
  obtain ⟨_, u0, u1, _, _⟩ := id U6
  clear T4 U4 D4 E4 G4 B4 hb5 R5 hbC
  go_wp2_with fail
  generalize w5.alloc (.cells #[.slice A5 n5 c5, .slice P5 m5 d5] 30) = w6 at *
  clear u0 u1
  have K7 := sameDesk_c A3 P3 A5 P5 n3 c3 m3 d3 n5 c5 m5 d5 r1 r1 r2 r2 _ G6 Q6
  rw [show (eqB r1 r1 && eqBB r2 r2) = true from by rw [eqB_self, eqBB_self]; rfl] at K7
  refine K7.mono ?_
  rintro e w7 ⟨rfl, hb7⟩
  have T7 := T6.up hb7
  have U7 := U6.up hb7
  have D7 := D6.up_ hb7
  have E7 := E6.up hb7
  have G7 := G6.up_ hb7
  have B7 := bt B6 hb7
  obtain ⟨_, t0, t1, _, _⟩ := id T7
  clear T6 U6 D6 E6 G6 B6 hb7 K7 V6 Q6
  go_wp2_with fail
  have K8 := sDeskOk_c A1 P1 n1 c1 m1 d1 xs yss _ D7
  clear t0 t1
  have hlen := E7.len
  have hcE := E7.cap
  have hmE := E7.max
  unfold maxLen at hmE
  rcases hok : deskOkB xs yss with _ | _
  · rw [hok] at K8
    have e : (r1, r2, mm) = (([] : List Int), ([] : List (List Int)), 0) := by rw [HV.out]; unfold runX runB; rw [hok]; rfl
    simp only [Prod.mk.injEq] at e
    obtain ⟨rfl, rfl, rfl⟩ := e
    refine K8.mono ?_
    rintro e w8 ⟨rfl, hb8⟩
    have U8 := U7.up hb8
    have G8 := G7.up_ hb8
    have B8 := bt B7 hb8
    obtain ⟨_, u0, u1, _, _⟩ := id U8
    have K9 := noDesk_c A3 P3 n3 c3 m3 d3 [] [] _ G8
    rw [show (eqB [] [] && eqBB [] []) = true from rfl] at K9
    clear T7 U7 D7 E7 G7 B7 hb8 K8 U8 G8
    go_wp2_with fail
    refine K9.mono ?_
    rintro e w9 ⟨rfl, hb9⟩
    have B9 := bt B8 hb9
    clear K9 hb9 u0 u1
    go_wp2_with fail
    refine (alive_c _).mono ?_
    rintro e w10 ⟨rfl, hb10⟩
    have B10 := bt B9 hb10
    go_wp2_with fail
    go_ret
    exact ⟨rfl, B10⟩
  · rw [hok] at K8
    refine K8.mono ?_
    rintro e w8 ⟨rfl, hb8⟩
    have T8 := T7.up hb8
    have U8 := U7.up hb8
    have D8 := D7.up_ hb8
    have E8 := E7.up hb8
    have G8 := G7.up_ hb8
    have B8 := bt B7 hb8
    clear T7 U7 D7 E7 G7 B7 hb8 K8
    by_cases h40 : 40 < N
    · have e : (r1, r2, mm) = (([] : List Int), ([] : List (List Int)), 0) := by
        rw [HV.out]; unfold runX runB; rw [hok, Bool.true_and, decide_eq_false (by omega)]; rfl
      simp only [Prod.mk.injEq] at e
      obtain ⟨rfl, rfl, rfl⟩ := e
      obtain ⟨_, u0, u1, _, _⟩ := id U8
      have h40i : (40 : Int) < (N : Int) := by omega
      have K9 := noDesk_c A3 P3 n3 c3 m3 d3 [] [] _ G8
      rw [show (eqB [] [] && eqBB [] []) = true from rfl] at K9
      clear T8 U8 D8 E8 G8
      go_wp2_with fail
      refine K9.mono ?_
      rintro e w9 ⟨rfl, hb9⟩
      have B9 := bt B8 hb9
      clear K9 hb9 u0 u1
      go_wp2_with fail
      refine (alive_c _).mono ?_
      rintro e w10 ⟨rfl, hb10⟩
      have B10 := bt B9 hb10
      go_wp2_with fail
      go_ret
      exact ⟨rfl, B10⟩
    · have h40i : ¬ (40 : Int) < (N : Int) := by omega
      obtain ⟨H, hH, hHN⟩ : ∃ H : Nat, (N : Int) / 2 = (H : Int) ∧ H ≤ N := ⟨N / 2, by omega, by omega⟩
      go_upto_region 11 with fail
      obtain ⟨f1, f2, k1, y1, y2, y3, v1, v2, v3, hok2⟩ := runX_two H hok (show ds.length ≤ 40 by omega)
      obtain ⟨p1, p2, q1, hfit1, hval1, _, KJ⟩ := deskRun_any xs yss (ds.take H) (fun k hk => by rw [List.length_take] at hk; unfold dS; rw [dG_take (by omega)]; exact HS.out k (by omega))
      rw [v1] at hval1
      simp only [Prod.mk.injEq] at hval1
      obtain ⟨rfl, rfl, rfl⟩ := hval1
      clear hH
      go_cut [10, 11] (fun s10 s11 wx => CutH w8 wx s10 s11 p1 p2 q1)
      case first =>
        have hTd : Two w8.drew w1.heap.size (.slice A1 n1 c1) (.slice P1 m1 d1) := T8
        have hgz := hTd.1
        have hOd : RdD w8.drew w8.drew.heap.size A1 n1 c1 xs P1 m1 d1 yss := D8
        have hEd : RdE w8.drew w8.drew.heap.size E H C (ds.take H) := E8.take_ hHN
        have hne8 : ¬ w8.heap.size = w1.heap.size := fun e => by have : w1.heap.size < w8.heap.size := hgz; omega
        have hHC : H ≤ C := by omega
        have hHi : (H : Int) ≤ (C : Int) := by omega
        have hH0 : (0 : Int) ≤ (H : Int) := Int.natCast_nonneg _
        have hzd : w8.heap.size ≤ w8.drew.heap.size := Nat.le_refl _
        have HF2 := Lib.hid (fun k (hk : k < p2.length) => hfit1.2.2.2.1 k hk)
        have Y0 := Lib.hid (show World.cell? w8.drew ⟨w1.heap.size, 0, none⟩ = some (.slice A1 n1 c1) ∧ World.cell? w8.drew ⟨w1.heap.size, 1, none⟩ = some (.slice P1 m1 d1) from ⟨hTd.2.1, hTd.2.2.1⟩)
        have KA0 : Hid (∀ o, World.cell? (w8.drew.alloc o) ⟨w1.heap.size, 0, none⟩ = some (.slice A1 n1 c1) ∧ World.cell? (w8.drew.alloc o) ⟨w1.heap.size, 1, none⟩ = some (.slice P1 m1 d1)) := Lib.hid (fun o => ⟨((below_new w8.drew o).cell (p := ⟨w1.heap.size, 0, none⟩) hgz).trans Y0.out.1, ((below_new w8.drew o).cell (p := ⟨w1.heap.size, 1, none⟩) hgz).trans Y0.out.2⟩)
        clear T8 U8 D8 E8 G8 B8
        go_region_held3 (fun w' => World.cell? w' ⟨w1.heap.size, 0, none⟩ = some (.slice A1 n1 c1) ∧ World.cell? w' ⟨w1.heap.size, 1, none⟩ = some (.slice P1 m1 d1))
          (first
            | exact Y0.out
            | exact KA0.out _
            | exact Y5.out
            | exact KA5.out _
            | exact KF.out _ _)
          (first
            | (go_at_call 18; refine (KJ _ _ _ _ _ _ _ _ _ _ (by first | exact hOd | exact hOd.up_ (below_new _ _)) (by first | exact hEd | exact hEd.up (below_new _ _))).mono ?_; rintro e w9 ⟨A9, n9, c9, P9, m9, d9, rfl, h9, hx9⟩; have h9r := h9.rd; have hb9 : Below w8.drew.heap.size w8.drew w9 := (by first | exact hx9 | exact below_of_alloc hx9); have hTb := hTd.up hb9; (try have tz9 : Two w9 w8.heap.size (.slice none 0 0) (.slice none 0 0) := (Two.made w8.drew _ _ _).up hx9); (try obtain ⟨_, z0, z1, z2, z3⟩ := id tz9); have hz9 := hb9.size; have Y5 := Lib.hid (show World.cell? w9 ⟨w1.heap.size, 0, none⟩ = some (.slice A1 n1 c1) ∧ World.cell? w9 ⟨w1.heap.size, 1, none⟩ = some (.slice P1 m1 d1) from ⟨hTb.2.1, hTb.2.2.1⟩); have KA5 : Hid (∀ o, World.cell? (w9.alloc o) ⟨w1.heap.size, 0, none⟩ = some (.slice A1 n1 c1) ∧ World.cell? (w9.alloc o) ⟨w1.heap.size, 1, none⟩ = some (.slice P1 m1 d1)) := Lib.hid (fun o => ⟨((below_new w9 o).cell (p := ⟨w1.heap.size, 0, none⟩) hTb.1).trans hTb.2.1, ((below_new w9 o).cell (p := ⟨w1.heap.size, 1, none⟩) hTb.1).trans hTb.2.2.1⟩); have KF : Hid (∀ y z, World.cell? ((w9.setCell ⟨w8.heap.size, 0, none⟩ y).setCell ⟨w8.heap.size, 1, none⟩ z) ⟨w1.heap.size, 0, none⟩ = some (.slice A1 n1 c1) ∧ World.cell? ((w9.setCell ⟨w8.heap.size, 0, none⟩ y).setCell ⟨w8.heap.size, 1, none⟩ z) ⟨w1.heap.size, 1, none⟩ = some (.slice P1 m1 d1)) := Lib.hid (fun y z => ⟨by rw [World.cell?_setCell_other _ _ _ _ (by intro e; exact hne8 (congrArg Addr.block e)), World.cell?_setCell_other _ _ _ _ (by intro e; exact hne8 (congrArg Addr.block e))]; exact hTb.2.1, by rw [World.cell?_setCell_other _ _ _ _ (by intro e; exact hne8 (congrArg Addr.block e)), World.cell?_setCell_other _ _ _ _ (by intro e; exact hne8 (congrArg Addr.block e))]; exact hTb.2.2.1⟩)))
        all_goals
          go_wp2_with fail
          go_meet
          first
            | exact cutH_last (show Below w8.heap.size w8 w9 from bt (bd (Below.refl w8.heap.size w8) 1) hb9) h9r
            | exact cutH_early (show Below w8.heap.size w8 w9 from bt (bd (Below.refl w8.heap.size w8) 1) hb9) h9r HF2.out tz9 (Nat.le_refl _)
      case rest =>
        obtain ⟨g10, A10, n10, c10, P10, m10, d10, rfl, rfl, X10, hb10, Z10⟩ := hcut
        generalize wc = w10 at *
        have U10 := U8.up hb10
        have G10 := G8.up_ hb10
        have E10 := E8.up hb10
        have B10 := bt B8 hb10
        clear T8 U8 D8 E8 G8 B8 hb10 KJ
        go_upto_region 12 with fail
        obtain ⟨g1, g2, k2, hfit2, hval2, _, KJ2⟩ := deskRun_any p1 p2 (ds.drop H) (fun k hk => by rw [List.length_drop] at hk; unfold dS; rw [dG_drop]; exact HS.out (H + k) (by omega))
        have hEd0 := E10.drop_any hHN
        by_cases hCH : C = H
        · rw [if_pos hCH, show C - H = 0 by omega] at hEd0
          rw [show N - H = 0 by omega] at hEd0
          obtain rfl : H = C := hCH.symm
          go_cut [12, 13] (fun s12 s13 wx => CutH w10 wx s12 s13 g1 g2 k2)
          case first =>
            have hTd : Two w10.drew g10 (.slice A10 n10 c10) (.slice P10 m10 d10) := X10
            have hgz := hTd.1
            have hOd : RdD w10.drew w10.drew.heap.size A10 n10 c10 p1 P10 m10 d10 p2 := Z10
            have hEd : RdE w10.drew w10.drew.heap.size E 0 0 (ds.drop H) := hEd0
            have hne8 : ¬ w10.heap.size = g10 := fun e => by have : g10 < w10.heap.size := hgz; omega
            have hHi : (H : Int) ≤ (N : Int) := by omega
            have hH0 : (0 : Int) ≤ (H : Int) := Int.natCast_nonneg _
            have hzd : w10.heap.size ≤ w10.drew.heap.size := Nat.le_refl _
            have HF2 := Lib.hid (fun k (hk : k < g2.length) => hfit2.2.2.2.1 k hk)
            have Y0 := Lib.hid (show World.cell? w10.drew ⟨g10, 0, none⟩ = some (.slice A10 n10 c10) ∧ World.cell? w10.drew ⟨g10, 1, none⟩ = some (.slice P10 m10 d10) from ⟨hTd.2.1, hTd.2.2.1⟩)
            have KA0 : Hid (∀ o, World.cell? (w10.drew.alloc o) ⟨g10, 0, none⟩ = some (.slice A10 n10 c10) ∧ World.cell? (w10.drew.alloc o) ⟨g10, 1, none⟩ = some (.slice P10 m10 d10)) := Lib.hid (fun o => ⟨((below_new w10.drew o).cell (p := ⟨g10, 0, none⟩) hgz).trans Y0.out.1, ((below_new w10.drew o).cell (p := ⟨g10, 1, none⟩) hgz).trans Y0.out.2⟩)
            clear X10 U10 Z10 E10 G10 B10
            go_region_held3 (fun w' => World.cell? w' ⟨g10, 0, none⟩ = some (.slice A10 n10 c10) ∧ World.cell? w' ⟨g10, 1, none⟩ = some (.slice P10 m10 d10))
              (first
                | exact Y0.out
                | exact KA0.out _
                | exact Y5.out
                | exact KA5.out _
                | exact KF.out _ _)
              (first
                | (go_at_call 18; refine (KJ2 _ _ _ _ _ _ _ _ _ _ (by first | exact hOd | exact hOd.up_ (below_new _ _)) (by first | exact hEd | exact hEd.up (below_new _ _))).mono ?_; rintro e w9 ⟨A9, n9, c9, P9, m9, d9, rfl, h9, hx9⟩; have h9r := h9.rd; have hb9 : Below w10.drew.heap.size w10.drew w9 := (by first | exact hx9 | exact below_of_alloc hx9); have hTb := hTd.up hb9; (try have tz9 : Two w9 w10.heap.size (.slice none 0 0) (.slice none 0 0) := (Two.made w10.drew _ _ _).up hx9); (try obtain ⟨_, z0, z1, z2, z3⟩ := id tz9); have hz9 := hb9.size; have Y5 := Lib.hid (show World.cell? w9 ⟨g10, 0, none⟩ = some (.slice A10 n10 c10) ∧ World.cell? w9 ⟨g10, 1, none⟩ = some (.slice P10 m10 d10) from ⟨hTb.2.1, hTb.2.2.1⟩); have KA5 : Hid (∀ o, World.cell? (w9.alloc o) ⟨g10, 0, none⟩ = some (.slice A10 n10 c10) ∧ World.cell? (w9.alloc o) ⟨g10, 1, none⟩ = some (.slice P10 m10 d10)) := Lib.hid (fun o => ⟨((below_new w9 o).cell (p := ⟨g10, 0, none⟩) hTb.1).trans hTb.2.1, ((below_new w9 o).cell (p := ⟨g10, 1, none⟩) hTb.1).trans hTb.2.2.1⟩); have KF : Hid (∀ y z, World.cell? ((w9.setCell ⟨w10.heap.size, 0, none⟩ y).setCell ⟨w10.heap.size, 1, none⟩ z) ⟨g10, 0, none⟩ = some (.slice A10 n10 c10) ∧ World.cell? ((w9.setCell ⟨w10.heap.size, 0, none⟩ y).setCell ⟨w10.heap.size, 1, none⟩ z) ⟨g10, 1, none⟩ = some (.slice P10 m10 d10)) := Lib.hid (fun y z => ⟨by rw [World.cell?_setCell_other _ _ _ _ (by intro e; exact hne8 (congrArg Addr.block e)), World.cell?_setCell_other _ _ _ _ (by intro e; exact hne8 (congrArg Addr.block e))]; exact hTb.2.1, by rw [World.cell?_setCell_other _ _ _ _ (by intro e; exact hne8 (congrArg Addr.block e)), World.cell?_setCell_other _ _ _ _ (by intro e; exact hne8 (congrArg Addr.block e))]; exact hTb.2.2.1⟩)))
            all_goals
              go_wp2_with fail
              go_meet
              first
                | exact cutH_last (show Below w10.heap.size w10 w9 from bt (bd (Below.refl w10.heap.size w10) 1) hb9) h9r
                | exact cutH_early (show Below w10.heap.size w10 w9 from bt (bd (Below.refl w10.heap.size w10) 1) hb9) h9r HF2.out tz9 (Nat.le_refl _)
          case rest =>
            obtain ⟨g11, A11, n11, c11, P11, m11, d11, rfl, rfl, X11, hb11, Z11⟩ := hcut
            generalize wc = w12 at *
            rw [v2] at hval2
            simp only [Prod.mk.injEq] at hval2
            obtain ⟨rfl, rfl, rfl⟩ := hval2
            have hall := HV.out.trans v3
            simp only [Prod.mk.injEq] at hall
            obtain ⟨rfl, rfl, hmm⟩ := hall
            have hq1 := hfit1.2.2.2.2
            have hk2 := hfit2.2.2.2.2
            have U12 := U10.up hb11
            have G12 := G10.up_ hb11
            have B12 := bt B10 hb11
            obtain ⟨_, u0, u1, _, _⟩ := id U12
            obtain ⟨_, x0, x1, _, _⟩ := id X11
            have K13 := deskOk_c A3 P3 n3 c3 m3 d3 r1 r2 _ G12
            rw [hok2] at K13
            clear hb11 X10 U10 Z10 E10 G10 B10 KJ2 hEd0
            go_wp2_with fail
            refine K13.mono ?_
            rintro e w13 ⟨rfl, hb13⟩
            have G13 := G12.up_ hb13
            have Z13 := Z11.up_ hb13
            have U13 := U12.up hb13
            have X13 := X11.up hb13
            have B13 := bt B12 hb13
            clear hb13 u0 u1 x0 x1 K13 G12 Z11 U12 X11 B12
            obtain ⟨_, u0, u1, _, _⟩ := id U13
            obtain ⟨_, x0, x1, _, _⟩ := id X13
            have K14 := sameDesk_c A11 P11 A3 P3 n11 c11 m11 d11 n3 c3 m3 d3 r1 r1 r2 r2 _ Z13 G13
            rw [show (eqB r1 r1 && eqBB r2 r2) = true from by rw [eqB_self, eqBB_self]; rfl] at K14
            go_wp2_with fail
            refine K14.mono ?_
            rintro e w14 ⟨rfl, hb14⟩
            have B14 := bt B13 hb14
            have hmmi : (mm : Int) = (q1 : Int) + (k2 : Int) := by omega
            have hwr : wrap64 ((q1 : Int) + (k2 : Int)) = (mm : Int) := by rw [hmmi]; simp [wrap64]; omega
            clear u0 u1 x0 x1 K14
            go_wp2_with fail
            go_ret
            exact ⟨rfl, B14⟩
        · rw [if_neg hCH] at hEd0
          go_cut [12, 13] (fun s12 s13 wx => CutH w10 wx s12 s13 g1 g2 k2)
          case first =>
            have hTd : Two w10.drew g10 (.slice A10 n10 c10) (.slice P10 m10 d10) := X10
            have hgz := hTd.1
            have hOd : RdD w10.drew w10.drew.heap.size A10 n10 c10 p1 P10 m10 d10 p2 := Z10
            have hEd : RdE w10.drew w10.drew.heap.size (E.map (·.add (H * 4))) (N - H) (C - H) (ds.drop H) := hEd0
            have hne8 : ¬ w10.heap.size = g10 := fun e => by have : g10 < w10.heap.size := hgz; omega
            have hHC : H ≤ C := by omega
            have hHi : (H : Int) ≤ (N : Int) := by omega
            have hH0 : (0 : Int) ≤ (H : Int) := Int.natCast_nonneg _
            have hzd : w10.heap.size ≤ w10.drew.heap.size := Nat.le_refl _
            have HF2 := Lib.hid (fun k (hk : k < g2.length) => hfit2.2.2.2.1 k hk)
            have Y0 := Lib.hid (show World.cell? w10.drew ⟨g10, 0, none⟩ = some (.slice A10 n10 c10) ∧ World.cell? w10.drew ⟨g10, 1, none⟩ = some (.slice P10 m10 d10) from ⟨hTd.2.1, hTd.2.2.1⟩)
            have KA0 : Hid (∀ o, World.cell? (w10.drew.alloc o) ⟨g10, 0, none⟩ = some (.slice A10 n10 c10) ∧ World.cell? (w10.drew.alloc o) ⟨g10, 1, none⟩ = some (.slice P10 m10 d10)) := Lib.hid (fun o => ⟨((below_new w10.drew o).cell (p := ⟨g10, 0, none⟩) hgz).trans Y0.out.1, ((below_new w10.drew o).cell (p := ⟨g10, 1, none⟩) hgz).trans Y0.out.2⟩)
            clear X10 U10 Z10 E10 G10 B10
            go_region_held3 (fun w' => World.cell? w' ⟨g10, 0, none⟩ = some (.slice A10 n10 c10) ∧ World.cell? w' ⟨g10, 1, none⟩ = some (.slice P10 m10 d10))
              (first
                | exact Y0.out
                | exact KA0.out _
                | exact Y5.out
                | exact KA5.out _
                | exact KF.out _ _)
              (first
                | (go_at_call 18; refine (KJ2 _ _ _ _ _ _ _ _ _ _ (by first | exact hOd | exact hOd.up_ (below_new _ _)) (by first | exact hEd | exact hEd.up (below_new _ _))).mono ?_; rintro e w9 ⟨A9, n9, c9, P9, m9, d9, rfl, h9, hx9⟩; have h9r := h9.rd; have hb9 : Below w10.drew.heap.size w10.drew w9 := (by first | exact hx9 | exact below_of_alloc hx9); have hTb := hTd.up hb9; (try have tz9 : Two w9 w10.heap.size (.slice none 0 0) (.slice none 0 0) := (Two.made w10.drew _ _ _).up hx9); (try obtain ⟨_, z0, z1, z2, z3⟩ := id tz9); have hz9 := hb9.size; have Y5 := Lib.hid (show World.cell? w9 ⟨g10, 0, none⟩ = some (.slice A10 n10 c10) ∧ World.cell? w9 ⟨g10, 1, none⟩ = some (.slice P10 m10 d10) from ⟨hTb.2.1, hTb.2.2.1⟩); have KA5 : Hid (∀ o, World.cell? (w9.alloc o) ⟨g10, 0, none⟩ = some (.slice A10 n10 c10) ∧ World.cell? (w9.alloc o) ⟨g10, 1, none⟩ = some (.slice P10 m10 d10)) := Lib.hid (fun o => ⟨((below_new w9 o).cell (p := ⟨g10, 0, none⟩) hTb.1).trans hTb.2.1, ((below_new w9 o).cell (p := ⟨g10, 1, none⟩) hTb.1).trans hTb.2.2.1⟩); have KF : Hid (∀ y z, World.cell? ((w9.setCell ⟨w10.heap.size, 0, none⟩ y).setCell ⟨w10.heap.size, 1, none⟩ z) ⟨g10, 0, none⟩ = some (.slice A10 n10 c10) ∧ World.cell? ((w9.setCell ⟨w10.heap.size, 0, none⟩ y).setCell ⟨w10.heap.size, 1, none⟩ z) ⟨g10, 1, none⟩ = some (.slice P10 m10 d10)) := Lib.hid (fun y z => ⟨by rw [World.cell?_setCell_other _ _ _ _ (by intro e; exact hne8 (congrArg Addr.block e)), World.cell?_setCell_other _ _ _ _ (by intro e; exact hne8 (congrArg Addr.block e))]; exact hTb.2.1, by rw [World.cell?_setCell_other _ _ _ _ (by intro e; exact hne8 (congrArg Addr.block e)), World.cell?_setCell_other _ _ _ _ (by intro e; exact hne8 (congrArg Addr.block e))]; exact hTb.2.2.1⟩)))
            all_goals
              go_wp2_with fail
              go_meet
              first
                | exact cutH_last (show Below w10.heap.size w10 w9 from bt (bd (Below.refl w10.heap.size w10) 1) hb9) h9r
                | exact cutH_early (show Below w10.heap.size w10 w9 from bt (bd (Below.refl w10.heap.size w10) 1) hb9) h9r HF2.out tz9 (Nat.le_refl _)
          case rest =>
            obtain ⟨g11, A11, n11, c11, P11, m11, d11, rfl, rfl, X11, hb11, Z11⟩ := hcut
            generalize wc = w12 at *
            rw [v2] at hval2
            simp only [Prod.mk.injEq] at hval2
            obtain ⟨rfl, rfl, rfl⟩ := hval2
            have hall := HV.out.trans v3
            simp only [Prod.mk.injEq] at hall
            obtain ⟨rfl, rfl, hmm⟩ := hall
            have hq1 := hfit1.2.2.2.2
            have hk2 := hfit2.2.2.2.2
            have U12 := U10.up hb11
            have G12 := G10.up_ hb11
            have B12 := bt B10 hb11
            obtain ⟨_, u0, u1, _, _⟩ := id U12
            obtain ⟨_, x0, x1, _, _⟩ := id X11
            have K13 := deskOk_c A3 P3 n3 c3 m3 d3 r1 r2 _ G12
            rw [hok2] at K13
            clear hb11 X10 U10 Z10 E10 G10 B10 KJ2 hEd0
            go_wp2_with fail
            refine K13.mono ?_
            rintro e w13 ⟨rfl, hb13⟩
            have G13 := G12.up_ hb13
            have Z13 := Z11.up_ hb13
            have U13 := U12.up hb13
            have X13 := X11.up hb13
            have B13 := bt B12 hb13
            clear hb13 u0 u1 x0 x1 K13 G12 Z11 U12 X11 B12
            obtain ⟨_, u0, u1, _, _⟩ := id U13
            obtain ⟨_, x0, x1, _, _⟩ := id X13
            have K14 := sameDesk_c A11 P11 A3 P3 n11 c11 m11 d11 n3 c3 m3 d3 r1 r1 r2 r2 _ Z13 G13
            rw [show (eqB r1 r1 && eqBB r2 r2) = true from by rw [eqB_self, eqBB_self]; rfl] at K14
            go_wp2_with fail
            refine K14.mono ?_
            rintro e w14 ⟨rfl, hb14⟩
            have B14 := bt B13 hb14
            have hmmi : (mm : Int) = (q1 : Int) + (k2 : Int) := by omega
            have hwr : wrap64 ((q1 : Int) + (k2 : Int)) = (mm : Int) := by rw [hmmi]; simp [wrap64]; omega
            clear u0 u1 x0 x1 K14
            go_wp2_with fail
            go_ret
            exact ⟨rfl, B14⟩
end Go.Proofs.Ytnpjelekpkgbpaa
