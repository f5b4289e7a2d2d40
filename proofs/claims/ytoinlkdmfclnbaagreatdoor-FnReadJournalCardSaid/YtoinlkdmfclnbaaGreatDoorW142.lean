/- Walk: FnReadJournal. -/
import Derived.Test.YtoinlkdmfclnbaaGreatDoorW140
import Derived.Test.YtoinlkdmfclnbaaGreatDoorW141
namespace Go.Proofs.YtoinlkdmfclnbaaGreatDoor
set_option linter.unusedVariables false
open Go.RowKit

theorem fr_toDd (d : Dl) : frDd (toDd d) = d := by
  obtain ⟨k, a, b, x⟩ := d
  unfold toDd frDd
  simp only [bl_list]
theorem fr_map (us : List Dl) : (us.map toDd).map frDd = us := by
  rw [List.map_map]
  conv => rhs; rw [← List.map_id us]
  exact List.map_congr_left (fun d _ => fr_toDd d)
theorem stepX_two {t : Sk} {d : Dd} (h : deskOkB t.1 t.2.1 = true) : (stepX t d).1 = (doX t.1 t.2.1 d.1 d.2.1 d.2.2.1 d.2.2.2).1 ∧ (stepX t d).2.1 = (doX t.1 t.2.1 d.1 d.2.1 d.2.2.1 d.2.2.2).2.1 := by
  unfold stepX
  split
  · exact ⟨rfl, rfl⟩
  · rename_i hf
    rcases hb : backB t.2.1 d.1 d.2.1 d.2.2.1 d.2.2.2 with _ | _
    · rcases hs : stayB t.1 d.1 d.2.1 d.2.2.1 d.2.2.2 with _ | _
      · exact absurd (by rw [do_go h hb hs]) hf
      · rw [do_stay h hb hs]; exact ⟨rfl, rfl⟩
    · exact absurd (by rw [do_back h hb]) hf
/-- Text of a read journal. -/
theorem jt_read (l : List UInt8) : jtX ((rj l).1.map toDd) = bl (l.take (rj l).2) := by
  obtain ⟨h1, h2, _⟩ := rj_text l.length l (Nat.le_refl _)
  unfold jtX
  rw [fr_map, jtL_yes h1, h2]
def CutL (wj wx : World) (s6 s7 : Value) (r1 : List Int) (r2 : List (List Int)) (t : ByteArray) : Prop :=
  ∃ g A n c P m d lo hi, s6 = .pointer (some ⟨g, 0, none⟩) ∧ s7 = .string t ∧ Two wx g (.slice A n c) (.slice P m d) ∧ Below wj.heap.size wj wx ∧ OwnD wx lo hi A n c r1 P m d r2 ∧ wj.heap.size ≤ lo ∧ hi ≤ wx.heap.size
section
variable {wj wx : World} {A P : Option Addr} {n c m d g lo hi : Nat} {r1 : List Int} {r2 : List (List Int)} {t : ByteArray}
theorem cutL_last (hb : Below wj.heap.size wj wx) (h : OwnD wx lo hi A n c r1 P m d r2) (h1 : wj.heap.size ≤ lo) (h2 : hi ≤ wx.heap.size) : CutL wj (wx.alloc (.cells #[.slice A n c, .slice P m d] 26)) (.pointer (some ⟨wx.heap.size, 0, none⟩)) (.string t) r1 r2 t :=
  ⟨_, _, _, _, _, _, _, lo, hi, rfl, rfl, Two.made wx _ _ _, bt hb (below_new _ _), h.up (below_new _ _), h1, Nat.le_trans h2 (below_new wx _).size⟩
theorem cutL_early (hb : Below wj.heap.size wj wx) (h : OwnD wx lo hi A n c r1 P m d r2) (h1 : wj.heap.size ≤ lo) (h2 : hi ≤ wx.heap.size) (hg : Two wx g (.slice none 0 0) (.slice none 0 0)) (hgl : wj.heap.size ≤ g) (hd : g < lo) :
    CutL wj ((wx.setCell ⟨g, 0, none⟩ (.slice A n c)).setCell ⟨g, 1, none⟩ (.slice P m d)) (.pointer (some ⟨g, 0, none⟩)) (.string t) r1 r2 t := by
  have hg1 := hg.set0 (.slice A n c)
  have hz : ((wx.setCell ⟨g, 0, none⟩ (.slice A n c)).setCell ⟨g, 1, none⟩ (.slice P m d)).heap.size = wx.heap.size := by simp
  have hch : Chg g (g + 1) wx ((wx.setCell ⟨g, 0, none⟩ (.slice A n c)).setCell ⟨g, 1, none⟩ (.slice P m d)) :=
    ((Chg.refl _ _ wx).setCell (p := ⟨g, 0, none⟩) (Nat.le_refl g) (Nat.lt_succ_self g) _).setCell (p := ⟨g, 1, none⟩) (Nat.le_refl g) (Nat.lt_succ_self g) _
  exact ⟨g, A, n, c, P, m, d, lo, hi, rfl, rfl, hg1.set1 _, (hb.setCell hgl _).setCell hgl _, h.chg hch (.inr hd), h1, by rw [hz]; exact h2⟩
end
theorem deskRun_i (xs : List Int) (yss : List (List Int)) (ds : List Dd) (hsh : Shrt ds) :
    ∃ (r1 : List Int) (r2 : List (List Int)) (m : Nat), (r1, r2, m) = runX xs yss ds ∧
      (∀ A n c P k d E N C w, RdD w w.heap.size A n c xs P k d yss → RdE w w.heap.size E N C ds → Calls Tryz.prog 36 #[.agg #[.slice A n c, .slice P k d], .slice E N C] w (RunO w r1 r2 m)) := by
  refine ⟨(runX xs yss ds).1, (runX xs yss ds).2.1, (runX xs yss ds).2.2, rfl, ?_⟩
  rcases hok : deskOkB xs yss with _ | _
  · have e : runX xs yss ds = ([], [], 0) := by unfold runX runB; rw [hok]; rfl
    rw [e]
    exact fun A n c P k d E N C w h hE => deskRun_no A P E n c k d N C xs yss ds w h hE (.inl hok)
  · by_cases h40 : ds.length ≤ 40
    · have e : runX xs yss ds = runL xs yss ds := by unfold runX runB; rw [hok, decide_eq_true h40]; rfl
      rw [e]
      exact fun A n c P k d E N C w h hE => deskRun_yes A P E n c k d N C xs yss ds w h hE hok (by rw [← hE.len]; exact h40) hsh
    · have e : runX xs yss ds = ([], [], 0) := by unfold runX runB; rw [hok, decide_eq_false h40]; rfl
      rw [e]
      exact fun A n c P k d E N C w h hE => deskRun_no A P E n c k d N C xs yss ds w h hE (.inr ⟨hok, by have := hE.len; omega⟩)
/-- The desk of the lines said so far, in block g. -/
def NowSt (wr : World) (g : Nat) (t : Sk) : Prop := ∃ A n c P m d, Two wr g (.slice A n c) (.slice P m d) ∧ RdD wr wr.heap.size A n c t.1 P m d t.2.1
set_option maxRecDepth 100000 in
set_option maxHeartbeats 6400000 in
theorem walk_FnReadJournal (A : Option Addr) (n c : Nat) (bs : List Nat) (A' : Option Addr) (n' c' : Nat) (bs' : List Nat) (w : World) (hg : Glo w) (h : RdB w w.heap.size A n c bs) (h' : RdB w w.heap.size A' n' c' bs') :
    Calls Tryz.prog 6 #[.slice A n c, .slice A' n' c'] w fun e w' => e = .returned (.bool true) ∧ Below w.heap.size w w' := by
  have hmx := h.max
  have hcp := h.cap
  have hmx' := h'.max
  have hcp' := h'.cap
  unfold maxLen at hmx hmx'
  by_cases hbig : 1048576 < n
  · go_enter Tryz.func6, Tryz.ntmps6
    go_wp2_with fail
    go_ret
    exact ⟨rfl, Below.refl _ _⟩
  by_cases hbig' : 1048576 < n'
  · go_enter Tryz.func6, Tryz.ntmps6
    go_wp2_with fail
    go_ret
    exact ⟨rfl, Below.refl _ _⟩
  go_enter Tryz.func6, Tryz.ntmps6
  go_wp2_with fail
  refine (drawReadJournal_c A n c bs _ h).mono ?_
  rintro e w1 ⟨s, rfl, hs, hb1⟩
  have hg1 := hg.up hb1
  have hll : s.data.toList.length = s.size := by rw [Array.length_toList]; rfl
  obtain ⟨ht1, ht2, ht3⟩ := rj_text s.data.toList.length s.data.toList (Nat.le_refl _)
  have hlen := (rj_len s.data.toList.length s.data.toList (Nat.le_refl _)).1
  have hjt := jt_read s.data.toList
  have HTK : Hid (∀ k, ∃ j q, j ≤ (rj s.data.toList).1.length ∧ q ≤ k ∧ rj (s.data.toList.take k) = ((rj s.data.toList).1.take j, q)) := Lib.hid (fun k => by
    obtain ⟨⟨j, hj, h1⟩, h2⟩ := rj_take s.data.toList.length s.data.toList k (Nat.le_refl _)
    exact ⟨j, _, hj, h2, Prod.ext h1 rfl⟩)
  have K1 := readJournal_c s.data.toList w1 (by omega) hg1
  have K2 := fun W => sReadJournal_c s.data.toList W (by omega)
  rw [bl_of] at K1 K2
  unfold JrOut at K1 K2
  obtain ⟨us, M, hrj⟩ : ∃ us M, rj s.data.toList = (us, M) := ⟨_, _, rfl⟩
  rw [hrj] at ht1 ht2 ht3 hlen hjt HTK K1 K2
  simp only at ht1 ht2 ht3 hlen hjt HTK K1 K2
  have HNE : Hid (∀ k, k < us.length → dtD (frDd (dG (us.map toDd) k)) ≠ []) := Lib.hid (fun k hk => by
    rw [dG_dd hk, fr_toDd]
    exact ht1 _ (List.getElem_mem hk))
  have HTK2 : Hid (∀ k, ∃ j q, j ≤ us.length ∧ q ≤ k ∧ ∃ vs : List Dl, rj (s.data.toList.take k) = (vs, q) ∧ vs.length = j ∧ vs.map toDd = (us.map toDd).take j) := Lib.hid (fun k => by
    obtain ⟨j, q, hj, hq, e⟩ := HTK.out k
    exact ⟨j, q, hj, hq, _, e, by rw [List.length_take]; omega, List.map_take⟩)
  have hdl : (us.map toDd).length = us.length := List.length_map ..
  obtain ⟨N, hN⟩ : ∃ N, us.length = N := ⟨_, rfl⟩
  rw [hN] at hlen HTK2 K1 K2 HNE hdl
  generalize us.map toDd = ds at *
  have hN2 : N ≤ 200 := by omega
  have hM2 : M ≤ s.size := by omega
  have hsh : Shrt ds := fun k hk => by
    have h1 := HNE.out k (by omega)
    have h2 := dt_x (l := dtD (frDd (dG ds k))) (kd := dK ds k) (a := dA ds k) (b := dB ds k) (x := (dS ds k).data.toList) (by rw [rdV_of h1]; rfl)
    have h3 : (dS ds k).size = (dS ds k).data.toList.length := by rw [Array.length_toList]; rfl
    omega
  have HSL : Hid (∀ k W, k ≤ s.size → (Instr.slice 9 (.string s) none (some (.int .i64 (k : Int))) none).run Tryz.prog W = .ok (.string (bl (s.data.toList.take k))) W) := Lib.hid (fun k W hk => by
    rw [run_slice_string_to_if _ _ _ _ _ Tryz.underlying9, if_pos ⟨by omega, by omega⟩, Int.toNat_natCast]
    have := sub_bl s.data.toList 0 k
    rw [bl_of] at this
    rw [this, List.drop_zero, Nat.sub_zero])
  clear ht1 ht2 ht3 hlen HTK hrj hN
  go_wp2_with fail
  refine K1.mono ?_
  rintro e w2 ⟨A2, c2, rfl, hO2, hb2⟩
  have B2 := bt hb1 hb2
  have E2 := hO2.rd
  clear K1 hb1 hb2 hO2 hg1
  go_wp2_with fail
  refine (K2 _).mono ?_
  rintro e w3 ⟨A3, c3, rfl, hO3, hb3⟩
  have B3 := bt B2 hb3
  have E3 := E2.up hb3
  have K4 := sameDeeds_c A2 A3 N c2 c3 ds _ E3 hO3.rd
  clear K2 B2 E2 hb3
  go_wp2_with fail
  refine K4.mono ?_
  rintro e w4 ⟨rfl, m4, rfl⟩
  have B4 := bd B3 m4
  have E4 := E3.dn m4
  clear K4 B3 E3 hO3
  generalize w3.drewN m4 = w4 at *
  go_wp2_with fail
  have hcE := E4.cap
  have hmE := E4.max
  unfold maxLen at hmE
  go_loopw [10] (fun i wr => ∃ k : Nat, k ≤ s.size + 1 ∧ i = .int .i64 (k : Int) ∧ Below w4.heap.size w4 wr) (fun i _ => s.size + 1 - (intOf i).toNat)
  case atStart => exact ⟨0, Nat.zero_le _, rfl, Below.refl _ _⟩
  case round =>
    obtain ⟨k, hk, rfl, hbw⟩ := hrel
    have E5 := E4.up hbw
    have B5 := bt B4 hbw
    clear B4 E4
    by_cases hlt : k ≤ s.size
    · obtain ⟨j, q, hj, hq, vs, hr9, hvl, hvm⟩ := HTK2.out k
      have hik := HSL.out k wr hlt
      have K6 := readJournal_c (s.data.toList.take k) wr (by rw [List.length_take]; omega) (hg.up B5)
      unfold JrOut at K6
      rw [hr9] at K6
      simp only at K6
      rw [hvl, hvm] at K6
      have hki : (k : Int) ≤ (s.size : Int) := by omega
      have hji : ¬ (N : Int) < (j : Int) := by omega
      have hjN : (j : Int) ≤ (N : Int) := by omega
      have hj0 : (0 : Int) ≤ (j : Int) := Int.natCast_nonneg _
      have hjc : (j : Int) ≤ (c2 : Int) := by omega
      have hjc' : j ≤ c2 := by omega
      have hmin : min (j : Int) (N : Int) = (j : Int) := by omega
      have hqi : ¬ (k : Int) < (q : Int) := by omega
      generalize bl (s.data.toList.take k) = T at *
      clear hr9 hvl hvm
      go_wp2_with fail
      refine K6.mono ?_
      rintro e w6 ⟨A6, c6, rfl, hO6, hb6⟩
      have E6 := E5.up hb6
      have B6 := bt hbw hb6
      have K7 := sameDeeds_c A6 A2 j c6 c2 (ds.take j) _ hO6.rd (E6.take_ hj)
      clear K6 hbw hb6 B5 E5
      go_wp2_with fail
      refine K7.mono ?_
      rintro e w7 ⟨rfl, m7, rfl⟩
      have B7 := bd B6 m7
      clear K7 B6 E6 hO6
      go_wp2_with fail
      go_roundw
      case rel => exact ⟨k + 1, by omega, by go_num, B7⟩
      case measure => simp [intOf]; omega
    · have hki : ¬ (k : Int) ≤ (s.size : Int) := by omega
      clear hbw HTK2
      go_wp2_with fail
      refine (drawDeskRun_c A' n' c' bs' _ ((h'.below B5).more B5.size)).mono ?_
      rintro e w6 ⟨A1, n1, c1, xs, P1, m1, d1, yss, Ez, Nz, Cz, dsz, rfl, hD6, _, _, hb6⟩
      have hbA := below_new w6 (.cells #[.slice A1 n1 c1, .slice P1 m1 d1] 26)
      have T7 := Two.made w6 26 (.slice A1 n1 c1) (.slice P1 m1 d1)
      have D7 := hD6.up_ hbA
      have E7 := (E5.up hb6).up hbA
      have B7 := bt (bt B5 hb6) hbA
      clear hb6 hbA hD6 E5 B5
      obtain ⟨_, t0, t1, _, _⟩ := id T7
      go_wp2_with fail
      clear t0 t1
      have hz7 : (w6.alloc (.cells #[.slice A1 n1 c1, .slice P1 m1 d1] 26)).heap.size = w6.heap.size + 1 := by simp
      generalize w6.alloc (.cells #[.slice A1 n1 c1, .slice P1 m1 d1] 26) = w7 at *
      have hbA := below_new w7 (.cells #[.slice A1 n1 c1, .slice P1 m1 d1] 26)
      have hU0 : Two (w7.alloc (.cells #[.slice A1 n1 c1, .slice P1 m1 d1] 26)) (w6.heap.size + 1) (.slice A1 n1 c1) (.slice P1 m1 d1) := by
        rw [← hz7]
        exact Two.made w7 _ _ _
      have hst0 : NowSt (w7.alloc (.cells #[.slice A1 n1 c1, .slice P1 m1 d1] 26)) (w6.heap.size + 1) (runL xs yss (ds.take 0)) := by
        rw [← hz7]
        exact ⟨A1, n1, c1, P1, m1, d1, Two.made w7 _ _ _, D7.up_ hbA⟩
      have hsM := HSL.out M
      have hMi : (M : Int) ≤ (s.size : Int) := by omega
      have KD := fun W (h : RdD W W.heap.size A1 n1 c1 xs P1 m1 d1 yss) => sDeskOk_c A1 P1 n1 c1 m1 d1 xs yss W h
      obtain ⟨r1, r2, mm, hval, KI⟩ := deskRun_i xs yss ds hsh
      have hsh9 := Lib.hid hsh
      generalize bl (s.data.toList.take M) = TM at *
      have hsM' := fun W => hsM W hM2
      clear HSL hsM
      rcases hok : deskOkB xs yss with _ | _
      · rw [hok] at KD
        clear hst0
        go_loopw [16] (fun i wr => i = .int .i64 0 ∧ Two wr (w6.heap.size + 1) (.slice A1 n1 c1) (.slice P1 m1 d1) ∧ Below w7.heap.size w7 wr) (fun _ _ => 0)
        case atStart => exact ⟨rfl, hU0, hbA⟩
        case round =>
          obtain ⟨rfl, U9, hbw⟩ := hrel
          have T9 := T7.up hbw
          have D9 := D7.up_ hbw
          have E9 := E7.up hbw
          have B9 := bt B7 hbw
          clear T7 D7 E7 B7 hbA hbw
          by_cases hN0 : 0 < N
          · have hN0i : (0 : Int) < (N : Int) := by omega
            obtain ⟨_, t0, t1, _, _⟩ := id T9
            go_wp2_with fail
            refine (KD _ D9).mono ?_
            rintro e w10 ⟨rfl, hb10⟩
            have T10 := T9.up hb10
            have U10 := U9.up hb10
            have D10 := D9.up_ hb10
            have E10 := E9.up hb10
            have B10 := bt B9 hb10
            clear T9 U9 D9 E9 B9 hb10 t0 t1
            obtain ⟨_, t0, t1, _, _⟩ := id T10
            go_wp2_with fail
            clear t0 t1
            refine (KI _ _ _ _ _ _ _ _ _ _ D10 E10).mono ?_
            rintro e w19 ⟨A7, n7, c7, P7, m7, d7, rfl, hO19, hb19⟩
            have hbA := below_new w19 (.cells #[.slice A7 n7 c7, .slice P7 m7 d7] 26)
            have V20 := Two.made w19 26 (.slice A7 n7 c7) (.slice P7 m7 d7)
            have T20 := (T10.up hb19).up hbA
            have D20 := (D10.up_ hb19).up_ hbA
            have E20 := (E10.up hb19).up hbA
            have B20 := bt (bt B10 hb19) hbA
            have hg20 := hg.up B20
            have U20 := (U10.up hb19).up hbA
            clear hb19 hbA
            go_upto_region 24 with fail
            generalize w19.alloc (.cells #[.slice A7 n7 c7, .slice P7 m7 d7] 26) = w20 at *
            obtain ⟨t1z, t10, t11, _, _⟩ := id T20
            obtain ⟨t5z, t50, t51, _, _⟩ := id U20
            obtain ⟨t7z, t70, t71, _, _⟩ := id V20
            have KC : Hid (∀ W, Below w20.heap.size w20 W → World.cell? W ⟨w6.heap.size, 0, none⟩ = some (.slice A1 n1 c1) ∧ World.cell? W ⟨w6.heap.size, 1, none⟩ = some (.slice P1 m1 d1) ∧ World.cell? W ⟨w6.heap.size + 1, 0, none⟩ = some (.slice A1 n1 c1) ∧ World.cell? W ⟨w6.heap.size + 1, 1, none⟩ = some (.slice P1 m1 d1) ∧ World.cell? W ⟨w19.heap.size, 0, none⟩ = some (.slice A7 n7 c7) ∧ World.cell? W ⟨w19.heap.size, 1, none⟩ = some (.slice P7 m7 d7)) := Lib.hid (fun W h => ⟨(h.cell (p := ⟨w6.heap.size, 0, none⟩) t1z).trans t10, (h.cell (p := ⟨w6.heap.size, 1, none⟩) t1z).trans t11, (h.cell (p := ⟨w6.heap.size + 1, 0, none⟩) t5z).trans t50, (h.cell (p := ⟨w6.heap.size + 1, 1, none⟩) t5z).trans t51, (h.cell (p := ⟨w19.heap.size, 0, none⟩) t7z).trans t70, (h.cell (p := ⟨w19.heap.size, 1, none⟩) t7z).trans t71⟩)
            have C0 : Hid (Below w20.heap.size w20 w20.drew) := Lib.hid (bd (Below.refl _ _) 1)
            refine wp_region_held_drew (S := fun W => World.cell? W ⟨w6.heap.size, 0, none⟩ = some (.slice A1 n1 c1) ∧ World.cell? W ⟨w6.heap.size, 1, none⟩ = some (.slice P1 m1 d1) ∧ World.cell? W ⟨w6.heap.size + 1, 0, none⟩ = some (.slice A1 n1 c1) ∧ World.cell? W ⟨w6.heap.size + 1, 1, none⟩ = some (.slice P1 m1 d1) ∧ World.cell? W ⟨w19.heap.size, 0, none⟩ = some (.slice A7 n7 c7) ∧ World.cell? W ⟨w19.heap.size, 1, none⟩ = some (.slice P7 m7 d7)) (by kernel_rfl) (KC.out _ C0.out) (fun hHeld => ?_)
            refine wpAnyH_take (i := 0) (v := ?v1_0) rfl (by kernel_rfl) (by kernel_rfl) (by kernel_rfl) (fun _ _ _ h => h) (Or.inl ⟨by rfl, ?hy1_0⟩) hHeld ?_
            case hy1_0 => (intro w hSw; (try dsimp only at hSw); go_simp; first | done | with_reducible rfl)
            simp only [Act.put, List.setIfInBounds_toArray, List.set_cons_zero, List.set_cons_succ, List.getElem_toArray, List.getElem_cons_zero]
            refine wpAnyH_take (i := 1) (v := ?v1_1) rfl (by kernel_rfl) (by kernel_rfl) (by kernel_rfl) (fun _ _ _ h => h) (Or.inl ⟨by rfl, ?hy1_1⟩) hHeld ?_
            case hy1_1 => (intro w hSw; (try dsimp only at hSw); go_simp; first | done | with_reducible rfl)
            simp only [Act.put, List.setIfInBounds_toArray, List.set_cons_zero, List.set_cons_succ, List.getElem_toArray, List.getElem_cons_zero, List.getElem_cons_succ]
            refine wpAnyH_take (i := 2) (v := ?v1_2) rfl (by kernel_rfl) (by kernel_rfl) (by kernel_rfl) (fun _ _ _ h => h) (Or.inl ⟨by rfl, ?hy1_2⟩) hHeld ?_
            case hy1_2 => (intro w hSw; (try dsimp only at hSw); go_simp; first | done | with_reducible rfl)
            simp only [Act.put, List.setIfInBounds_toArray, List.set_cons_zero, List.set_cons_succ, List.getElem_toArray, List.getElem_cons_zero, List.getElem_cons_succ]
            refine wpAnyH_take (i := 3) (v := ?v1_3) rfl (by kernel_rfl) (by kernel_rfl) (by kernel_rfl) (fun _ _ _ h => h) (Or.inl ⟨by rfl, ?hy1_3⟩) hHeld ?_
            case hy1_3 => (intro w hSw; (try dsimp only at hSw); go_simp; first | done | with_reducible rfl)
            simp only [Act.put, List.setIfInBounds_toArray, List.set_cons_zero, List.set_cons_succ, List.getElem_toArray, List.getElem_cons_zero, List.getElem_cons_succ]
            refine wpAnyH_take (i := 4) (v := ?v1_4) rfl (by kernel_rfl) (by kernel_rfl) (by kernel_rfl) (fun _ _ _ h => h) (Or.inl ⟨by rfl, ?hy1_4⟩) hHeld ?_
            case hy1_4 => (intro w hSw; (try dsimp only at hSw); go_simp; first | done | with_reducible rfl)
            simp only [Act.put, List.setIfInBounds_toArray, List.set_cons_zero, List.set_cons_succ, List.getElem_toArray, List.getElem_cons_zero, List.getElem_cons_succ]
            refine wpAnyH_take (i := 5) (v := ?v1_5) rfl (by kernel_rfl) (by kernel_rfl) (by kernel_rfl) (fun _ _ _ h => h) (Or.inl ⟨by rfl, ?hy1_5⟩) hHeld ?_
            case hy1_5 => (intro w hSw; (try dsimp only at hSw); go_simp; first | done | with_reducible rfl)
            simp only [Act.put, List.setIfInBounds_toArray, List.set_cons_zero, List.set_cons_succ, List.getElem_toArray, List.getElem_cons_zero, List.getElem_cons_succ]
            refine wpAnyH_take (i := 7) (v := ?v1_7) rfl (by kernel_rfl) (by kernel_rfl) (by kernel_rfl) (fun _ _ _ h => h) (Or.inl ⟨by rfl, ?hy1_7⟩) hHeld ?_
            case hy1_7 => (intro w hSw; (try dsimp only at hSw); go_simp; first | done | with_reducible rfl)
            simp only [Act.put, List.setIfInBounds_toArray, List.set_cons_zero, List.set_cons_succ, List.getElem_toArray, List.getElem_cons_zero, List.getElem_cons_succ]
            refine wpAnyH_take (i := 8) (v := ?v1_8) rfl (by kernel_rfl) (by kernel_rfl) (by kernel_rfl) (fun _ _ _ h => h) (Or.inl ⟨by rfl, ?hy1_8⟩) hHeld ?_
            case hy1_8 => (intro w hSw; (try dsimp only at hSw); go_simp; first | done | with_reducible rfl)
            simp only [Act.put, List.setIfInBounds_toArray, List.set_cons_zero, List.set_cons_succ, List.getElem_toArray, List.getElem_cons_zero, List.getElem_cons_succ]
            refine wpAnyH_take (i := 9) (v := ?v1_9) rfl (by kernel_rfl) (by kernel_rfl) (by kernel_rfl) (fun _ _ _ h => h) (Or.inl ⟨by rfl, ?hy1_9⟩) hHeld ?_
            case hy1_9 => (intro w hSw; (try dsimp only at hSw); go_simp; first | done | with_reducible rfl)
            simp only [Act.put, List.setIfInBounds_toArray, List.set_cons_zero, List.set_cons_succ, List.getElem_toArray, List.getElem_cons_zero, List.getElem_cons_succ]
            refine wpAnyH_ready (rs := [6]) (by kernel_rfl) (by simp) ?_
            refine AllReadyH.cons rfl (fun K hK => ?_) AllReadyH.nil
            try simp only [List.getElem_toArray, List.getElem_cons_zero, List.getElem_cons_succ]
            go_simp
            refine (journalText_c A2 N c2 ds _ (E20.up C0.out) (by omega) (fun k hk => hsh9.out k (by omega)) (hg20.up C0.out).tab (hg20.up C0.out).six).mono ?_
            rw [hjt]
            rintro e x1 ⟨rfl, hx1⟩
            have C1 := Lib.hid (show Below w20.heap.size w20 x1 from bt C0.out hx1)
            clear hx1
            go_wp2_with fail
            refine hK.out _ _ (KC.out _ C1.out) (fun hHeld => ?_)
            clear hK K
            (try simp only [Act.put, List.setIfInBounds_toArray, List.set_cons_zero, List.set_cons_succ])
            refine wpAnyH_take (i := 10) (v := ?v1_10) rfl (by kernel_rfl) (by kernel_rfl) (by kernel_rfl) (fun _ _ _ h => h) (Or.inl ⟨by rfl, ?hy1_10⟩) hHeld ?_
            case hy1_10 => (intro w hSw; (try dsimp only at hSw); go_simp; first | done | with_reducible rfl)
            simp only [Act.put, List.setIfInBounds_toArray, List.set_cons_zero, List.set_cons_succ, List.getElem_toArray, List.getElem_cons_zero, List.getElem_cons_succ]
            refine wpAnyH_take (i := 11) (v := ?v1_11) rfl (by kernel_rfl) (by kernel_rfl) (by kernel_rfl) (fun _ _ _ h => h) (Or.inl ⟨by rfl, ?hy1_11⟩) hHeld ?_
            case hy1_11 => (intro w hSw; (try dsimp only at hSw); go_simp; first | done | with_reducible rfl)
            simp only [Act.put, List.setIfInBounds_toArray, List.set_cons_zero, List.set_cons_succ, List.getElem_toArray, List.getElem_cons_zero, List.getElem_cons_succ]
            refine wpAnyH_take (i := 12) (v := ?v1_12) rfl (by kernel_rfl) (by kernel_rfl) (by kernel_rfl) (fun _ _ _ h => h) (Or.inl ⟨by rfl, ?hy1_12⟩) hHeld ?_
            case hy1_12 => (intro w hSw; (try dsimp only at hSw); go_simp; first | done | with_reducible rfl)
            simp only [Act.put, List.setIfInBounds_toArray, List.set_cons_zero, List.set_cons_succ, List.getElem_toArray, List.getElem_cons_zero, List.getElem_cons_succ]
            refine wpAnyH_take (i := 13) (v := ?v1_13) rfl (by kernel_rfl) (by kernel_rfl) (by kernel_rfl) (fun _ _ _ h => h) (Or.inl ⟨by rfl, ?hy1_13⟩) hHeld ?_
            case hy1_13 => (intro w hSw; (try dsimp only at hSw); go_simp; first | done | with_reducible rfl)
            simp only [Act.put, List.setIfInBounds_toArray, List.set_cons_zero, List.set_cons_succ, List.getElem_toArray, List.getElem_cons_zero, List.getElem_cons_succ]
            refine wpAnyH_ready (rs := [14]) (by kernel_rfl) (by simp) ?_
            refine AllReadyH.cons rfl (fun K hK => ?_) AllReadyH.nil
            try simp only [List.getElem_toArray, List.getElem_cons_zero, List.getElem_cons_succ]
            go_simp
            refine (KD _ (D20.up_ C1.out)).mono ?_
            rintro e x2 ⟨rfl, hx2⟩
            have C2 := Lib.hid (show Below w20.heap.size w20 x2 from bt C1.out hx2)
            clear hx2
            go_wp2_with fail
            refine hK.out _ _ (KC.out _ C2.out) (fun hHeld => ?_)
            clear hK K
            (try simp only [Act.put, List.setIfInBounds_toArray, List.set_cons_zero, List.set_cons_succ])
            refine wpAnyH_take (i := 15) (v := ?v1_15) rfl (by kernel_rfl) (by kernel_rfl) (by kernel_rfl) (fun _ _ _ h => h) (Or.inl ⟨by rfl, ?hy1_15⟩) hHeld ?_
            case hy1_15 => (intro w hSw; (try dsimp only at hSw); go_simp; first | done | with_reducible rfl)
            simp only [Act.put, List.setIfInBounds_toArray, List.set_cons_zero, List.set_cons_succ, List.getElem_toArray, List.getElem_cons_zero, List.getElem_cons_succ]
            refine wpAnyH_take (i := 16) (v := ?v1_16) rfl (by kernel_rfl) (by kernel_rfl) (by kernel_rfl) (fun _ _ _ h => h) (Or.inl ⟨by rfl, ?hy1_16⟩) hHeld ?_
            case hy1_16 => (intro w hSw; (try dsimp only at hSw); go_simp; first | done | with_reducible rfl)
            simp only [Act.put, List.setIfInBounds_toArray, List.set_cons_zero, List.set_cons_succ, List.getElem_toArray, List.getElem_cons_zero, List.getElem_cons_succ]
            refine wpAnyH_take (i := 17) (v := undef) rfl (by kernel_rfl) (by kernel_rfl) (by kernel_rfl) (fun _ _ _ h => h) (Or.inr ⟨by rfl, rfl⟩) hHeld ?_
            simp only [Act.put, List.setIfInBounds_toArray, List.set_cons_zero, List.set_cons_succ, List.getElem_toArray, List.getElem_cons_zero, List.getElem_cons_succ]
            refine wpAnyH_take (i := 18) (v := undef) rfl (by kernel_rfl) (by kernel_rfl) (by kernel_rfl) (fun _ _ _ h => h) (Or.inr ⟨by rfl, rfl⟩) hHeld ?_
            simp only [Act.put, List.setIfInBounds_toArray, List.set_cons_zero, List.set_cons_succ, List.getElem_toArray, List.getElem_cons_zero, List.getElem_cons_succ]
            refine wpAnyH_take (i := 19) (v := undef) rfl (by kernel_rfl) (by kernel_rfl) (by kernel_rfl) (fun _ _ _ h => h) (Or.inr ⟨by rfl, rfl⟩) hHeld ?_
            simp only [Act.put, List.setIfInBounds_toArray, List.set_cons_zero, List.set_cons_succ, List.getElem_toArray, List.getElem_cons_zero, List.getElem_cons_succ]
            refine wpAnyH_take (i := 20) (v := ?v1_20) rfl (by kernel_rfl) (by kernel_rfl) (by kernel_rfl) (fun _ _ _ h => h) (Or.inl ⟨by rfl, ?hy1_20⟩) hHeld ?_
            case hy1_20 => (intro w hSw; (try dsimp only at hSw); go_simp; first | done | with_reducible rfl)
            simp only [Act.put, List.setIfInBounds_toArray, List.set_cons_zero, List.set_cons_succ, List.getElem_toArray, List.getElem_cons_zero, List.getElem_cons_succ]
            refine wpAnyH_take (i := 21) (v := ?v1_21) rfl (by kernel_rfl) (by kernel_rfl) (by kernel_rfl) (fun _ _ _ h => h) (Or.inl ⟨by rfl, ?hy1_21⟩) hHeld ?_
            case hy1_21 => (intro w hSw; (try dsimp only at hSw); go_simp; first | done | with_reducible rfl)
            simp only [Act.put, List.setIfInBounds_toArray, List.set_cons_zero, List.set_cons_succ, List.getElem_toArray, List.getElem_cons_zero, List.getElem_cons_succ]
            refine wpAnyH_take (i := 22) (v := undef) rfl (by kernel_rfl) (by kernel_rfl) (by kernel_rfl) (fun _ _ _ h => h) (Or.inr ⟨by rfl, rfl⟩) hHeld ?_
            simp only [Act.put, List.setIfInBounds_toArray, List.set_cons_zero, List.set_cons_succ, List.getElem_toArray, List.getElem_cons_zero, List.getElem_cons_succ]
            refine wpAnyH_take (i := 23) (v := undef) rfl (by kernel_rfl) (by kernel_rfl) (by kernel_rfl) (fun _ _ _ h => h) (Or.inr ⟨by rfl, rfl⟩) hHeld ?_
            simp only [Act.put, List.setIfInBounds_toArray, List.set_cons_zero, List.set_cons_succ, List.getElem_toArray, List.getElem_cons_zero, List.getElem_cons_succ]
            refine wpAnyH_take (i := 24) (v := undef) rfl (by kernel_rfl) (by kernel_rfl) (by kernel_rfl) (fun _ _ _ h => h) (Or.inr ⟨by rfl, rfl⟩) hHeld ?_
            simp only [Act.put, List.setIfInBounds_toArray, List.set_cons_zero, List.set_cons_succ, List.getElem_toArray, List.getElem_cons_zero, List.getElem_cons_succ]
            refine wpAnyH_take (i := 25) (v := ?v1_25) rfl (by kernel_rfl) (by kernel_rfl) (by kernel_rfl) (fun _ _ _ h => h) (Or.inl ⟨by rfl, ?hy1_25⟩) hHeld ?_
            case hy1_25 => (intro w hSw; (try dsimp only at hSw); go_simp; first | done | with_reducible rfl)
            simp only [Act.put, List.setIfInBounds_toArray, List.set_cons_zero, List.set_cons_succ, List.getElem_toArray, List.getElem_cons_zero, List.getElem_cons_succ]
            refine wpAnyH_take (i := 26) (v := ?v1_26) rfl (by kernel_rfl) (by kernel_rfl) (by kernel_rfl) (fun _ _ _ h => h) (Or.inl ⟨by rfl, ?hy1_26⟩) hHeld ?_
            case hy1_26 => (intro w hSw; (try dsimp only at hSw); go_simp; first | done | with_reducible rfl)
            simp only [Act.put, List.setIfInBounds_toArray, List.set_cons_zero, List.set_cons_succ, List.getElem_toArray, List.getElem_cons_zero, List.getElem_cons_succ]
            refine wpAnyH_take (i := 27) (v := ?v1_27) rfl (by kernel_rfl) (by kernel_rfl) (by kernel_rfl) (fun _ _ _ h => h) (Or.inl ⟨by rfl, ?hy1_27⟩) hHeld ?_
            case hy1_27 => (intro w hSw; (try dsimp only at hSw); go_simp; first | done | with_reducible rfl)
            simp only [Act.put, List.setIfInBounds_toArray, List.set_cons_zero, List.set_cons_succ, List.getElem_toArray, List.getElem_cons_zero, List.getElem_cons_succ]
            refine wpAnyH_ready (rs := [28]) (by kernel_rfl) (by simp) ?_
            refine AllReadyH.cons rfl (fun K hK => ?_) AllReadyH.nil
            try simp only [List.getElem_toArray, List.getElem_cons_zero, List.getElem_cons_succ]
            go_simp
            refine (alive_c _).mono ?_
            rintro e x4 ⟨rfl, hx4⟩
            have C4 := Lib.hid (show Below w20.heap.size w20 x4 from bt C2.out hx4)
            clear hx4
            go_wp2_with fail
            refine hK.out _ _ (KC.out _ C4.out) (fun hHeld => ?_)
            clear hK K
            (try simp only [Act.put, List.setIfInBounds_toArray, List.set_cons_zero, List.set_cons_succ])
            refine wpAnyH_take (i := 29) (v := ?v1_29) rfl (by kernel_rfl) (by kernel_rfl) (by kernel_rfl) (fun _ _ _ h => h) (Or.inl ⟨by rfl, ?hy1_29⟩) hHeld ?_
            case hy1_29 => (intro w hSw; (try dsimp only at hSw); go_simp; first | done | with_reducible rfl)
            simp only [Act.put, List.setIfInBounds_toArray, List.set_cons_zero, List.set_cons_succ, List.getElem_toArray, List.getElem_cons_zero, List.getElem_cons_succ]
            refine wpAnyH_take (i := 30) (v := ?v1_30) rfl (by kernel_rfl) (by kernel_rfl) (by kernel_rfl) (fun _ _ _ h => h) (Or.inl ⟨by rfl, ?hy1_30⟩) hHeld ?_
            case hy1_30 => (intro w hSw; (try dsimp only at hSw); go_simp; first | done | with_reducible rfl)
            simp only [Act.put, List.setIfInBounds_toArray, List.set_cons_zero, List.set_cons_succ, List.getElem_toArray, List.getElem_cons_zero, List.getElem_cons_succ]
            refine wpAnyH_done (by kernel_rfl) ?_ _
            go_wp2_with fail
            go_ret
            exact ⟨rfl, bt B20 C4.out⟩
          · have hN0i : ¬ (0 : Int) < (N : Int) := by omega
            obtain ⟨_, t0, t1, _, _⟩ := id T9
            go_wp2_with fail
            clear t0 t1
            refine (KI _ _ _ _ _ _ _ _ _ _ D9 E9).mono ?_
            rintro e w19 ⟨A7, n7, c7, P7, m7, d7, rfl, hO19, hb19⟩
            have hbA := below_new w19 (.cells #[.slice A7 n7 c7, .slice P7 m7 d7] 26)
            have V20 := Two.made w19 26 (.slice A7 n7 c7) (.slice P7 m7 d7)
            have T20 := (T9.up hb19).up hbA
            have D20 := (D9.up_ hb19).up_ hbA
            have E20 := (E9.up hb19).up hbA
            have B20 := bt (bt B9 hb19) hbA
            have hg20 := hg.up B20
            have U20 := (U9.up hb19).up hbA
            clear hb19 hbA
            go_upto_region 24 with fail
            generalize w19.alloc (.cells #[.slice A7 n7 c7, .slice P7 m7 d7] 26) = w20 at *
            obtain ⟨t1z, t10, t11, _, _⟩ := id T20
            obtain ⟨t5z, t50, t51, _, _⟩ := id U20
            obtain ⟨t7z, t70, t71, _, _⟩ := id V20
            have KC : Hid (∀ W, Below w20.heap.size w20 W → World.cell? W ⟨w6.heap.size, 0, none⟩ = some (.slice A1 n1 c1) ∧ World.cell? W ⟨w6.heap.size, 1, none⟩ = some (.slice P1 m1 d1) ∧ World.cell? W ⟨w6.heap.size + 1, 0, none⟩ = some (.slice A1 n1 c1) ∧ World.cell? W ⟨w6.heap.size + 1, 1, none⟩ = some (.slice P1 m1 d1) ∧ World.cell? W ⟨w19.heap.size, 0, none⟩ = some (.slice A7 n7 c7) ∧ World.cell? W ⟨w19.heap.size, 1, none⟩ = some (.slice P7 m7 d7)) := Lib.hid (fun W h => ⟨(h.cell (p := ⟨w6.heap.size, 0, none⟩) t1z).trans t10, (h.cell (p := ⟨w6.heap.size, 1, none⟩) t1z).trans t11, (h.cell (p := ⟨w6.heap.size + 1, 0, none⟩) t5z).trans t50, (h.cell (p := ⟨w6.heap.size + 1, 1, none⟩) t5z).trans t51, (h.cell (p := ⟨w19.heap.size, 0, none⟩) t7z).trans t70, (h.cell (p := ⟨w19.heap.size, 1, none⟩) t7z).trans t71⟩)
            have C0 : Hid (Below w20.heap.size w20 w20.drew) := Lib.hid (bd (Below.refl _ _) 1)
            refine wp_region_held_drew (S := fun W => World.cell? W ⟨w6.heap.size, 0, none⟩ = some (.slice A1 n1 c1) ∧ World.cell? W ⟨w6.heap.size, 1, none⟩ = some (.slice P1 m1 d1) ∧ World.cell? W ⟨w6.heap.size + 1, 0, none⟩ = some (.slice A1 n1 c1) ∧ World.cell? W ⟨w6.heap.size + 1, 1, none⟩ = some (.slice P1 m1 d1) ∧ World.cell? W ⟨w19.heap.size, 0, none⟩ = some (.slice A7 n7 c7) ∧ World.cell? W ⟨w19.heap.size, 1, none⟩ = some (.slice P7 m7 d7)) (by kernel_rfl) (KC.out _ C0.out) (fun hHeld => ?_)
            refine wpAnyH_take (i := 0) (v := ?v2_0) rfl (by kernel_rfl) (by kernel_rfl) (by kernel_rfl) (fun _ _ _ h => h) (Or.inl ⟨by rfl, ?hy2_0⟩) hHeld ?_
            case hy2_0 => (intro w hSw; (try dsimp only at hSw); go_simp; first | done | with_reducible rfl)
            simp only [Act.put, List.setIfInBounds_toArray, List.set_cons_zero, List.set_cons_succ, List.getElem_toArray, List.getElem_cons_zero]
            refine wpAnyH_take (i := 1) (v := ?v2_1) rfl (by kernel_rfl) (by kernel_rfl) (by kernel_rfl) (fun _ _ _ h => h) (Or.inl ⟨by rfl, ?hy2_1⟩) hHeld ?_
            case hy2_1 => (intro w hSw; (try dsimp only at hSw); go_simp; first | done | with_reducible rfl)
            simp only [Act.put, List.setIfInBounds_toArray, List.set_cons_zero, List.set_cons_succ, List.getElem_toArray, List.getElem_cons_zero, List.getElem_cons_succ]
            refine wpAnyH_take (i := 2) (v := ?v2_2) rfl (by kernel_rfl) (by kernel_rfl) (by kernel_rfl) (fun _ _ _ h => h) (Or.inl ⟨by rfl, ?hy2_2⟩) hHeld ?_
            case hy2_2 => (intro w hSw; (try dsimp only at hSw); go_simp; first | done | with_reducible rfl)
            simp only [Act.put, List.setIfInBounds_toArray, List.set_cons_zero, List.set_cons_succ, List.getElem_toArray, List.getElem_cons_zero, List.getElem_cons_succ]
            refine wpAnyH_take (i := 3) (v := ?v2_3) rfl (by kernel_rfl) (by kernel_rfl) (by kernel_rfl) (fun _ _ _ h => h) (Or.inl ⟨by rfl, ?hy2_3⟩) hHeld ?_
            case hy2_3 => (intro w hSw; (try dsimp only at hSw); go_simp; first | done | with_reducible rfl)
            simp only [Act.put, List.setIfInBounds_toArray, List.set_cons_zero, List.set_cons_succ, List.getElem_toArray, List.getElem_cons_zero, List.getElem_cons_succ]
            refine wpAnyH_take (i := 4) (v := ?v2_4) rfl (by kernel_rfl) (by kernel_rfl) (by kernel_rfl) (fun _ _ _ h => h) (Or.inl ⟨by rfl, ?hy2_4⟩) hHeld ?_
            case hy2_4 => (intro w hSw; (try dsimp only at hSw); go_simp; first | done | with_reducible rfl)
            simp only [Act.put, List.setIfInBounds_toArray, List.set_cons_zero, List.set_cons_succ, List.getElem_toArray, List.getElem_cons_zero, List.getElem_cons_succ]
            refine wpAnyH_take (i := 5) (v := ?v2_5) rfl (by kernel_rfl) (by kernel_rfl) (by kernel_rfl) (fun _ _ _ h => h) (Or.inl ⟨by rfl, ?hy2_5⟩) hHeld ?_
            case hy2_5 => (intro w hSw; (try dsimp only at hSw); go_simp; first | done | with_reducible rfl)
            simp only [Act.put, List.setIfInBounds_toArray, List.set_cons_zero, List.set_cons_succ, List.getElem_toArray, List.getElem_cons_zero, List.getElem_cons_succ]
            refine wpAnyH_take (i := 7) (v := ?v2_7) rfl (by kernel_rfl) (by kernel_rfl) (by kernel_rfl) (fun _ _ _ h => h) (Or.inl ⟨by rfl, ?hy2_7⟩) hHeld ?_
            case hy2_7 => (intro w hSw; (try dsimp only at hSw); go_simp; first | done | with_reducible rfl)
            simp only [Act.put, List.setIfInBounds_toArray, List.set_cons_zero, List.set_cons_succ, List.getElem_toArray, List.getElem_cons_zero, List.getElem_cons_succ]
            refine wpAnyH_take (i := 8) (v := ?v2_8) rfl (by kernel_rfl) (by kernel_rfl) (by kernel_rfl) (fun _ _ _ h => h) (Or.inl ⟨by rfl, ?hy2_8⟩) hHeld ?_
            case hy2_8 => (intro w hSw; (try dsimp only at hSw); go_simp; first | done | with_reducible rfl)
            simp only [Act.put, List.setIfInBounds_toArray, List.set_cons_zero, List.set_cons_succ, List.getElem_toArray, List.getElem_cons_zero, List.getElem_cons_succ]
            refine wpAnyH_take (i := 9) (v := ?v2_9) rfl (by kernel_rfl) (by kernel_rfl) (by kernel_rfl) (fun _ _ _ h => h) (Or.inl ⟨by rfl, ?hy2_9⟩) hHeld ?_
            case hy2_9 => (intro w hSw; (try dsimp only at hSw); go_simp; first | done | with_reducible rfl)
            simp only [Act.put, List.setIfInBounds_toArray, List.set_cons_zero, List.set_cons_succ, List.getElem_toArray, List.getElem_cons_zero, List.getElem_cons_succ]
            refine wpAnyH_ready (rs := [6]) (by kernel_rfl) (by simp) ?_
            refine AllReadyH.cons rfl (fun K hK => ?_) AllReadyH.nil
            try simp only [List.getElem_toArray, List.getElem_cons_zero, List.getElem_cons_succ]
            go_simp
            refine (journalText_c A2 N c2 ds _ (E20.up C0.out) (by omega) (fun k hk => hsh9.out k (by omega)) (hg20.up C0.out).tab (hg20.up C0.out).six).mono ?_
            rw [hjt]
            rintro e x1 ⟨rfl, hx1⟩
            have C1 := Lib.hid (show Below w20.heap.size w20 x1 from bt C0.out hx1)
            clear hx1
            go_wp2_with fail
            refine hK.out _ _ (KC.out _ C1.out) (fun hHeld => ?_)
            clear hK K
            (try simp only [Act.put, List.setIfInBounds_toArray, List.set_cons_zero, List.set_cons_succ])
            refine wpAnyH_take (i := 10) (v := ?v2_10) rfl (by kernel_rfl) (by kernel_rfl) (by kernel_rfl) (fun _ _ _ h => h) (Or.inl ⟨by rfl, ?hy2_10⟩) hHeld ?_
            case hy2_10 => (intro w hSw; (try dsimp only at hSw); go_simp; first | done | with_reducible rfl)
            simp only [Act.put, List.setIfInBounds_toArray, List.set_cons_zero, List.set_cons_succ, List.getElem_toArray, List.getElem_cons_zero, List.getElem_cons_succ]
            refine wpAnyH_take (i := 11) (v := ?v2_11) rfl (by kernel_rfl) (by kernel_rfl) (by kernel_rfl) (fun _ _ _ h => h) (Or.inl ⟨by rfl, ?hy2_11⟩) hHeld ?_
            case hy2_11 => (intro w hSw; (try dsimp only at hSw); go_simp; first | done | with_reducible rfl)
            simp only [Act.put, List.setIfInBounds_toArray, List.set_cons_zero, List.set_cons_succ, List.getElem_toArray, List.getElem_cons_zero, List.getElem_cons_succ]
            refine wpAnyH_take (i := 12) (v := ?v2_12) rfl (by kernel_rfl) (by kernel_rfl) (by kernel_rfl) (fun _ _ _ h => h) (Or.inl ⟨by rfl, ?hy2_12⟩) hHeld ?_
            case hy2_12 => (intro w hSw; (try dsimp only at hSw); go_simp; first | done | with_reducible rfl)
            simp only [Act.put, List.setIfInBounds_toArray, List.set_cons_zero, List.set_cons_succ, List.getElem_toArray, List.getElem_cons_zero, List.getElem_cons_succ]
            refine wpAnyH_take (i := 13) (v := ?v2_13) rfl (by kernel_rfl) (by kernel_rfl) (by kernel_rfl) (fun _ _ _ h => h) (Or.inl ⟨by rfl, ?hy2_13⟩) hHeld ?_
            case hy2_13 => (intro w hSw; (try dsimp only at hSw); go_simp; first | done | with_reducible rfl)
            simp only [Act.put, List.setIfInBounds_toArray, List.set_cons_zero, List.set_cons_succ, List.getElem_toArray, List.getElem_cons_zero, List.getElem_cons_succ]
            refine wpAnyH_ready (rs := [14]) (by kernel_rfl) (by simp) ?_
            refine AllReadyH.cons rfl (fun K hK => ?_) AllReadyH.nil
            try simp only [List.getElem_toArray, List.getElem_cons_zero, List.getElem_cons_succ]
            go_simp
            refine (KD _ (D20.up_ C1.out)).mono ?_
            rintro e x2 ⟨rfl, hx2⟩
            have C2 := Lib.hid (show Below w20.heap.size w20 x2 from bt C1.out hx2)
            clear hx2
            go_wp2_with fail
            refine hK.out _ _ (KC.out _ C2.out) (fun hHeld => ?_)
            clear hK K
            (try simp only [Act.put, List.setIfInBounds_toArray, List.set_cons_zero, List.set_cons_succ])
            refine wpAnyH_take (i := 15) (v := ?v2_15) rfl (by kernel_rfl) (by kernel_rfl) (by kernel_rfl) (fun _ _ _ h => h) (Or.inl ⟨by rfl, ?hy2_15⟩) hHeld ?_
            case hy2_15 => (intro w hSw; (try dsimp only at hSw); go_simp; first | done | with_reducible rfl)
            simp only [Act.put, List.setIfInBounds_toArray, List.set_cons_zero, List.set_cons_succ, List.getElem_toArray, List.getElem_cons_zero, List.getElem_cons_succ]
            refine wpAnyH_take (i := 16) (v := ?v2_16) rfl (by kernel_rfl) (by kernel_rfl) (by kernel_rfl) (fun _ _ _ h => h) (Or.inl ⟨by rfl, ?hy2_16⟩) hHeld ?_
            case hy2_16 => (intro w hSw; (try dsimp only at hSw); go_simp; first | done | with_reducible rfl)
            simp only [Act.put, List.setIfInBounds_toArray, List.set_cons_zero, List.set_cons_succ, List.getElem_toArray, List.getElem_cons_zero, List.getElem_cons_succ]
            refine wpAnyH_take (i := 17) (v := undef) rfl (by kernel_rfl) (by kernel_rfl) (by kernel_rfl) (fun _ _ _ h => h) (Or.inr ⟨by rfl, rfl⟩) hHeld ?_
            simp only [Act.put, List.setIfInBounds_toArray, List.set_cons_zero, List.set_cons_succ, List.getElem_toArray, List.getElem_cons_zero, List.getElem_cons_succ]
            refine wpAnyH_take (i := 18) (v := undef) rfl (by kernel_rfl) (by kernel_rfl) (by kernel_rfl) (fun _ _ _ h => h) (Or.inr ⟨by rfl, rfl⟩) hHeld ?_
            simp only [Act.put, List.setIfInBounds_toArray, List.set_cons_zero, List.set_cons_succ, List.getElem_toArray, List.getElem_cons_zero, List.getElem_cons_succ]
            refine wpAnyH_take (i := 19) (v := undef) rfl (by kernel_rfl) (by kernel_rfl) (by kernel_rfl) (fun _ _ _ h => h) (Or.inr ⟨by rfl, rfl⟩) hHeld ?_
            simp only [Act.put, List.setIfInBounds_toArray, List.set_cons_zero, List.set_cons_succ, List.getElem_toArray, List.getElem_cons_zero, List.getElem_cons_succ]
            refine wpAnyH_take (i := 20) (v := ?v2_20) rfl (by kernel_rfl) (by kernel_rfl) (by kernel_rfl) (fun _ _ _ h => h) (Or.inl ⟨by rfl, ?hy2_20⟩) hHeld ?_
            case hy2_20 => (intro w hSw; (try dsimp only at hSw); go_simp; first | done | with_reducible rfl)
            simp only [Act.put, List.setIfInBounds_toArray, List.set_cons_zero, List.set_cons_succ, List.getElem_toArray, List.getElem_cons_zero, List.getElem_cons_succ]
            refine wpAnyH_take (i := 21) (v := ?v2_21) rfl (by kernel_rfl) (by kernel_rfl) (by kernel_rfl) (fun _ _ _ h => h) (Or.inl ⟨by rfl, ?hy2_21⟩) hHeld ?_
            case hy2_21 => (intro w hSw; (try dsimp only at hSw); go_simp; first | done | with_reducible rfl)
            simp only [Act.put, List.setIfInBounds_toArray, List.set_cons_zero, List.set_cons_succ, List.getElem_toArray, List.getElem_cons_zero, List.getElem_cons_succ]
            refine wpAnyH_take (i := 22) (v := undef) rfl (by kernel_rfl) (by kernel_rfl) (by kernel_rfl) (fun _ _ _ h => h) (Or.inr ⟨by rfl, rfl⟩) hHeld ?_
            simp only [Act.put, List.setIfInBounds_toArray, List.set_cons_zero, List.set_cons_succ, List.getElem_toArray, List.getElem_cons_zero, List.getElem_cons_succ]
            refine wpAnyH_take (i := 23) (v := undef) rfl (by kernel_rfl) (by kernel_rfl) (by kernel_rfl) (fun _ _ _ h => h) (Or.inr ⟨by rfl, rfl⟩) hHeld ?_
            simp only [Act.put, List.setIfInBounds_toArray, List.set_cons_zero, List.set_cons_succ, List.getElem_toArray, List.getElem_cons_zero, List.getElem_cons_succ]
            refine wpAnyH_take (i := 24) (v := undef) rfl (by kernel_rfl) (by kernel_rfl) (by kernel_rfl) (fun _ _ _ h => h) (Or.inr ⟨by rfl, rfl⟩) hHeld ?_
            simp only [Act.put, List.setIfInBounds_toArray, List.set_cons_zero, List.set_cons_succ, List.getElem_toArray, List.getElem_cons_zero, List.getElem_cons_succ]
            refine wpAnyH_take (i := 25) (v := ?v2_25) rfl (by kernel_rfl) (by kernel_rfl) (by kernel_rfl) (fun _ _ _ h => h) (Or.inl ⟨by rfl, ?hy2_25⟩) hHeld ?_
            case hy2_25 => (intro w hSw; (try dsimp only at hSw); go_simp; first | done | with_reducible rfl)
            simp only [Act.put, List.setIfInBounds_toArray, List.set_cons_zero, List.set_cons_succ, List.getElem_toArray, List.getElem_cons_zero, List.getElem_cons_succ]
            refine wpAnyH_take (i := 26) (v := ?v2_26) rfl (by kernel_rfl) (by kernel_rfl) (by kernel_rfl) (fun _ _ _ h => h) (Or.inl ⟨by rfl, ?hy2_26⟩) hHeld ?_
            case hy2_26 => (intro w hSw; (try dsimp only at hSw); go_simp; first | done | with_reducible rfl)
            simp only [Act.put, List.setIfInBounds_toArray, List.set_cons_zero, List.set_cons_succ, List.getElem_toArray, List.getElem_cons_zero, List.getElem_cons_succ]
            refine wpAnyH_take (i := 27) (v := ?v2_27) rfl (by kernel_rfl) (by kernel_rfl) (by kernel_rfl) (fun _ _ _ h => h) (Or.inl ⟨by rfl, ?hy2_27⟩) hHeld ?_
            case hy2_27 => (intro w hSw; (try dsimp only at hSw); go_simp; first | done | with_reducible rfl)
            simp only [Act.put, List.setIfInBounds_toArray, List.set_cons_zero, List.set_cons_succ, List.getElem_toArray, List.getElem_cons_zero, List.getElem_cons_succ]
            refine wpAnyH_ready (rs := [28]) (by kernel_rfl) (by simp) ?_
            refine AllReadyH.cons rfl (fun K hK => ?_) AllReadyH.nil
            try simp only [List.getElem_toArray, List.getElem_cons_zero, List.getElem_cons_succ]
            go_simp
            refine (alive_c _).mono ?_
            rintro e x4 ⟨rfl, hx4⟩
            have C4 := Lib.hid (show Below w20.heap.size w20 x4 from bt C2.out hx4)
            clear hx4
            go_wp2_with fail
            refine hK.out _ _ (KC.out _ C4.out) (fun hHeld => ?_)
            clear hK K
            (try simp only [Act.put, List.setIfInBounds_toArray, List.set_cons_zero, List.set_cons_succ])
            refine wpAnyH_take (i := 29) (v := ?v2_29) rfl (by kernel_rfl) (by kernel_rfl) (by kernel_rfl) (fun _ _ _ h => h) (Or.inl ⟨by rfl, ?hy2_29⟩) hHeld ?_
            case hy2_29 => (intro w hSw; (try dsimp only at hSw); go_simp; first | done | with_reducible rfl)
            simp only [Act.put, List.setIfInBounds_toArray, List.set_cons_zero, List.set_cons_succ, List.getElem_toArray, List.getElem_cons_zero, List.getElem_cons_succ]
            refine wpAnyH_take (i := 30) (v := ?v2_30) rfl (by kernel_rfl) (by kernel_rfl) (by kernel_rfl) (fun _ _ _ h => h) (Or.inl ⟨by rfl, ?hy2_30⟩) hHeld ?_
            case hy2_30 => (intro w hSw; (try dsimp only at hSw); go_simp; first | done | with_reducible rfl)
            simp only [Act.put, List.setIfInBounds_toArray, List.set_cons_zero, List.set_cons_succ, List.getElem_toArray, List.getElem_cons_zero, List.getElem_cons_succ]
            refine wpAnyH_done (by kernel_rfl) ?_ _
            go_wp2_with fail
            go_ret
            exact ⟨rfl, bt B20 C4.out⟩
      · rw [hok] at KD
        have HR : Hid (∀ k, k < ds.length → runL xs yss (ds.take (k + 1)) = stepX (runL xs yss (ds.take k)) (dG ds k)) := Lib.hid (fun k hk => runL_succ xs yss ds hk)
        have HST : Hid (∀ k, deskOkB (runL xs yss (ds.take k)).1 (runL xs yss (ds.take k)).2.1 = true) := Lib.hid (fun k => runL_ok _ hok)
        have HV := Lib.hid hval
        clear hval
        go_loopw [16] (fun i wr => ∃ k : Nat, k ≤ N ∧ i = .int .i64 (k : Int) ∧ NowSt wr (w6.heap.size + 1) (runL xs yss (ds.take k)) ∧ Below w7.heap.size w7 wr) (fun i _ => N - (intOf i).toNat)
        case atStart => exact ⟨0, Nat.zero_le _, rfl, hst0, hbA⟩
        case round =>
          clear hst0 hbA
          obtain ⟨k, hk9, rfl, hst, hbw⟩ := hrel
          obtain ⟨A5, n5, c5, P5, m5, d5, U9, R9⟩ := hst
          have T9 := T7.up hbw
          have D9 := D7.up_ hbw
          have E9 := E7.up hbw
          have B9 := bt B7 hbw
          clear T7 D7 E7 B7
          by_cases hlt9 : k < N
          · have hk1i : (k : Int) < (N : Int) := by omega
            have hk0i : (0 : Int) ≤ (k : Int) := Int.natCast_nonneg _
            obtain ⟨_, t0, t1, _, _⟩ := id T9
            have HRk := Lib.hid (HR.out k (by omega))
            have hokk := HST.out k
            have hnek := HNE.out k hlt9
            have hsk : (dS ds k).size ≤ 1000000000000 := hsh k (by omega)
            generalize hrun : runL xs yss (ds.take k) = T at *
            clear hrun
            obtain ⟨x1, y1, z9⟩ := T
            simp only at R9 hokk
            have hstep := stepX_two (t := (x1, y1, z9)) (d := dG ds k) hokk
            simp only at hstep
            have KL := fun W h g => deskLine_deed A5 P5 n5 c5 m5 d5 x1 y1 (bl (dtD (frDd (dG ds k)))) (dK ds k) (dA ds k) (dB ds k) (dS ds k).data.toList W h hokk g (by rw [bl_size]; have := dtD_len (frDd (dG ds k)); omega) (by rw [bl_list]; exact rdV_of hnek)
            rw [bl_of, ← dtX_at] at KL
            rw [← HRk.out] at hstep
            change (runL xs yss (ds.take (k + 1))).1 = (doX x1 y1 (dK ds k) (dA ds k) (dB ds k) (dS ds k)).1 ∧ (runL xs yss (ds.take (k + 1))).2.1 = (doX x1 y1 (dK ds k) (dA ds k) (dB ds k) (dS ds k)).2.1 at hstep
            generalize doX x1 y1 (dK ds k) (dA ds k) (dB ds k) (dS ds k) = R at *
            obtain ⟨q1, q2, q3⟩ := R
            simp only at KL hstep
            have HS := Lib.hid hstep
            clear hstep hnek hokk HNE HRk HR HST
            go_wp2_with fail
            refine (KD _ D9).mono ?_
            rintro e w10 ⟨rfl, hb10⟩
            have U10 := U9.up hb10
            have R10 := R9.up_ hb10
            have E10 := E9.up hb10
            have B10 := bt B9 hb10
            have hbw10 := bt hbw hb10
            have hg10 := hg.up B10
            clear T9 D9 E9 B9 hb10 t0 t1 U9 R9 hbw
            obtain ⟨b, off, rfl, hbE, e0, e1, e2, e3⟩ := E10.at_ hlt9
            obtain ⟨hUz, u0, u1, u2, u3⟩ := id U10
            have KB : Hid (∀ W, Below w10.heap.size w10 W → World.cell? W ⟨w6.heap.size + 1, 0, none⟩ = some (.slice A5 n5 c5) ∧ World.cell? W ⟨w6.heap.size + 1, 1, none⟩ = some (.slice P5 m5 d5) ∧ World.cell? W ⟨b, off + k * 4, none⟩ = some (.int .i64 (dK ds k)) ∧ World.cell? W ⟨b, off + k * 4 + 1, none⟩ = some (.int .i64 (dA ds k)) ∧ World.cell? W ⟨b, off + k * 4 + 2, none⟩ = some (.int .i64 (dB ds k)) ∧ World.cell? W ⟨b, off + k * 4 + 3, none⟩ = some (.string (dS ds k))) := Lib.hid (fun W h => ⟨(h.cell (p := ⟨w6.heap.size + 1, 0, none⟩) hUz).trans u0, (h.cell (p := ⟨w6.heap.size + 1, 1, none⟩) hUz).trans u1, (h.cell (p := ⟨b, off + k * 4, none⟩) hbE).trans e0, (h.cell (p := ⟨b, off + k * 4 + 1, none⟩) hbE).trans e1, (h.cell (p := ⟨b, off + k * 4 + 2, none⟩) hbE).trans e2, (h.cell (p := ⟨b, off + k * 4 + 3, none⟩) hbE).trans e3⟩)
            have B0 : Hid (Below w10.heap.size w10 w10.drew) := Lib.hid (bd (Below.refl _ _) 1)
            clear u0 u1 u2 u3 e0 e1 e2 e3
            go_upto_region 19 with fail
            go_cut [17, 18] from 91 to 117 (fun s17 s18 wx => CutL w10 wx s17 s18 q1 q2 (okT q3))
            case first =>
              first | (go_region_held3 (fun W => World.cell? W ⟨w6.heap.size + 1, 0, none⟩ = some (.slice A5 n5 c5) ∧ World.cell? W ⟨w6.heap.size + 1, 1, none⟩ = some (.slice P5 m5 d5) ∧ World.cell? W ⟨b, off + k * 4, none⟩ = some (.int .i64 (dK ds k)) ∧ World.cell? W ⟨b, off + k * 4 + 1, none⟩ = some (.int .i64 (dA ds k)) ∧ World.cell? W ⟨b, off + k * 4 + 2, none⟩ = some (.int .i64 (dB ds k)) ∧ World.cell? W ⟨b, off + k * 4 + 3, none⟩ = some (.string (dS ds k)))
            (exact KB.out _ (by repeat (first | with_reducible exact B6.out | with_reducible exact B5.out | with_reducible exact B0.out | with_reducible exact Below.refl _ _ | with_reducible refine Below.drew ?_ | with_reducible refine bt ?_ (below_new _ _) | with_reducible refine Below.setCell ?_ (by first | with_reducible exact Nat.le_refl _ | with_reducible exact BS5.out | with_reducible exact BS6.out) _)))
            (first
              | (go_at_call 35; refine (deedText_c _ _ _ _ _ hsk (hg10.up (by repeat (first | with_reducible exact B6.out | with_reducible exact B5.out | with_reducible exact B0.out | with_reducible exact Below.refl _ _ | with_reducible refine Below.drew ?_ | with_reducible refine bt ?_ (below_new _ _) | with_reducible refine Below.setCell ?_ (by first | with_reducible exact Nat.le_refl _ | with_reducible exact BS5.out | with_reducible exact BS6.out) _))).tab (hg10.up (by repeat (first | with_reducible exact B6.out | with_reducible exact B5.out | with_reducible exact B0.out | with_reducible exact Below.refl _ _ | with_reducible refine Below.drew ?_ | with_reducible refine bt ?_ (below_new _ _) | with_reducible refine Below.setCell ?_ (by first | with_reducible exact Nat.le_refl _ | with_reducible exact BS5.out | with_reducible exact BS6.out) _))).six).mono ?_; rintro e w15 ⟨rfl, hb15⟩; have B5 := Lib.hid (show Below w10.heap.size w10 w15 from bt (by repeat (first | with_reducible exact B6.out | with_reducible exact B5.out | with_reducible exact B0.out | with_reducible exact Below.refl _ _ | with_reducible refine Below.drew ?_ | with_reducible refine bt ?_ (below_new _ _) | with_reducible refine Below.setCell ?_ (by first | with_reducible exact Nat.le_refl _ | with_reducible exact BS5.out | with_reducible exact BS6.out) _)) hb15); have BS5 := Lib.hid B5.out.size; (try (have T15 : Two w15 w10.heap.size (.slice none 0 0) (.slice none 0 0) := ((Two.made w10 _ _ _).up (Below.refl _ _).drew).up hb15; have hT15 := T15.1)); clear hb15)
              | (go_at_call 9; refine (KL _ (R10.up_ (by repeat (first | with_reducible exact B6.out | with_reducible exact B5.out | with_reducible exact B0.out | with_reducible exact Below.refl _ _ | with_reducible refine Below.drew ?_ | with_reducible refine bt ?_ (below_new _ _) | with_reducible refine Below.setCell ?_ (by first | with_reducible exact Nat.le_refl _ | with_reducible exact BS5.out | with_reducible exact BS6.out) _))) (hg10.up (by repeat (first | with_reducible exact B6.out | with_reducible exact B5.out | with_reducible exact B0.out | with_reducible exact Below.refl _ _ | with_reducible refine Below.drew ?_ | with_reducible refine bt ?_ (below_new _ _) | with_reducible refine Below.setCell ?_ (by first | with_reducible exact Nat.le_refl _ | with_reducible exact BS5.out | with_reducible exact BS6.out) _)))).mono ?_; rintro e w16 ⟨A6, n6, c6, P6, m6, d6, rfl, hO6, hb16⟩; have B6 := Lib.hid (show Below w10.heap.size w10 w16 from bt (by repeat (first | with_reducible exact B6.out | with_reducible exact B5.out | with_reducible exact B0.out | with_reducible exact Below.refl _ _ | with_reducible refine Below.drew ?_ | with_reducible refine bt ?_ (below_new _ _) | with_reducible refine Below.setCell ?_ (by first | with_reducible exact Nat.le_refl _ | with_reducible exact BS5.out | with_reducible exact BS6.out) _)) hb16); have BS6 := Lib.hid B6.out.size; (first | have T16 : Two w16 w10.heap.size (.slice none 0 0) (.slice none 0 0) := T15.up hb16 | have T16 : Two w16 w15.heap.size (.slice none 0 0) (.slice none 0 0) := (Two.made w15 _ _ _).up hb16 | skip); (try obtain ⟨_, z0, z1, z2, z3⟩ := id T16); have hlo6 := BS5.out; have hz6 := hb16.size; (try simp only [World.size_alloc] at hz6 hO6); clear hb16))) | fail
              all_goals
                go_wp2_with fail
                go_meet
                first
                  | exact cutL_last B6.out hO6 (by omega) (Nat.le_refl _)
                  | exact cutL_early B6.out hO6 (by omega) (Nat.le_refl _) T16 (by first | exact Nat.le_refl _ | exact BS5.out) (by omega)
            case rest =>
              obtain ⟨g8, A6, n6, c6, P6, m6, d6, lo, hi, rfl, rfl, V8, hb8, hO8, hlo, hhi⟩ := hcut
              have U8 := U10.up hb8
              have hbw8 := bt hbw10 hb8
              have hUs := U10.1
              have hch : Chg (w6.heap.size + 1) (w6.heap.size + 2) wc ((wc.setCell ⟨w6.heap.size + 1, 0, none⟩ (.slice A6 n6 c6)).setCell ⟨w6.heap.size + 1, 1, none⟩ (.slice P6 m6 d6)) :=
                ((Chg.refl _ _ _).setCell (p := ⟨w6.heap.size + 1, 0, none⟩) (Nat.le_refl _) (Nat.lt_succ_self _) _).setCell (p := ⟨w6.heap.size + 1, 1, none⟩) (Nat.le_refl _) (Nat.lt_succ_self _) _
              have HN : Hid (NowSt ((wc.setCell ⟨w6.heap.size + 1, 0, none⟩ (.slice A6 n6 c6)).setCell ⟨w6.heap.size + 1, 1, none⟩ (.slice P6 m6 d6)) (w6.heap.size + 1) (runL xs yss (ds.take (k + 1)))) := Lib.hid ⟨A6, n6, c6, P6, m6, d6, (U8.set0 _).set1 _, by rw [HS.out.1, HS.out.2]; exact ((hO8.chg hch (.inr (by omega))).wide (Nat.le_refl _) (by have := hch.size; omega)).rd⟩
              have HB : Hid (Below w7.heap.size w7 ((wc.setCell ⟨w6.heap.size + 1, 0, none⟩ (.slice A6 n6 c6)).setCell ⟨w6.heap.size + 1, 1, none⟩ (.slice P6 m6 d6))) := Lib.hid ((hbw8.setCell (p := ⟨w6.heap.size + 1, 0, none⟩) (by show w7.heap.size ≤ w6.heap.size + 1; omega) _).setCell (p := ⟨w6.heap.size + 1, 1, none⟩) (by show w7.heap.size ≤ w6.heap.size + 1; omega) _)
              obtain ⟨_, v0, v1, _, _⟩ := id V8
              obtain ⟨_, u0, u1, u2, u3⟩ := id U8
              clear hch hb8 hO8 V8 U8 hbw8 U10 R10 E10 B10 hbw10 KL KB KI KD
              rcases q3 with _ | _
              · rw [show okT false = (⟨#[110, 111, 116]⟩ : ByteArray) from rfl]
                go_wp2_with fail
                go_roundw
                case rel => exact ⟨k + 1, by omega, by go_num, HN.out, HB.out⟩
                case measure => simp [intOf]; omega
              · rw [show okT true = (⟨#[111, 107]⟩ : ByteArray) from rfl]
                go_wp2_with fail
                go_roundw
                case rel => exact ⟨k + 1, by omega, by go_num, HN.out, HB.out⟩
                case measure => simp [intOf]; omega
          · have hk1i : ¬ (k : Int) < (N : Int) := by omega
            have hkN : ds.take k = ds := List.take_of_length_le (by omega)
            rw [hkN] at R9
            clear HNE HR HST hkN
            by_cases h40 : 40 < N
            · have h40i : (40 : Int) < (N : Int) := by omega
              obtain ⟨_, t0, t1, _, _⟩ := id T9
              go_wp2_with fail
              clear t0 t1
              refine (KI _ _ _ _ _ _ _ _ _ _ D9 E9).mono ?_
              rintro e w19 ⟨A7, n7, c7, P7, m7, d7, rfl, hO19, hb19⟩
              have hbA := below_new w19 (.cells #[.slice A7 n7 c7, .slice P7 m7 d7] 26)
              have V20 := Two.made w19 26 (.slice A7 n7 c7) (.slice P7 m7 d7)
              have T20 := (T9.up hb19).up hbA
              have D20 := (D9.up_ hb19).up_ hbA
              have E20 := (E9.up hb19).up hbA
              have B20 := bt (bt B9 hb19) hbA
              have hg20 := hg.up B20
              have R20 := (R9.up_ hb19).up_ hbA
              have U20 := (U9.up hb19).up hbA
              have O20 := hO19.rd.up_ hbA
              clear hb19 hbA
              go_upto_region 24 with fail
              generalize w19.alloc (.cells #[.slice A7 n7 c7, .slice P7 m7 d7] 26) = w20 at *
              obtain ⟨t1z, t10, t11, _, _⟩ := id T20
              obtain ⟨t5z, t50, t51, _, _⟩ := id U20
              obtain ⟨t7z, t70, t71, _, _⟩ := id V20
              have KE := fun W (h1 : RdD W W.heap.size A5 n5 c5 r1 P5 m5 d5 r2) (h2 : RdD W W.heap.size A7 n7 c7 r1 P7 m7 d7 r2) => sameDesk_c A5 P5 A7 P7 n5 c5 m5 d5 n7 c7 m7 d7 r1 r1 r2 r2 W h1 h2
              rw [show (eqB r1 r1 && eqBB r2 r2) = true from by rw [eqB_self, eqBB_self]; rfl] at KE
              have KC : Hid (∀ W, Below w20.heap.size w20 W → World.cell? W ⟨w6.heap.size, 0, none⟩ = some (.slice A1 n1 c1) ∧ World.cell? W ⟨w6.heap.size, 1, none⟩ = some (.slice P1 m1 d1) ∧ World.cell? W ⟨w6.heap.size + 1, 0, none⟩ = some (.slice A5 n5 c5) ∧ World.cell? W ⟨w6.heap.size + 1, 1, none⟩ = some (.slice P5 m5 d5) ∧ World.cell? W ⟨w19.heap.size, 0, none⟩ = some (.slice A7 n7 c7) ∧ World.cell? W ⟨w19.heap.size, 1, none⟩ = some (.slice P7 m7 d7)) := Lib.hid (fun W h => ⟨(h.cell (p := ⟨w6.heap.size, 0, none⟩) t1z).trans t10, (h.cell (p := ⟨w6.heap.size, 1, none⟩) t1z).trans t11, (h.cell (p := ⟨w6.heap.size + 1, 0, none⟩) t5z).trans t50, (h.cell (p := ⟨w6.heap.size + 1, 1, none⟩) t5z).trans t51, (h.cell (p := ⟨w19.heap.size, 0, none⟩) t7z).trans t70, (h.cell (p := ⟨w19.heap.size, 1, none⟩) t7z).trans t71⟩)
              have C0 : Hid (Below w20.heap.size w20 w20.drew) := Lib.hid (bd (Below.refl _ _) 1)
              refine wp_region_held_drew (S := fun W => World.cell? W ⟨w6.heap.size, 0, none⟩ = some (.slice A1 n1 c1) ∧ World.cell? W ⟨w6.heap.size, 1, none⟩ = some (.slice P1 m1 d1) ∧ World.cell? W ⟨w6.heap.size + 1, 0, none⟩ = some (.slice A5 n5 c5) ∧ World.cell? W ⟨w6.heap.size + 1, 1, none⟩ = some (.slice P5 m5 d5) ∧ World.cell? W ⟨w19.heap.size, 0, none⟩ = some (.slice A7 n7 c7) ∧ World.cell? W ⟨w19.heap.size, 1, none⟩ = some (.slice P7 m7 d7)) (by kernel_rfl) (KC.out _ C0.out) (fun hHeld => ?_)
              refine wpAnyH_take (i := 0) (v := ?v3_0) rfl (by kernel_rfl) (by kernel_rfl) (by kernel_rfl) (fun _ _ _ h => h) (Or.inl ⟨by rfl, ?hy3_0⟩) hHeld ?_
              case hy3_0 => (intro w hSw; (try dsimp only at hSw); go_simp; first | done | with_reducible rfl)
              simp only [Act.put, List.setIfInBounds_toArray, List.set_cons_zero, List.set_cons_succ, List.getElem_toArray, List.getElem_cons_zero]
              refine wpAnyH_take (i := 1) (v := ?v3_1) rfl (by kernel_rfl) (by kernel_rfl) (by kernel_rfl) (fun _ _ _ h => h) (Or.inl ⟨by rfl, ?hy3_1⟩) hHeld ?_
              case hy3_1 => (intro w hSw; (try dsimp only at hSw); go_simp; first | done | with_reducible rfl)
              simp only [Act.put, List.setIfInBounds_toArray, List.set_cons_zero, List.set_cons_succ, List.getElem_toArray, List.getElem_cons_zero, List.getElem_cons_succ]
              refine wpAnyH_take (i := 2) (v := ?v3_2) rfl (by kernel_rfl) (by kernel_rfl) (by kernel_rfl) (fun _ _ _ h => h) (Or.inl ⟨by rfl, ?hy3_2⟩) hHeld ?_
              case hy3_2 => (intro w hSw; (try dsimp only at hSw); go_simp; first | done | with_reducible rfl)
              simp only [Act.put, List.setIfInBounds_toArray, List.set_cons_zero, List.set_cons_succ, List.getElem_toArray, List.getElem_cons_zero, List.getElem_cons_succ]
              refine wpAnyH_take (i := 3) (v := ?v3_3) rfl (by kernel_rfl) (by kernel_rfl) (by kernel_rfl) (fun _ _ _ h => h) (Or.inl ⟨by rfl, ?hy3_3⟩) hHeld ?_
              case hy3_3 => (intro w hSw; (try dsimp only at hSw); go_simp; first | done | with_reducible rfl)
              simp only [Act.put, List.setIfInBounds_toArray, List.set_cons_zero, List.set_cons_succ, List.getElem_toArray, List.getElem_cons_zero, List.getElem_cons_succ]
              refine wpAnyH_take (i := 4) (v := ?v3_4) rfl (by kernel_rfl) (by kernel_rfl) (by kernel_rfl) (fun _ _ _ h => h) (Or.inl ⟨by rfl, ?hy3_4⟩) hHeld ?_
              case hy3_4 => (intro w hSw; (try dsimp only at hSw); go_simp; first | done | with_reducible rfl)
              simp only [Act.put, List.setIfInBounds_toArray, List.set_cons_zero, List.set_cons_succ, List.getElem_toArray, List.getElem_cons_zero, List.getElem_cons_succ]
              refine wpAnyH_take (i := 5) (v := ?v3_5) rfl (by kernel_rfl) (by kernel_rfl) (by kernel_rfl) (fun _ _ _ h => h) (Or.inl ⟨by rfl, ?hy3_5⟩) hHeld ?_
              case hy3_5 => (intro w hSw; (try dsimp only at hSw); go_simp; first | done | with_reducible rfl)
              simp only [Act.put, List.setIfInBounds_toArray, List.set_cons_zero, List.set_cons_succ, List.getElem_toArray, List.getElem_cons_zero, List.getElem_cons_succ]
              refine wpAnyH_take (i := 7) (v := ?v3_7) rfl (by kernel_rfl) (by kernel_rfl) (by kernel_rfl) (fun _ _ _ h => h) (Or.inl ⟨by rfl, ?hy3_7⟩) hHeld ?_
              case hy3_7 => (intro w hSw; (try dsimp only at hSw); go_simp; first | done | with_reducible rfl)
              simp only [Act.put, List.setIfInBounds_toArray, List.set_cons_zero, List.set_cons_succ, List.getElem_toArray, List.getElem_cons_zero, List.getElem_cons_succ]
              refine wpAnyH_take (i := 8) (v := ?v3_8) rfl (by kernel_rfl) (by kernel_rfl) (by kernel_rfl) (fun _ _ _ h => h) (Or.inl ⟨by rfl, ?hy3_8⟩) hHeld ?_
              case hy3_8 => (intro w hSw; (try dsimp only at hSw); go_simp; first | done | with_reducible rfl)
              simp only [Act.put, List.setIfInBounds_toArray, List.set_cons_zero, List.set_cons_succ, List.getElem_toArray, List.getElem_cons_zero, List.getElem_cons_succ]
              refine wpAnyH_take (i := 9) (v := ?v3_9) rfl (by kernel_rfl) (by kernel_rfl) (by kernel_rfl) (fun _ _ _ h => h) (Or.inl ⟨by rfl, ?hy3_9⟩) hHeld ?_
              case hy3_9 => (intro w hSw; (try dsimp only at hSw); go_simp; first | done | with_reducible rfl)
              simp only [Act.put, List.setIfInBounds_toArray, List.set_cons_zero, List.set_cons_succ, List.getElem_toArray, List.getElem_cons_zero, List.getElem_cons_succ]
              refine wpAnyH_ready (rs := [6]) (by kernel_rfl) (by simp) ?_
              refine AllReadyH.cons rfl (fun K hK => ?_) AllReadyH.nil
              try simp only [List.getElem_toArray, List.getElem_cons_zero, List.getElem_cons_succ]
              go_simp
              refine (journalText_c A2 N c2 ds _ (E20.up C0.out) (by omega) (fun k hk => hsh9.out k (by omega)) (hg20.up C0.out).tab (hg20.up C0.out).six).mono ?_
              rw [hjt]
              rintro e x1 ⟨rfl, hx1⟩
              have C1 := Lib.hid (show Below w20.heap.size w20 x1 from bt C0.out hx1)
              clear hx1
              go_wp2_with fail
              refine hK.out _ _ (KC.out _ C1.out) (fun hHeld => ?_)
              clear hK K
              (try simp only [Act.put, List.setIfInBounds_toArray, List.set_cons_zero, List.set_cons_succ])
              refine wpAnyH_take (i := 10) (v := ?v3_10) rfl (by kernel_rfl) (by kernel_rfl) (by kernel_rfl) (fun _ _ _ h => h) (Or.inl ⟨by rfl, ?hy3_10⟩) hHeld ?_
              case hy3_10 => (intro w hSw; (try dsimp only at hSw); go_simp; first | done | with_reducible rfl)
              simp only [Act.put, List.setIfInBounds_toArray, List.set_cons_zero, List.set_cons_succ, List.getElem_toArray, List.getElem_cons_zero, List.getElem_cons_succ]
              refine wpAnyH_take (i := 11) (v := ?v3_11) rfl (by kernel_rfl) (by kernel_rfl) (by kernel_rfl) (fun _ _ _ h => h) (Or.inl ⟨by rfl, ?hy3_11⟩) hHeld ?_
              case hy3_11 => (intro w hSw; (try dsimp only at hSw); go_simp; first | done | with_reducible rfl)
              simp only [Act.put, List.setIfInBounds_toArray, List.set_cons_zero, List.set_cons_succ, List.getElem_toArray, List.getElem_cons_zero, List.getElem_cons_succ]
              refine wpAnyH_take (i := 12) (v := ?v3_12) rfl (by kernel_rfl) (by kernel_rfl) (by kernel_rfl) (fun _ _ _ h => h) (Or.inl ⟨by rfl, ?hy3_12⟩) hHeld ?_
              case hy3_12 => (intro w hSw; (try dsimp only at hSw); go_simp; first | done | with_reducible rfl)
              simp only [Act.put, List.setIfInBounds_toArray, List.set_cons_zero, List.set_cons_succ, List.getElem_toArray, List.getElem_cons_zero, List.getElem_cons_succ]
              refine wpAnyH_take (i := 13) (v := ?v3_13) rfl (by kernel_rfl) (by kernel_rfl) (by kernel_rfl) (fun _ _ _ h => h) (Or.inl ⟨by rfl, ?hy3_13⟩) hHeld ?_
              case hy3_13 => (intro w hSw; (try dsimp only at hSw); go_simp; first | done | with_reducible rfl)
              simp only [Act.put, List.setIfInBounds_toArray, List.set_cons_zero, List.set_cons_succ, List.getElem_toArray, List.getElem_cons_zero, List.getElem_cons_succ]
              refine wpAnyH_ready (rs := [14]) (by kernel_rfl) (by simp) ?_
              refine AllReadyH.cons rfl (fun K hK => ?_) AllReadyH.nil
              try simp only [List.getElem_toArray, List.getElem_cons_zero, List.getElem_cons_succ]
              go_simp
              refine (KD _ (D20.up_ C1.out)).mono ?_
              rintro e x2 ⟨rfl, hx2⟩
              have C2 := Lib.hid (show Below w20.heap.size w20 x2 from bt C1.out hx2)
              clear hx2
              go_wp2_with fail
              refine hK.out _ _ (KC.out _ C2.out) (fun hHeld => ?_)
              clear hK K
              (try simp only [Act.put, List.setIfInBounds_toArray, List.set_cons_zero, List.set_cons_succ])
              refine wpAnyH_take (i := 15) (v := ?v3_15) rfl (by kernel_rfl) (by kernel_rfl) (by kernel_rfl) (fun _ _ _ h => h) (Or.inl ⟨by rfl, ?hy3_15⟩) hHeld ?_
              case hy3_15 => (intro w hSw; (try dsimp only at hSw); go_simp; first | done | with_reducible rfl)
              simp only [Act.put, List.setIfInBounds_toArray, List.set_cons_zero, List.set_cons_succ, List.getElem_toArray, List.getElem_cons_zero, List.getElem_cons_succ]
              refine wpAnyH_take (i := 16) (v := ?v3_16) rfl (by kernel_rfl) (by kernel_rfl) (by kernel_rfl) (fun _ _ _ h => h) (Or.inl ⟨by rfl, ?hy3_16⟩) hHeld ?_
              case hy3_16 => (intro w hSw; (try dsimp only at hSw); go_simp; first | done | with_reducible rfl)
              simp only [Act.put, List.setIfInBounds_toArray, List.set_cons_zero, List.set_cons_succ, List.getElem_toArray, List.getElem_cons_zero, List.getElem_cons_succ]
              refine wpAnyH_take (i := 17) (v := ?v3_17) rfl (by kernel_rfl) (by kernel_rfl) (by kernel_rfl) (fun _ _ _ h => h) (Or.inl ⟨by rfl, ?hy3_17⟩) hHeld ?_
              case hy3_17 => (intro w hSw; (try dsimp only at hSw); go_simp; first | done | with_reducible rfl)
              simp only [Act.put, List.setIfInBounds_toArray, List.set_cons_zero, List.set_cons_succ, List.getElem_toArray, List.getElem_cons_zero, List.getElem_cons_succ]
              refine wpAnyH_take (i := 18) (v := ?v3_18) rfl (by kernel_rfl) (by kernel_rfl) (by kernel_rfl) (fun _ _ _ h => h) (Or.inl ⟨by rfl, ?hy3_18⟩) hHeld ?_
              case hy3_18 => (intro w hSw; (try dsimp only at hSw); go_simp; first | done | with_reducible rfl)
              simp only [Act.put, List.setIfInBounds_toArray, List.set_cons_zero, List.set_cons_succ, List.getElem_toArray, List.getElem_cons_zero, List.getElem_cons_succ]
              refine wpAnyH_take (i := 19) (v := ?v3_19) rfl (by kernel_rfl) (by kernel_rfl) (by kernel_rfl) (fun _ _ _ h => h) (Or.inl ⟨by rfl, ?hy3_19⟩) hHeld ?_
              case hy3_19 => (intro w hSw; (try dsimp only at hSw); go_simp; first | done | with_reducible rfl)
              simp only [Act.put, List.setIfInBounds_toArray, List.set_cons_zero, List.set_cons_succ, List.getElem_toArray, List.getElem_cons_zero, List.getElem_cons_succ]
              refine wpAnyH_take (i := 20) (v := ?v3_20) rfl (by kernel_rfl) (by kernel_rfl) (by kernel_rfl) (fun _ _ _ h => h) (Or.inl ⟨by rfl, ?hy3_20⟩) hHeld ?_
              case hy3_20 => (intro w hSw; (try dsimp only at hSw); go_simp; first | done | with_reducible rfl)
              simp only [Act.put, List.setIfInBounds_toArray, List.set_cons_zero, List.set_cons_succ, List.getElem_toArray, List.getElem_cons_zero, List.getElem_cons_succ]
              refine wpAnyH_take (i := 21) (v := ?v3_21) rfl (by kernel_rfl) (by kernel_rfl) (by kernel_rfl) (fun _ _ _ h => h) (Or.inl ⟨by rfl, ?hy3_21⟩) hHeld ?_
              case hy3_21 => (intro w hSw; (try dsimp only at hSw); go_simp; first | done | with_reducible rfl)
              simp only [Act.put, List.setIfInBounds_toArray, List.set_cons_zero, List.set_cons_succ, List.getElem_toArray, List.getElem_cons_zero, List.getElem_cons_succ]
              refine wpAnyH_take (i := 22) (v := undef) rfl (by kernel_rfl) (by kernel_rfl) (by kernel_rfl) (fun _ _ _ h => h) (Or.inr ⟨by rfl, rfl⟩) hHeld ?_
              simp only [Act.put, List.setIfInBounds_toArray, List.set_cons_zero, List.set_cons_succ, List.getElem_toArray, List.getElem_cons_zero, List.getElem_cons_succ]
              refine wpAnyH_take (i := 23) (v := undef) rfl (by kernel_rfl) (by kernel_rfl) (by kernel_rfl) (fun _ _ _ h => h) (Or.inr ⟨by rfl, rfl⟩) hHeld ?_
              simp only [Act.put, List.setIfInBounds_toArray, List.set_cons_zero, List.set_cons_succ, List.getElem_toArray, List.getElem_cons_zero, List.getElem_cons_succ]
              refine wpAnyH_take (i := 24) (v := undef) rfl (by kernel_rfl) (by kernel_rfl) (by kernel_rfl) (fun _ _ _ h => h) (Or.inr ⟨by rfl, rfl⟩) hHeld ?_
              simp only [Act.put, List.setIfInBounds_toArray, List.set_cons_zero, List.set_cons_succ, List.getElem_toArray, List.getElem_cons_zero, List.getElem_cons_succ]
              refine wpAnyH_take (i := 25) (v := ?v3_25) rfl (by kernel_rfl) (by kernel_rfl) (by kernel_rfl) (fun _ _ _ h => h) (Or.inl ⟨by rfl, ?hy3_25⟩) hHeld ?_
              case hy3_25 => (intro w hSw; (try dsimp only at hSw); go_simp; first | done | with_reducible rfl)
              simp only [Act.put, List.setIfInBounds_toArray, List.set_cons_zero, List.set_cons_succ, List.getElem_toArray, List.getElem_cons_zero, List.getElem_cons_succ]
              refine wpAnyH_take (i := 26) (v := ?v3_26) rfl (by kernel_rfl) (by kernel_rfl) (by kernel_rfl) (fun _ _ _ h => h) (Or.inl ⟨by rfl, ?hy3_26⟩) hHeld ?_
              case hy3_26 => (intro w hSw; (try dsimp only at hSw); go_simp; first | done | with_reducible rfl)
              simp only [Act.put, List.setIfInBounds_toArray, List.set_cons_zero, List.set_cons_succ, List.getElem_toArray, List.getElem_cons_zero, List.getElem_cons_succ]
              refine wpAnyH_take (i := 27) (v := ?v3_27) rfl (by kernel_rfl) (by kernel_rfl) (by kernel_rfl) (fun _ _ _ h => h) (Or.inl ⟨by rfl, ?hy3_27⟩) hHeld ?_
              case hy3_27 => (intro w hSw; (try dsimp only at hSw); go_simp; first | done | with_reducible rfl)
              simp only [Act.put, List.setIfInBounds_toArray, List.set_cons_zero, List.set_cons_succ, List.getElem_toArray, List.getElem_cons_zero, List.getElem_cons_succ]
              refine wpAnyH_ready (rs := [28]) (by kernel_rfl) (by simp) ?_
              refine AllReadyH.cons rfl (fun K hK => ?_) AllReadyH.nil
              try simp only [List.getElem_toArray, List.getElem_cons_zero, List.getElem_cons_succ]
              go_simp
              refine (alive_c _).mono ?_
              rintro e x4 ⟨rfl, hx4⟩
              have C4 := Lib.hid (show Below w20.heap.size w20 x4 from bt C2.out hx4)
              clear hx4
              go_wp2_with fail
              refine hK.out _ _ (KC.out _ C4.out) (fun hHeld => ?_)
              clear hK K
              (try simp only [Act.put, List.setIfInBounds_toArray, List.set_cons_zero, List.set_cons_succ])
              refine wpAnyH_take (i := 29) (v := ?v3_29) rfl (by kernel_rfl) (by kernel_rfl) (by kernel_rfl) (fun _ _ _ h => h) (Or.inl ⟨by rfl, ?hy3_29⟩) hHeld ?_
              case hy3_29 => (intro w hSw; (try dsimp only at hSw); go_simp; first | done | with_reducible rfl)
              simp only [Act.put, List.setIfInBounds_toArray, List.set_cons_zero, List.set_cons_succ, List.getElem_toArray, List.getElem_cons_zero, List.getElem_cons_succ]
              refine wpAnyH_take (i := 30) (v := ?v3_30) rfl (by kernel_rfl) (by kernel_rfl) (by kernel_rfl) (fun _ _ _ h => h) (Or.inl ⟨by rfl, ?hy3_30⟩) hHeld ?_
              case hy3_30 => (intro w hSw; (try dsimp only at hSw); go_simp; first | done | with_reducible rfl)
              simp only [Act.put, List.setIfInBounds_toArray, List.set_cons_zero, List.set_cons_succ, List.getElem_toArray, List.getElem_cons_zero, List.getElem_cons_succ]
              refine wpAnyH_done (by kernel_rfl) ?_ _
              go_wp2_with fail
              go_ret
              exact ⟨rfl, bt B20 C4.out⟩
            · have h40i : ¬ (40 : Int) < (N : Int) := by omega
              have hd40 : decide ((40 : Int) < (N : Int)) = false := decide_eq_false h40i
              have e9 : (r1, r2, mm) = runL xs yss ds := by rw [HV.out]; unfold runX runB; rw [hok, Bool.true_and, decide_eq_true (by omega)]; rfl
              rw [← e9] at R9
              simp only at R9
              obtain ⟨_, t0, t1, _, _⟩ := id T9
              go_wp2_with fail
              clear t0 t1
              refine (KI _ _ _ _ _ _ _ _ _ _ D9 E9).mono ?_
              rintro e w19 ⟨A7, n7, c7, P7, m7, d7, rfl, hO19, hb19⟩
              have hbA := below_new w19 (.cells #[.slice A7 n7 c7, .slice P7 m7 d7] 26)
              have V20 := Two.made w19 26 (.slice A7 n7 c7) (.slice P7 m7 d7)
              have T20 := (T9.up hb19).up hbA
              have D20 := (D9.up_ hb19).up_ hbA
              have E20 := (E9.up hb19).up hbA
              have B20 := bt (bt B9 hb19) hbA
              have hg20 := hg.up B20
              have R20 := (R9.up_ hb19).up_ hbA
              have U20 := (U9.up hb19).up hbA
              have O20 := hO19.rd.up_ hbA
              clear hb19 hbA
              go_upto_region 24 with fail
              generalize w19.alloc (.cells #[.slice A7 n7 c7, .slice P7 m7 d7] 26) = w20 at *
              obtain ⟨t1z, t10, t11, _, _⟩ := id T20
              obtain ⟨t5z, t50, t51, _, _⟩ := id U20
              obtain ⟨t7z, t70, t71, _, _⟩ := id V20
              have KE := fun W (h1 : RdD W W.heap.size A5 n5 c5 r1 P5 m5 d5 r2) (h2 : RdD W W.heap.size A7 n7 c7 r1 P7 m7 d7 r2) => sameDesk_c A5 P5 A7 P7 n5 c5 m5 d5 n7 c7 m7 d7 r1 r1 r2 r2 W h1 h2
              rw [show (eqB r1 r1 && eqBB r2 r2) = true from by rw [eqB_self, eqBB_self]; rfl] at KE
              have KC : Hid (∀ W, Below w20.heap.size w20 W → World.cell? W ⟨w6.heap.size, 0, none⟩ = some (.slice A1 n1 c1) ∧ World.cell? W ⟨w6.heap.size, 1, none⟩ = some (.slice P1 m1 d1) ∧ World.cell? W ⟨w6.heap.size + 1, 0, none⟩ = some (.slice A5 n5 c5) ∧ World.cell? W ⟨w6.heap.size + 1, 1, none⟩ = some (.slice P5 m5 d5) ∧ World.cell? W ⟨w19.heap.size, 0, none⟩ = some (.slice A7 n7 c7) ∧ World.cell? W ⟨w19.heap.size, 1, none⟩ = some (.slice P7 m7 d7)) := Lib.hid (fun W h => ⟨(h.cell (p := ⟨w6.heap.size, 0, none⟩) t1z).trans t10, (h.cell (p := ⟨w6.heap.size, 1, none⟩) t1z).trans t11, (h.cell (p := ⟨w6.heap.size + 1, 0, none⟩) t5z).trans t50, (h.cell (p := ⟨w6.heap.size + 1, 1, none⟩) t5z).trans t51, (h.cell (p := ⟨w19.heap.size, 0, none⟩) t7z).trans t70, (h.cell (p := ⟨w19.heap.size, 1, none⟩) t7z).trans t71⟩)
              have C0 : Hid (Below w20.heap.size w20 w20.drew) := Lib.hid (bd (Below.refl _ _) 1)
              refine wp_region_held_drew (S := fun W => World.cell? W ⟨w6.heap.size, 0, none⟩ = some (.slice A1 n1 c1) ∧ World.cell? W ⟨w6.heap.size, 1, none⟩ = some (.slice P1 m1 d1) ∧ World.cell? W ⟨w6.heap.size + 1, 0, none⟩ = some (.slice A5 n5 c5) ∧ World.cell? W ⟨w6.heap.size + 1, 1, none⟩ = some (.slice P5 m5 d5) ∧ World.cell? W ⟨w19.heap.size, 0, none⟩ = some (.slice A7 n7 c7) ∧ World.cell? W ⟨w19.heap.size, 1, none⟩ = some (.slice P7 m7 d7)) (by kernel_rfl) (KC.out _ C0.out) (fun hHeld => ?_)
              refine wpAnyH_take (i := 0) (v := ?v4_0) rfl (by kernel_rfl) (by kernel_rfl) (by kernel_rfl) (fun _ _ _ h => h) (Or.inl ⟨by rfl, ?hy4_0⟩) hHeld ?_
              case hy4_0 => (intro w hSw; (try dsimp only at hSw); go_simp; first | done | with_reducible rfl)
              simp only [Act.put, List.setIfInBounds_toArray, List.set_cons_zero, List.set_cons_succ, List.getElem_toArray, List.getElem_cons_zero]
              refine wpAnyH_take (i := 1) (v := ?v4_1) rfl (by kernel_rfl) (by kernel_rfl) (by kernel_rfl) (fun _ _ _ h => h) (Or.inl ⟨by rfl, ?hy4_1⟩) hHeld ?_
              case hy4_1 => (intro w hSw; (try dsimp only at hSw); go_simp; first | done | with_reducible rfl)
              simp only [Act.put, List.setIfInBounds_toArray, List.set_cons_zero, List.set_cons_succ, List.getElem_toArray, List.getElem_cons_zero, List.getElem_cons_succ]
              refine wpAnyH_take (i := 2) (v := ?v4_2) rfl (by kernel_rfl) (by kernel_rfl) (by kernel_rfl) (fun _ _ _ h => h) (Or.inl ⟨by rfl, ?hy4_2⟩) hHeld ?_
              case hy4_2 => (intro w hSw; (try dsimp only at hSw); go_simp; first | done | with_reducible rfl)
              simp only [Act.put, List.setIfInBounds_toArray, List.set_cons_zero, List.set_cons_succ, List.getElem_toArray, List.getElem_cons_zero, List.getElem_cons_succ]
              refine wpAnyH_take (i := 3) (v := ?v4_3) rfl (by kernel_rfl) (by kernel_rfl) (by kernel_rfl) (fun _ _ _ h => h) (Or.inl ⟨by rfl, ?hy4_3⟩) hHeld ?_
              case hy4_3 => (intro w hSw; (try dsimp only at hSw); go_simp; first | done | with_reducible rfl)
              simp only [Act.put, List.setIfInBounds_toArray, List.set_cons_zero, List.set_cons_succ, List.getElem_toArray, List.getElem_cons_zero, List.getElem_cons_succ]
              refine wpAnyH_take (i := 4) (v := ?v4_4) rfl (by kernel_rfl) (by kernel_rfl) (by kernel_rfl) (fun _ _ _ h => h) (Or.inl ⟨by rfl, ?hy4_4⟩) hHeld ?_
              case hy4_4 => (intro w hSw; (try dsimp only at hSw); go_simp; first | done | with_reducible rfl)
              simp only [Act.put, List.setIfInBounds_toArray, List.set_cons_zero, List.set_cons_succ, List.getElem_toArray, List.getElem_cons_zero, List.getElem_cons_succ]
              refine wpAnyH_take (i := 5) (v := ?v4_5) rfl (by kernel_rfl) (by kernel_rfl) (by kernel_rfl) (fun _ _ _ h => h) (Or.inl ⟨by rfl, ?hy4_5⟩) hHeld ?_
              case hy4_5 => (intro w hSw; (try dsimp only at hSw); go_simp; first | done | with_reducible rfl)
              simp only [Act.put, List.setIfInBounds_toArray, List.set_cons_zero, List.set_cons_succ, List.getElem_toArray, List.getElem_cons_zero, List.getElem_cons_succ]
              refine wpAnyH_take (i := 7) (v := ?v4_7) rfl (by kernel_rfl) (by kernel_rfl) (by kernel_rfl) (fun _ _ _ h => h) (Or.inl ⟨by rfl, ?hy4_7⟩) hHeld ?_
              case hy4_7 => (intro w hSw; (try dsimp only at hSw); go_simp; first | done | with_reducible rfl)
              simp only [Act.put, List.setIfInBounds_toArray, List.set_cons_zero, List.set_cons_succ, List.getElem_toArray, List.getElem_cons_zero, List.getElem_cons_succ]
              refine wpAnyH_take (i := 8) (v := ?v4_8) rfl (by kernel_rfl) (by kernel_rfl) (by kernel_rfl) (fun _ _ _ h => h) (Or.inl ⟨by rfl, ?hy4_8⟩) hHeld ?_
              case hy4_8 => (intro w hSw; (try dsimp only at hSw); go_simp; first | done | with_reducible rfl)
              simp only [Act.put, List.setIfInBounds_toArray, List.set_cons_zero, List.set_cons_succ, List.getElem_toArray, List.getElem_cons_zero, List.getElem_cons_succ]
              refine wpAnyH_take (i := 9) (v := ?v4_9) rfl (by kernel_rfl) (by kernel_rfl) (by kernel_rfl) (fun _ _ _ h => h) (Or.inl ⟨by rfl, ?hy4_9⟩) hHeld ?_
              case hy4_9 => (intro w hSw; (try dsimp only at hSw); go_simp; first | done | with_reducible rfl)
              simp only [Act.put, List.setIfInBounds_toArray, List.set_cons_zero, List.set_cons_succ, List.getElem_toArray, List.getElem_cons_zero, List.getElem_cons_succ]
              refine wpAnyH_ready (rs := [6]) (by kernel_rfl) (by simp) ?_
              refine AllReadyH.cons rfl (fun K hK => ?_) AllReadyH.nil
              try simp only [List.getElem_toArray, List.getElem_cons_zero, List.getElem_cons_succ]
              go_simp
              refine (journalText_c A2 N c2 ds _ (E20.up C0.out) (by omega) (fun k hk => hsh9.out k (by omega)) (hg20.up C0.out).tab (hg20.up C0.out).six).mono ?_
              rw [hjt]
              rintro e x1 ⟨rfl, hx1⟩
              have C1 := Lib.hid (show Below w20.heap.size w20 x1 from bt C0.out hx1)
              clear hx1
              go_wp2_with fail
              refine hK.out _ _ (KC.out _ C1.out) (fun hHeld => ?_)
              clear hK K
              (try simp only [Act.put, List.setIfInBounds_toArray, List.set_cons_zero, List.set_cons_succ])
              refine wpAnyH_take (i := 10) (v := ?v4_10) rfl (by kernel_rfl) (by kernel_rfl) (by kernel_rfl) (fun _ _ _ h => h) (Or.inl ⟨by rfl, ?hy4_10⟩) hHeld ?_
              case hy4_10 => (intro w hSw; (try dsimp only at hSw); go_simp; first | done | with_reducible rfl)
              simp only [Act.put, List.setIfInBounds_toArray, List.set_cons_zero, List.set_cons_succ, List.getElem_toArray, List.getElem_cons_zero, List.getElem_cons_succ]
              refine wpAnyH_take (i := 11) (v := ?v4_11) rfl (by kernel_rfl) (by kernel_rfl) (by kernel_rfl) (fun _ _ _ h => h) (Or.inl ⟨by rfl, ?hy4_11⟩) hHeld ?_
              case hy4_11 => (intro w hSw; (try dsimp only at hSw); go_simp; first | done | with_reducible rfl)
              simp only [Act.put, List.setIfInBounds_toArray, List.set_cons_zero, List.set_cons_succ, List.getElem_toArray, List.getElem_cons_zero, List.getElem_cons_succ]
              refine wpAnyH_take (i := 12) (v := ?v4_12) rfl (by kernel_rfl) (by kernel_rfl) (by kernel_rfl) (fun _ _ _ h => h) (Or.inl ⟨by rfl, ?hy4_12⟩) hHeld ?_
              case hy4_12 => (intro w hSw; (try dsimp only at hSw); go_simp; first | done | with_reducible rfl)
              simp only [Act.put, List.setIfInBounds_toArray, List.set_cons_zero, List.set_cons_succ, List.getElem_toArray, List.getElem_cons_zero, List.getElem_cons_succ]
              refine wpAnyH_take (i := 13) (v := ?v4_13) rfl (by kernel_rfl) (by kernel_rfl) (by kernel_rfl) (fun _ _ _ h => h) (Or.inl ⟨by rfl, ?hy4_13⟩) hHeld ?_
              case hy4_13 => (intro w hSw; (try dsimp only at hSw); go_simp; first | done | with_reducible rfl)
              simp only [Act.put, List.setIfInBounds_toArray, List.set_cons_zero, List.set_cons_succ, List.getElem_toArray, List.getElem_cons_zero, List.getElem_cons_succ]
              refine wpAnyH_ready (rs := [14]) (by kernel_rfl) (by simp) ?_
              refine AllReadyH.cons rfl (fun K hK => ?_) AllReadyH.nil
              try simp only [List.getElem_toArray, List.getElem_cons_zero, List.getElem_cons_succ]
              go_simp
              refine (KD _ (D20.up_ C1.out)).mono ?_
              rintro e x2 ⟨rfl, hx2⟩
              have C2 := Lib.hid (show Below w20.heap.size w20 x2 from bt C1.out hx2)
              clear hx2
              go_wp2_with fail
              refine hK.out _ _ (KC.out _ C2.out) (fun hHeld => ?_)
              clear hK K
              (try simp only [Act.put, List.setIfInBounds_toArray, List.set_cons_zero, List.set_cons_succ])
              refine wpAnyH_take (i := 15) (v := ?v4_15) rfl (by kernel_rfl) (by kernel_rfl) (by kernel_rfl) (fun _ _ _ h => h) (Or.inl ⟨by rfl, ?hy4_15⟩) hHeld ?_
              case hy4_15 => (intro w hSw; (try dsimp only at hSw); go_simp; first | done | with_reducible rfl)
              simp only [Act.put, List.setIfInBounds_toArray, List.set_cons_zero, List.set_cons_succ, List.getElem_toArray, List.getElem_cons_zero, List.getElem_cons_succ]
              refine wpAnyH_take (i := 16) (v := ?v4_16) rfl (by kernel_rfl) (by kernel_rfl) (by kernel_rfl) (fun _ _ _ h => h) (Or.inl ⟨by rfl, ?hy4_16⟩) hHeld ?_
              case hy4_16 => (intro w hSw; (try dsimp only at hSw); go_simp; first | done | with_reducible rfl)
              simp only [Act.put, List.setIfInBounds_toArray, List.set_cons_zero, List.set_cons_succ, List.getElem_toArray, List.getElem_cons_zero, List.getElem_cons_succ]
              refine wpAnyH_take (i := 17) (v := ?v4_17) rfl (by kernel_rfl) (by kernel_rfl) (by kernel_rfl) (fun _ _ _ h => h) (Or.inl ⟨by rfl, ?hy4_17⟩) hHeld ?_
              case hy4_17 => (intro w hSw; (try dsimp only at hSw); go_simp; first | done | with_reducible rfl)
              simp only [Act.put, List.setIfInBounds_toArray, List.set_cons_zero, List.set_cons_succ, List.getElem_toArray, List.getElem_cons_zero, List.getElem_cons_succ]
              refine wpAnyH_take (i := 18) (v := ?v4_18) rfl (by kernel_rfl) (by kernel_rfl) (by kernel_rfl) (fun _ _ _ h => h) (Or.inl ⟨by rfl, ?hy4_18⟩) hHeld ?_
              case hy4_18 => (intro w hSw; (try dsimp only at hSw); go_simp; first | done | with_reducible rfl)
              simp only [Act.put, List.setIfInBounds_toArray, List.set_cons_zero, List.set_cons_succ, List.getElem_toArray, List.getElem_cons_zero, List.getElem_cons_succ]
              refine wpAnyH_take (i := 19) (v := ?v4_19) rfl (by kernel_rfl) (by kernel_rfl) (by kernel_rfl) (fun _ _ _ h => h) (Or.inl ⟨by rfl, ?hy4_19⟩) hHeld ?_
              case hy4_19 => (intro w hSw; (try dsimp only at hSw); go_simp; first | done | with_reducible rfl)
              simp only [Act.put, List.setIfInBounds_toArray, List.set_cons_zero, List.set_cons_succ, List.getElem_toArray, List.getElem_cons_zero, List.getElem_cons_succ]
              refine wpAnyH_take (i := 20) (v := ?v4_20) rfl (by kernel_rfl) (by kernel_rfl) (by kernel_rfl) (fun _ _ _ h => h) (Or.inl ⟨by rfl, ?hy4_20⟩) hHeld ?_
              case hy4_20 => (intro w hSw; (try dsimp only at hSw); go_simp; first | done | with_reducible rfl)
              simp only [Act.put, List.setIfInBounds_toArray, List.set_cons_zero, List.set_cons_succ, List.getElem_toArray, List.getElem_cons_zero, List.getElem_cons_succ]
              refine wpAnyH_take (i := 21) (v := ?v4_21) rfl (by kernel_rfl) (by kernel_rfl) (by kernel_rfl) (fun _ _ _ h => h) (Or.inl ⟨by rfl, ?hy4_21⟩) hHeld ?_
              case hy4_21 => (intro w hSw; (try dsimp only at hSw); go_simp; first | done | with_reducible rfl)
              simp only [Act.put, List.setIfInBounds_toArray, List.set_cons_zero, List.set_cons_succ, List.getElem_toArray, List.getElem_cons_zero, List.getElem_cons_succ]
              refine wpAnyH_take (i := 22) (v := ?v4_22) rfl (by kernel_rfl) (by kernel_rfl) (by kernel_rfl) (fun _ _ _ h => h) (Or.inl ⟨by rfl, ?hy4_22⟩) hHeld ?_
              case hy4_22 => (intro w hSw; (try dsimp only at hSw); go_simp; first | done | with_reducible rfl)
              simp only [Act.put, List.setIfInBounds_toArray, List.set_cons_zero, List.set_cons_succ, List.getElem_toArray, List.getElem_cons_zero, List.getElem_cons_succ]
              refine wpAnyH_take (i := 23) (v := ?v4_23) rfl (by kernel_rfl) (by kernel_rfl) (by kernel_rfl) (fun _ _ _ h => h) (Or.inl ⟨by rfl, ?hy4_23⟩) hHeld ?_
              case hy4_23 => (intro w hSw; (try dsimp only at hSw); go_simp; first | done | with_reducible rfl)
              simp only [Act.put, List.setIfInBounds_toArray, List.set_cons_zero, List.set_cons_succ, List.getElem_toArray, List.getElem_cons_zero, List.getElem_cons_succ]
              refine wpAnyH_ready (rs := [24]) (by kernel_rfl) (by simp) ?_
              refine AllReadyH.cons rfl (fun K hK => ?_) AllReadyH.nil
              try simp only [List.getElem_toArray, List.getElem_cons_zero, List.getElem_cons_succ]
              go_simp
              refine (KE _ (R20.up_ C2.out) (O20.up_ C2.out)).mono ?_
              rintro e x3 ⟨rfl, hx3⟩
              have C3 := Lib.hid (show Below w20.heap.size w20 x3 from bt C2.out hx3)
              clear hx3
              go_wp2_with fail
              refine hK.out _ _ (KC.out _ C3.out) (fun hHeld => ?_)
              clear hK K
              (try simp only [Act.put, List.setIfInBounds_toArray, List.set_cons_zero, List.set_cons_succ])
              refine wpAnyH_take (i := 25) (v := ?v4_25) rfl (by kernel_rfl) (by kernel_rfl) (by kernel_rfl) (fun _ _ _ h => h) (Or.inl ⟨by rfl, ?hy4_25⟩) hHeld ?_
              case hy4_25 => (intro w hSw; (try dsimp only at hSw); go_simp; first | done | with_reducible rfl)
              simp only [Act.put, List.setIfInBounds_toArray, List.set_cons_zero, List.set_cons_succ, List.getElem_toArray, List.getElem_cons_zero, List.getElem_cons_succ]
              refine wpAnyH_take (i := 26) (v := ?v4_26) rfl (by kernel_rfl) (by kernel_rfl) (by kernel_rfl) (fun _ _ _ h => h) (Or.inl ⟨by rfl, ?hy4_26⟩) hHeld ?_
              case hy4_26 => (intro w hSw; (try dsimp only at hSw); go_simp; first | done | with_reducible rfl)
              simp only [Act.put, List.setIfInBounds_toArray, List.set_cons_zero, List.set_cons_succ, List.getElem_toArray, List.getElem_cons_zero, List.getElem_cons_succ]
              refine wpAnyH_take (i := 27) (v := ?v4_27) rfl (by kernel_rfl) (by kernel_rfl) (by kernel_rfl) (fun _ _ _ h => h) (Or.inl ⟨by rfl, ?hy4_27⟩) hHeld ?_
              case hy4_27 => (intro w hSw; (try dsimp only at hSw); go_simp; first | done | with_reducible rfl)
              simp only [Act.put, List.setIfInBounds_toArray, List.set_cons_zero, List.set_cons_succ, List.getElem_toArray, List.getElem_cons_zero, List.getElem_cons_succ]
              refine wpAnyH_ready (rs := [28]) (by kernel_rfl) (by simp) ?_
              refine AllReadyH.cons rfl (fun K hK => ?_) AllReadyH.nil
              try simp only [List.getElem_toArray, List.getElem_cons_zero, List.getElem_cons_succ]
              go_simp
              refine (alive_c _).mono ?_
              rintro e x4 ⟨rfl, hx4⟩
              have C4 := Lib.hid (show Below w20.heap.size w20 x4 from bt C3.out hx4)
              clear hx4
              go_wp2_with fail
              refine hK.out _ _ (KC.out _ C4.out) (fun hHeld => ?_)
              clear hK K
              (try simp only [Act.put, List.setIfInBounds_toArray, List.set_cons_zero, List.set_cons_succ])
              refine wpAnyH_take (i := 29) (v := ?v4_29) rfl (by kernel_rfl) (by kernel_rfl) (by kernel_rfl) (fun _ _ _ h => h) (Or.inl ⟨by rfl, ?hy4_29⟩) hHeld ?_
              case hy4_29 => (intro w hSw; (try dsimp only at hSw); go_simp; first | done | with_reducible rfl)
              simp only [Act.put, List.setIfInBounds_toArray, List.set_cons_zero, List.set_cons_succ, List.getElem_toArray, List.getElem_cons_zero, List.getElem_cons_succ]
              refine wpAnyH_take (i := 30) (v := ?v4_30) rfl (by kernel_rfl) (by kernel_rfl) (by kernel_rfl) (fun _ _ _ h => h) (Or.inl ⟨by rfl, ?hy4_30⟩) hHeld ?_
              case hy4_30 => (intro w hSw; (try dsimp only at hSw); go_simp; first | done | with_reducible rfl)
              simp only [Act.put, List.setIfInBounds_toArray, List.set_cons_zero, List.set_cons_succ, List.getElem_toArray, List.getElem_cons_zero, List.getElem_cons_succ]
              refine wpAnyH_done (by kernel_rfl) ?_ _
              go_wp2_with fail
              go_ret
              exact ⟨rfl, bt B20 C4.out⟩
end Go.Proofs.YtoinlkdmfclnbaaGreatDoor
