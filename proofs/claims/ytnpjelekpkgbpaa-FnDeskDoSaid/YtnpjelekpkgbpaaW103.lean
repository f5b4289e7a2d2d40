/- Walk: l20Desk of the reference. Printed by gen_w103.py. -/
import Derived.Test.YtnpjelekpkgbpaaW100
import Derived.Test.YtnpjelekpkgbpaaW102
import Derived.Deep.RegionHeld3
namespace Go.Proofs.Ytnpjelekpkgbpaa
set_option linter.unusedVariables false
open Go.RowKit

theorem doX_len (xs : List Int) (yss : List (List Int)) (kd a b : Int) (s : ByteArray) : (doX xs yss kd a b s).2.1.length ≤ yss.length + 1 := by
  rcases hok : deskOkB xs yss with _ | _
  · rw [do_no hok]; simp
  rcases hb : backB yss kd a b s with _ | _
  · rcases hs : stayB xs kd a b s with _ | _
    · rw [do_go hok hb hs]
      show (pastX xs yss).length ≤ _
      unfold pastX
      split
      · simp
      · rw [List.length_drop, List.length_append]; simp
    · rw [do_stay hok hb hs]; exact Nat.le_succ _
  · rw [do_back hok hb]
    show (yss.take _).length ≤ _
    rw [List.length_take]; omega
theorem doX_seven (xs : List Int) (yss : List (List Int)) (kd a b : Int) (s : ByteArray) : (doX xs yss kd a b s).1.length ≤ 7 := by
  rcases hok : deskOkB xs yss with _ | _
  · rw [do_no hok]; simp
  · exact (desk_fit (doX_desk kd a b s hok)).2.1
section
variable {wr w6 : World} {lo g q Q1 n c m d g8 B : Nat} {A P : Option Addr} {xs : List Int} {yss : List (List Int)} {r3 : Bool}
theorem cutK_last (hc : Chg g (g + 1) wr w6) (hr : Rdr w6 lo g q) (h : RdD w6 w6.heap.size A n c xs P m d yss) (hf : FreshD w6 B A n c P m d) (ho : OwnRR w6 B (.slice P m d) yss) (hn : OwnIn w6 B w6.heap.size A n c xs) (hB : wr.heap.size ≤ B) (hx : xs.length ≤ 7) (hy : yss.length ≤ Q1) :
    CutK wr (w6.alloc (.cells #[.slice A n c, .slice P m d] 30)) Q1 lo g q (.pointer (some ⟨w6.heap.size, 0, none⟩)) (.bool r3) :=
  ⟨_, A, n, c, xs, P, m, d, yss, r3, rfl, rfl, Two.made w6 _ _ _, h.up (below_new _ _), (hf.upF h (below_new _ _)).more hB, (ho.up (below_new _ _)).moreB hB, (hn.up (below_new _ _)).wide hB (below_new _ _).size, hx, hy, hr.al _, hc.allocNew _⟩
theorem cutK_early (hc : Chg g (g + 1) wr w6) (hr : Rdr w6 lo g q) (h : RdD w6 w6.heap.size A n c xs P m d yss) (hf : FreshD w6 B A n c P m d) (ho : OwnRR w6 B (.slice P m d) yss) (hn : OwnIn w6 B w6.heap.size A n c xs) (hB : g8 + 1 ≤ B) (hg8 : wr.heap.size ≤ g8) (hg : g < wr.heap.size) (hz : Two w6 g8 (.slice none 0 0) (.slice none 0 0)) (hx : xs.length ≤ 7) (hy : yss.length ≤ Q1) :
    CutK wr ((w6.setCell ⟨g8, 0, none⟩ (.slice A n c)).setCell ⟨g8, 1, none⟩ (.slice P m d)) Q1 lo g q (.pointer (some ⟨g8, 0, none⟩)) (.bool r3) := by
  have hch : Chg g8 (g8 + 1) w6 ((w6.setCell ⟨g8, 0, none⟩ (.slice A n c)).setCell ⟨g8, 1, none⟩ (.slice P m d)) :=
    ((Chg.refl _ _ w6).setCell (p := ⟨g8, 0, none⟩) (Nat.le_refl _) (Nat.lt_succ_self _) _).setCell (p := ⟨g8, 1, none⟩) (Nat.le_refl _) (Nat.lt_succ_self _) _
  have hlo := hr.lo
  exact ⟨g8, A, n, c, xs, P, m, d, yss, r3, rfl, rfl, (hz.set0 _).set1 _, h.chgF hf hch hB, (hf.chgF h hch hB).more (by omega), (ho.chg hch hB).moreB (by omega), (hn.chg hch (.inr hB)).wide (by omega) hch.size, hx, hy, hr.chg hch (by omega) (.inl (by omega)), (hc.setNew (p := ⟨g8, 0, none⟩) hg8 _).setNew (p := ⟨g8, 1, none⟩) hg8 _⟩
end
def KEx (w wr : World) (lo g p G k : Nat) : Prop :=
  ∃ A n c xs P m d yss, KSt w wr lo g (p + 40 + 100 * (5 - k)) G A n c xs P m d yss ∧ xs.length ≤ 7 ∧ yss.length ≤ 4 - k
/-- The end: the desk goes to the result's block. -/
theorem desk_end {w wr : World} {lo g p : Nat} {A P : Option Addr} {n c m d : Nat} {xs : List Int} {yss : List (List Int)} (hrd : RdD wr wr.heap.size A n c xs P m d yss) (hf : FreshD wr (w.heap.size + 1) A n c P m d) (hr : Rdr wr lo g (p + 1000)) (hc : Chg g (g + 1) w wr) (hres : Two wr w.heap.size (.slice none 0 0) (.slice none 0 0)) (hg : g < w.heap.size) (hn : n ≤ 7) :
    DeskDrawn w lo g p (.returned (.agg #[.slice A n c, .slice P m d])) ((wr.setCell ⟨w.heap.size, 0, none⟩ (.slice A n c)).setCell ⟨w.heap.size, 1, none⟩ (.slice P m d)) := by
  have hch : Chg w.heap.size (w.heap.size + 1) wr ((wr.setCell ⟨w.heap.size, 0, none⟩ (.slice A n c)).setCell ⟨w.heap.size, 1, none⟩ (.slice P m d)) :=
    ((Chg.refl _ _ wr).setCell (p := ⟨w.heap.size, 0, none⟩) (Nat.le_refl _) (Nat.lt_succ_self _) _).setCell (p := ⟨w.heap.size, 1, none⟩) (Nat.le_refl _) (Nat.lt_succ_self _) _
  have hlo := hr.lo
  exact ⟨A, n, c, xs, P, m, d, yss, rfl, hrd.chgF hf hch (Nat.le_refl _), hf.chgF hrd hch (Nat.le_refl _), hn, hr.chg hch (by omega) (.inl hg), (hc.setNew (p := ⟨w.heap.size, 0, none⟩) (Nat.le_refl _) _).setNew (p := ⟨w.heap.size, 1, none⟩) (Nat.le_refl _) _⟩
/-- Now is one number; Past as it was. -/
theorem desk_one {w wr : World} {lo g q p G : Nat} {A P : Option Addr} {n c m d : Nat} {xs : List Int} {yss : List (List Int)} (st : KSt w wr lo g q G A n c xs P m d yss) (hq : q ≤ p + 1000) :
    let X := (((wr.setCell ⟨G, 0, none⟩ (.slice (some ⟨wr.heap.size, 0, none⟩) 1 1)).setCell ⟨w.heap.size, 0, none⟩ (.slice (some ⟨wr.heap.size, 0, none⟩) 1 1)).setCell ⟨w.heap.size, 1, none⟩ (.slice P m d)).alloc (.cells #[.int .i64 1] 3)
    DeskDrawn w lo g p (.returned (.agg #[.slice (some ⟨wr.heap.size, 0, none⟩) 1 1, .slice P m d])) X ∧ Two X w.heap.size (.slice (some ⟨wr.heap.size, 0, none⟩) 1 1) (.slice P m d) := by
  have hGw := st.two.1
  have h1 := st.hG
  have h2 := st.hg
  have hlo := st.rdr.lo
  have e0 : (wr.setCell ⟨G, 0, none⟩ (.slice (some ⟨wr.heap.size, 0, none⟩) 1 1)).heap.size = wr.heap.size := by simp
  have hcG : Chg G (G + 1) wr (wr.setCell ⟨G, 0, none⟩ (.slice (some ⟨wr.heap.size, 0, none⟩) 1 1)) := (Chg.refl _ _ wr).setCell (p := ⟨G, 0, none⟩) (Nat.le_refl _) (Nat.lt_succ_self _) _
  have hR1 := st.rd.2.setP st.two.2.1 st.ne (.slice (some ⟨wr.heap.size, 0, none⟩) 1 1)
  have hF1 := st.fresh.setP (p := ⟨G, 0, none⟩) st.ne (.slice (some ⟨wr.heap.size, 0, none⟩) 1 1)
  have hF1' : FreshD (wr.setCell ⟨G, 0, none⟩ (.slice (some ⟨wr.heap.size, 0, none⟩) 1 1)) (w.heap.size + 1) none 0 0 P m d := ⟨(fun q hq => by cases hq), hF1.2⟩
  have hD1 : RdD (wr.setCell ⟨G, 0, none⟩ (.slice (some ⟨wr.heap.size, 0, none⟩) 1 1)) (wr.setCell ⟨G, 0, none⟩ (.slice (some ⟨wr.heap.size, 0, none⟩) 1 1)).heap.size none 0 0 [] P m d yss := ⟨Rd.nil_ _ _, by rw [e0]; exact hR1⟩
  have hr1 := st.rdr.chg hcG (by omega) (.inl (by omega))
  have hc1 := st.chg.setNew (p := ⟨G, 0, none⟩) (by show w.heap.size ≤ G; omega) (.slice (some ⟨wr.heap.size, 0, none⟩) 1 1)
  have hres1 := st.res.chg hcG (.inl h1)
  generalize hs : wr.heap.size = sz at *
  generalize wr.setCell ⟨G, 0, none⟩ (.slice (some ⟨sz, 0, none⟩) 1 1) = wa at *
  have hch : Chg w.heap.size (w.heap.size + 1) wa ((wa.setCell ⟨w.heap.size, 0, none⟩ (.slice (some ⟨sz, 0, none⟩) 1 1)).setCell ⟨w.heap.size, 1, none⟩ (.slice P m d)) :=
    ((Chg.refl _ _ wa).setCell (p := ⟨w.heap.size, 0, none⟩) (Nat.le_refl _) (Nat.lt_succ_self _) _).setCell (p := ⟨w.heap.size, 1, none⟩) (Nat.le_refl _) (Nat.lt_succ_self _) _
  have hD2 := hD1.chgF hF1' hch (Nat.le_refl _)
  have hF2 := hF1'.chgF hD1 hch (Nat.le_refl _)
  have hr2 := hr1.chg hch (by omega) (.inl h2)
  have hc2 := (hc1.setNew (p := ⟨w.heap.size, 0, none⟩) (Nat.le_refl _) (.slice (some ⟨sz, 0, none⟩) 1 1)).setNew (p := ⟨w.heap.size, 1, none⟩) (Nat.le_refl _) (.slice P m d)
  have hres2 := (hres1.set0 (.slice (some ⟨sz, 0, none⟩) 1 1)).set1 (.slice P m d)
  have e2 : ((wa.setCell ⟨w.heap.size, 0, none⟩ (.slice (some ⟨sz, 0, none⟩) 1 1)).setCell ⟨w.heap.size, 1, none⟩ (.slice P m d)).heap.size = sz := by simp [e0]
  generalize (wa.setCell ⟨w.heap.size, 0, none⟩ (.slice (some ⟨sz, 0, none⟩) 1 1)).setCell ⟨w.heap.size, 1, none⟩ (.slice P m d) = wb at *
  have hbb := below_new wb (.cells #[.int .i64 1] 3)
  have hcell : (wb.alloc (.cells #[.int .i64 1] 3)).cell? ⟨sz, 0, none⟩ = some (.int .i64 1) := by rw [← e2]; exact (World.cell?_alloc_at _ _ _ _ rfl).trans rfl
  have hrow : Rd (wb.alloc (.cells #[.int .i64 1] 3)) (wb.alloc (.cells #[.int .i64 1] 3)).heap.size (some ⟨sz, 0, none⟩) 1 1 [1] :=
    ⟨rfl, Nat.le_refl _, by unfold maxLen; omega, fun _ => ⟨sz, 0, rfl, by rw [World.size_alloc, e2]; omega, fun k hk => by
      obtain rfl : k = 0 := by omega
      exact hcell⟩⟩
  exact ⟨⟨_, 1, 1, [1], P, m, d, yss, rfl, ⟨hrow, (hD2.2.up hbb)⟩, ⟨fun q hq => by have e : sz = q := Option.some.inj hq; omega, (hF2.upF hD2 hbb).2⟩, by omega, (hr2.more hq).al _, hc2.allocNew _⟩, hres2.up hbb⟩
set_option maxRecDepth 100000 in
set_option maxHeartbeats 6400000 in
theorem desk_c (g lo p N : Nat) (w : World) (h : Rdr w lo g p) (hp : p ≤ 10000) (hN : N ≤ 1000) :
    Calls Try.prog 53 #[.pointer (some ⟨g, 0, none⟩), .int .i64 (N : Int)] w (DeskDrawn w lo g p) := by
  have hgl := h.lt
  have hlog := h.lo
  have hR1 := Two.made w 30 (.slice none 0 0) (.slice none 0 0)
  have hr1 := h.al (.cells #[.slice none 0 0, .slice none 0 0] 30)
  have hc1 : Chg g (g + 1) w (w.alloc (.cells #[.slice none 0 0, .slice none 0 0] 30)) := (Chg.refl _ _ _).allocNew _
  have hz1 : w.heap.size + 1 ≤ (w.alloc (.cells #[.slice none 0 0, .slice none 0 0] 30)).heap.size := by simp
  go_enter Try.func53, Try.ntmps53
  go_wp2_with fail
  generalize w.alloc (.cells #[.slice none 0 0, .slice none 0 0] 30) = w1 at *
  refine (map_c g lo p 7 0 _ hr1 (by omega) (by omega) (by omega) (by omega)).mono ?_
  rintro e w2 ⟨A2, n2, c2, xs2, rfl, hO2, _, hr2, hc2⟩
  have hR2 := hR1.chg hc2 (.inr hgl)
  have hC2 := hc1.chg_ hc2 (.inr ⟨Nat.le_refl _, Nat.le_refl _⟩)
  have hz2 := hc2.size
  clear hR1 hr1 hc1 hc2
  go_wp2_with fail
  refine (sDeskNew_c _ _ _ xs2 _ hO2.rd).mono ?_
  rintro e w3 hnew
  obtain ⟨A3, n3, c3, rfl, O3, hb3⟩ := hnew.get
  have hl3 := O3.len
  have hs3 := newR_len xs2
  generalize mapOk xs2 = mb at *
  generalize newR xs2 = xs at *
  clear hnew
  have hz3 := hb3.size
  have hbA := below_new w3 (.cells #[.slice A3 n3 c3, .slice none 0 0] 30)
  have st4 : KSt w (w3.alloc (.cells #[.slice A3 n3 c3, .slice none 0 0] 30)) lo g (p + 30) w3.heap.size A3 n3 c3 xs none 0 0 [] :=
    ⟨Two.made w3 _ _ _, ⟨(O3.up hbA).rd, RdR.nil_ _ _⟩, ⟨fun q hq => by have := (O3.lt q hq).1; omega, (fun q hq => by cases hq), fun k _ _ _ _ _ hk => absurd hk (Nat.not_lt_zero _)⟩, (fun q hq => by cases hq), OwnRR.nil_ _ _, (hr2.up hb3).al _, (hC2.up_ hb3).allocNew _, (hR2.up hb3).up hbA, Ty.made w3 _, ((O3.up hbA).wide (by omega) (by have := hbA.size; omega)), by omega, hgl⟩
  clear hR2 hr2 hC2 hbA hO2 O3 hb3
  go_wp2_with fail
  generalize w3.alloc (.cells #[.slice A3 n3 c3, .slice none 0 0] 30) = w4 at *
  generalize w3.heap.size = G at *
  refine (pick_c g lo (p + 30) 5 _ st4.rdr (by omega) (by omega)).mono ?_
  rintro e w5 ⟨x5, rfl, hx5, hr5, hc5⟩
  have hx4 := hx5 (by omega)
  have hx44 : x5 ≤ 4 := by omega
  have hex : KEx w w5 lo g p G x5 := by
    have st5 := st4.pick hr5 hc5
    exact ⟨A3, n3, c3, xs, none, 0, 0, [], ⟨st5.two, st5.rd, st5.fresh, st5.ne, st5.own, st5.rdr.more (by omega), st5.chg, st5.res, st5.ty, st5.now, st5.hG, st5.hg⟩, hs3, Nat.zero_le _⟩
  clear st4 hr5 hc5 hx5
  go_wp2_with fail
  go_loopw [7] (fun t wr => ∃ k : Nat, k ≤ 4 ∧ t = .int .i64 k ∧ KEx w wr lo g p G k) (fun t _ => (intOf t).toNat)
  case atStart => exact ⟨x5, hx44, rfl, hex⟩
  case round =>
    clear hex hs3 hl3
    obtain ⟨k, hk, rfl, A, n, c, xs, P, m, d, yss, st, hx7, hy4⟩ := hrel
    by_cases hlt : 0 < k
    · have hn7 : n ≤ 7 := by have := st.rd.1.len; omega
      have hGw := st.two.1
      have hGg := st.hG
      have hgw := st.rdr.lt
      go_upto_region 5 with fail
      go_cut [8, 9] from 18 to 32 (fun s8 s9 wx => CutK wr wx (4 - (k - 1)) lo g (p + 40 + 100 * (5 - k) + 100) s8 s9)
      case first =>
        have K0 := st.dr
        have hzd : wr.heap.size ≤ wr.drew.heap.size := Nat.le_refl _
        have hGd : G < wr.drew.heap.size := hGw
        have Y0 := Lib.hid (show World.cell? wr.drew ⟨G, 0, none⟩ = some (.slice A n c) ∧ World.cell? wr.drew ⟨G, 1, none⟩ = some (.slice P m d) from ⟨K0.two.2.1, K0.two.2.2.1⟩)
        have KA0 : Hid (∀ o, World.cell? (wr.drew.alloc o) ⟨G, 0, none⟩ = some (.slice A n c) ∧ World.cell? (wr.drew.alloc o) ⟨G, 1, none⟩ = some (.slice P m d)) := Lib.hid (fun o => ⟨((below_new wr.drew o).cell (p := ⟨G, 0, none⟩) hGd).trans K0.two.2.1, ((below_new wr.drew o).cell (p := ⟨G, 1, none⟩) hGd).trans K0.two.2.2.1⟩)
        go_region_held3 (fun w' => World.cell? w' ⟨G, 0, none⟩ = some (.slice A n c) ∧ World.cell? w' ⟨G, 1, none⟩ = some (.slice P m d))
          (first
            | exact Y0.out
            | exact KA0.out _
            | exact Y5.out
            | exact KA5.out _
            | exact Y6.out
            | exact KA6.out _
            | exact KF.out _ _ _ (by omega))
          (first
            | (go_at_call 62; refine (deed_c g lo (p + 40 + 100 * (5 - k)) n c A xs _ (by first | exact K0.rdr | exact K0.rdr.al _) (by first | exact K0.rd.1 | exact K0.rd.1.up (below_new _ _)) (by omega) hn7).mono ?_; rintro e w5 ⟨kd, a, b, s, rfl, hs7, hr5, hx5⟩; have hc5 : Chg g (g + 1) wr.drew w5 := (by first | exact hx5 | exact ((Chg.refl g (g + 1) wr.drew).allocNew _).chg_ hx5 (.inr ⟨Nat.le_refl _, Nat.le_refl _⟩)); (try have tz5 : Two w5 wr.heap.size (.slice none 0 0) (.slice none 0 0) := (Two.made wr.drew _ _ _).chg hx5 (.inr (by omega))); (try have hlz5 := tz5.1); have K5 := K0.pick hr5 hc5; have hz5 := hc5.size; have Y5 := Lib.hid (show World.cell? w5 ⟨G, 0, none⟩ = some (.slice A n c) ∧ World.cell? w5 ⟨G, 1, none⟩ = some (.slice P m d) from ⟨K5.two.2.1, K5.two.2.2.1⟩); have KA5 : Hid (∀ o, World.cell? (w5.alloc o) ⟨G, 0, none⟩ = some (.slice A n c) ∧ World.cell? (w5.alloc o) ⟨G, 1, none⟩ = some (.slice P m d)) := Lib.hid (fun o => ⟨((below_new w5 o).cell (p := ⟨G, 0, none⟩) K5.two.1).trans K5.two.2.1, ((below_new w5 o).cell (p := ⟨G, 1, none⟩) K5.two.1).trans K5.two.2.2.1⟩); have KD := fun W hW => sDeskDo_c A P n c m d xs yss kd a b s W hW (by omega); have hdl := doX_len xs yss kd a b s; have hd7 := doX_seven xs yss kd a b s; generalize doX xs yss kd a b s = R at KD hdl hd7; obtain ⟨R1, R2, R3⟩ := R; (try simp only at hdl hd7); clear hx5)
            | (go_at_call 10; refine (KD _ (by first | exact K5.rd | exact ⟨K5.rd.1.up (below_new _ _), K5.rd.2.up (below_new _ _)⟩)).mono ?_; rintro e w6 ⟨A6, n6, c6, P6, m6, d6, rfl, h6, hx6, hf6, ho6, hn6⟩; have hb6 : Below w5.heap.size w5 w6 := (by first | exact hx6 | exact below_of_alloc hx6); have ho6q := ho6 (by show R2.length < 8; omega); have hfz : FreshD w6 w5.heap.size A6 n6 c6 P6 m6 d6 := (by first | exact hf6 | exact hf6.more (below_new w5 _).size); have hoz : OwnRR w6 w5.heap.size (.slice P6 m6 d6) R2 := (by first | exact ho6q | exact ho6q.moreB (below_new w5 _).size); have hnz : OwnIn w6 w5.heap.size w6.heap.size A6 n6 c6 R1 := (by first | exact hn6 | exact hn6.wide (below_new w5 _).size (Nat.le_refl _)); (try have hne6 : OwnIn w6 (w5.heap.size + 1) w6.heap.size A6 n6 c6 R1 := hn6.wide (by simp) (Nat.le_refl _)); (try have hfe : FreshD w6 (w5.heap.size + 1) A6 n6 c6 P6 m6 d6 := hf6.more (by simp)); (try have hoe : OwnRR w6 (w5.heap.size + 1) (.slice P6 m6 d6) R2 := ho6q.moreB (by simp)); (try have tz6 : Two w6 w5.heap.size (.slice none 0 0) (.slice none 0 0) := (Two.made w5 _ _ _).up hx6); (try have ty6 := tz5.up hx6); have K6 := K5.up hb6; have hz6 := hb6.size; have Y6 := Lib.hid (show World.cell? w6 ⟨G, 0, none⟩ = some (.slice A n c) ∧ World.cell? w6 ⟨G, 1, none⟩ = some (.slice P m d) from ⟨K6.two.2.1, K6.two.2.2.1⟩); have KA6 : Hid (∀ o, World.cell? (w6.alloc o) ⟨G, 0, none⟩ = some (.slice A n c) ∧ World.cell? (w6.alloc o) ⟨G, 1, none⟩ = some (.slice P m d)) := Lib.hid (fun o => ⟨((below_new w6 o).cell (p := ⟨G, 0, none⟩) K6.two.1).trans K6.two.2.1, ((below_new w6 o).cell (p := ⟨G, 1, none⟩) K6.two.1).trans K6.two.2.2.1⟩); have KF : Hid (∀ g u v, wr.heap.size ≤ g → World.cell? ((w6.setCell ⟨g, 0, none⟩ u).setCell ⟨g, 1, none⟩ v) ⟨G, 0, none⟩ = some (.slice A n c) ∧ World.cell? ((w6.setCell ⟨g, 0, none⟩ u).setCell ⟨g, 1, none⟩ v) ⟨G, 1, none⟩ = some (.slice P m d)) := Lib.hid (fun g u v hg => ⟨farc (by omega) K6.two.2.1, farc (by omega) K6.two.2.2.1⟩); have hcw : Chg g (g + 1) wr w6 := (((Chg.refl g (g + 1) wr).drewN 1).chg_ hc5 (.inr ⟨Nat.le_refl _, Nat.le_refl _⟩)).up_ hb6; (try obtain ⟨_, z0, z1q, z2, z3⟩ := id tz6); (try obtain ⟨_, z0, z1q, z2, z3⟩ := id ty6); clear hx6 hf6 ho6 hn6))
        all_goals
          go_wp2_with fail
          go_meet
          first
            | with_reducible exact cutK_last hcw K6.rdr h6 hfz hoz hnz (by omega) (by omega) (by omega)
            | with_reducible exact cutK_early hcw K6.rdr h6 hfe hoe hne6 (Nat.le_refl _) (by omega) (by omega) tz6 (by omega) (by omega)
            | with_reducible exact cutK_early hcw K6.rdr h6 hfz hoz hnz (by omega) (Nat.le_refl _) (by omega) ty6 (by omega) (by omega)
      case rest =>
        obtain ⟨g8, A6, n6, c6, xs6, P6, m6, d6, yss6, r3, rfl, rfl, hT8, hD8, hF8, hO8, hN8, hx6, hy6, hr8, hc8⟩ := hcut
        have st8 := st.pick hr8 hc8
        obtain ⟨_, v0, v1, v2, v3⟩ := id st8.two
        obtain ⟨_, u0, u1, _, _⟩ := id hT8
        have hz8 := hc8.size
        have hk1 : ((k : Int) - 1) = ((k - 1 : Nat) : Int) := by omega
        have hkq : p + 40 + 100 * (5 - k) + 100 ≤ p + 40 + 100 * (5 - (k - 1)) := by omega
        clear st
        rcases r3 with _ | _
        · have HX : Hid (KEx w wc lo g p G (k - 1)) := Lib.hid ⟨A, n, c, xs, P, m, d, yss, ⟨st8.two, st8.rd, st8.fresh, st8.ne, st8.own, st8.rdr.more hkq, st8.chg, st8.res, st8.ty, st8.now, st8.hG, st8.hg⟩, hx7, by omega⟩
          clear st8 hT8 hD8 hF8 hO8 hN8 hr8 hc8
          go_wp2_with fail
          go_roundw
          case rel => exact ⟨k - 1, by omega, by go_num, HX.out⟩
          case measure => simp [intOf]; omega
        · have hch : Chg G (G + 1) wc ((wc.setCell ⟨G, 0, none⟩ (.slice A6 n6 c6)).setCell ⟨G, 1, none⟩ (.slice P6 m6 d6)) :=
            ((Chg.refl _ _ wc).setCell (p := ⟨G, 0, none⟩) (Nat.le_refl _) (Nat.lt_succ_self _) _).setCell (p := ⟨G, 1, none⟩) (Nat.le_refl _) (Nat.lt_succ_self _) _
          have hG1 : G + 1 ≤ wr.heap.size := hGw
          have HX : Hid (KEx w ((wc.setCell ⟨G, 0, none⟩ (.slice A6 n6 c6)).setCell ⟨G, 1, none⟩ (.slice P6 m6 d6)) lo g p G (k - 1)) := Lib.hid ⟨A6, n6, c6, xs6, P6, m6, d6, yss6,
            ⟨(st8.two.set0 _).set1 _, hD8.chgF hF8 hch hG1, (hF8.chgF hD8 hch hG1).more (by omega), fun q hq => by have := hF8.2.1 q hq; omega, (hO8.chg hch hG1).moreB (by omega), (hr8.more hkq).chg hch (by omega) (.inl (by omega)), (st8.chg.setNew (p := ⟨G, 0, none⟩) (by show w.heap.size ≤ G; omega) _).setNew (p := ⟨G, 1, none⟩) (by show w.heap.size ≤ G; omega) _, st8.res.chg hch (.inl hGg), (st8.ty.set_ _).set_ _, (hN8.chg hch (.inr hG1)).wide (by omega) hch.size, hGg, hgl⟩, hx6, hy6⟩
          clear st8 hT8 hD8 hF8 hO8 hN8 hr8 hc8 hch
          go_wp2_with fail
          go_roundw
          case rel => exact ⟨k - 1, by omega, by go_num, HX.out⟩
          case measure => simp [intOf]; omega
    · obtain rfl : k = 0 := by omega
      have hn7 : n ≤ 7 := by have := st.rd.1.len; omega
      go_wp2_with fail
      refine (odd_c g lo (p + 40 + 100 * (5 - 0)) N _ st.rdr (by omega) (by omega)).mono ?_
      rintro e w20 ⟨bo, rfl, hr20, hc20⟩
      have st20 := st.pick hr20 hc20
      clear st hr20 hc20
      rcases bo with _ | _
      · have hend := desk_end (p := p) st20.rd st20.fresh (st20.rdr.more (by omega)) st20.chg st20.res st20.hg hn7
        have hT := (st20.res.set0 (.slice A n c)).set1 (.slice P m d)
        obtain ⟨_, t0, t1, t2, t3⟩ := id st20.two
        obtain ⟨_, r0, r1, r2, r3⟩ := id st20.res
        have HE := Lib.hid hend
        have HT := Lib.hid hT
        clear hend hT st20
        go_wp2_with fail
        (try simp only [Exit.inBlock, Exit.then])
        refine bodyPost_ret (v := .agg #[.slice A n c, .slice P m d]) ?_ rfl HE.out
        exact results_two (p := 4) rfl _ _ w.heap.size _ _ _ rfl HT.out Try.underlying30 rfl desk_size
      · go_wp2_with fail
        refine (pick_c g lo (p + 40 + 100 * (5 - 0) + 1) 3 _ st20.rdr (by omega) (by omega)).mono ?_
        rintro e w22 ⟨x22, rfl, hx22, hr22, hc22⟩
        have st := st20.pick hr22 hc22
        have hx3 := hx22 (by omega)
        clear st20 hr22 hc22 hx22
        have hcase : x22 = 0 ∨ x22 = 1 ∨ x22 = 2 := by omega
        rcases hcase with rfl | rfl | rfl
        · obtain ⟨he1, he2⟩ := desk_one (p := p) st (by omega)
          obtain ⟨_, t0, t1, t2, t3⟩ := id st.two
          obtain ⟨_, r0, r1, r2, r3⟩ := id st.res
          have HE := Lib.hid he1
          have HT := Lib.hid he2
          clear he1 he2 st
          go_wp2_with fail
          (try simp only [Exit.inBlock, Exit.then])
          refine bodyPost_ret (v := .agg #[.slice (some ⟨w22.heap.size, 0, none⟩) 1 1, .slice P m d]) ?_ rfl HE.out
          exact results_two (p := 4) rfl _ _ w.heap.size _ _ _ rfl HT.out Try.underlying30 rfl desk_size
        · have hA0 := below_new w22 (.cells #[] 3)
          have st1 := st.up hA0
          have hY : OwnIn (w22.alloc (.cells #[] 3)) (w.heap.size + 1) (w22.alloc (.cells #[] 3)).heap.size (some ⟨w22.heap.size, 0, none⟩) 0 0 [] :=
            ⟨⟨rfl, OwnV.made w22 (w.heap.size + 1) #[] (by have := st.two.1; have := st.hG; omega) rfl⟩, fun k hk => by cases hk; simp⟩
          have hyl : yss.length ≤ 1000000000 := by omega
          have hneG : (Value.slice P m d).ownBlock ≠ some G := fun e => st.ne G e rfl
          have hneI := ne_outer (show (w22.alloc (.cells #[] 3)).ownsRow _ 22 1 (.slice P m d) _ _ from (Classical.choose_spec st1.own).1) st1.now
          have hGz := st1.two.1
          have hGs := st.hG
          obtain ⟨_, t0, t1, t2, t3⟩ := id st1.two
          obtain ⟨_, b0, b1, b2, b3⟩ := id st.two
          have hO1 := st1.own
          have hB1 : w.heap.size + 1 ≤ (w22.alloc (.cells #[] 3)).heap.size := by omega
          go_wp2_with (
            at_builtin; refine app_rg (w22.alloc (.cells #[] 3)) (some ⟨w22.heap.size, 0, none⟩) 0 0 rfl _ _ rfl (w.heap.size + 1) _ yss rfl hO1 (by rw [World.size_alloc]; rfl) [] hY hyl hB1 ?_; intro v6 w6 hO6 hg6
            have hbA5 := below_new (w22.alloc (.cells #[] 3)) (.cells #[.slice (some ⟨w22.heap.size, 0, none⟩) 0 0] 22)
            have stA := st1.up hbA5
            have hT6 := stA.two.grown hg6 hneG
            have hY6 : Ty w6 G := stA.ty.of (hg6.block G stA.two.1 (fun e => hneG e.symm))
            have hb6 : Below (w.heap.size + 1) _ w6 := (Below.refl (w.heap.size + 1) _).grown hg6 (by have := stA.two.1; omega) (fun k hk => hO1.lt6 k hk)
            have hN6 := stA.now.grown hg6 hneI
            have hr6 := stA.rdr.below hb6 (by omega)
            have hR6 := stA.res.below hb6 (by omega)
            have hc6 := stA.chg.then_ (hb6.mono (by omega))
            have hO6' := hO6.form
            obtain ⟨P6, d6, rfl, hro6⟩ := hO6'
            have hcp6 := hro6.cap
            have hmx6 := hro6.max
            unfold maxLen at hmx6
            have hl6 : (yss ++ [[]]).length = yss.length + 1 := by rw [List.length_append]; rfl
            have HL6 := Lib.hid hl6
            generalize (yss ++ [[]]).length = M6 at *
            have hcG : Chg G (G + 1) w6 (w6.setCell ⟨G, 1, none⟩ (.slice P6 M6 d6)) := (Chg.refl G (G + 1) w6).setCell (p := ⟨G, 1, none⟩) (Nat.le_refl _) (Nat.lt_succ_self _) _
            have hO7 := hO6.ty hY6 hcG
            have hN7 := hN6.ty hY6 hcG
            have hD7 : RdD (w6.setCell ⟨G, 1, none⟩ (.slice P6 M6 d6)) (w6.setCell ⟨G, 1, none⟩ (.slice P6 M6 d6)).heap.size A n c xs P6 M6 d6 (yss ++ [[]]) := ⟨hN7.rd, hO7.rdr⟩
            have hF7 : FreshD (w6.setCell ⟨G, 1, none⟩ (.slice P6 M6 d6)) (w.heap.size + 1) A n c P6 M6 d6 := hO7.fresh hN7 (Nat.le_refl _)
            have hlo := st.rdr.lo
            have hgw := st.hg
            have hend := desk_end (p := p) hD7 hF7 ((hr6.chg hcG (by omega) (.inl (by omega))).more (by omega)) (hc6.setNew (p := ⟨G, 1, none⟩) (by show w.heap.size ≤ G; omega) (.slice P6 M6 d6)) (hR6.chg hcG (.inl hGs)) hgw hn7
            have hTe := ((hR6.chg hcG (.inl hGs)).set0 (.slice A n c)).set1 (.slice P6 M6 d6)
            have HE := Lib.hid hend
            have HT := Lib.hid hTe
            obtain ⟨_, t0, t1, t2, t3⟩ := id hT6
            obtain ⟨_, r0, r1, r2, r3⟩ := id hR6
            clear hend hTe hD7 hF7 hO7 hN7 hcG hO6 hro6 hN6 hT6 hR6 hc6 hr6 hb6 stA st1 st hg6 hY6 hY hO1 hl6 hneG hneI hbA5 hA0)
          (try simp only [Exit.inBlock, Exit.then])
          refine bodyPost_ret (v := .agg #[.slice A n c, .slice P6 M6 d6]) ?_ rfl HE.out
          exact results_two (p := 4) rfl _ _ w.heap.size _ _ _ rfl HT.out Try.underlying30 rfl desk_size
        · have hend := desk_end (w := w) (p := p) (A := none) (n := 0) (c := 0) (xs := []) (P := none) (m := 0) (d := 0) (yss := []) (wr := w22) ⟨Rd.nil_ _ _, RdR.nil_ _ _⟩ (FreshD.nil_ _ _) (st.rdr.more (by omega)) st.chg st.res st.hg (by omega)
          have hT := (st.res.set0 (.slice none 0 0)).set1 (.slice none 0 0)
          obtain ⟨_, r0, r1, r2, r3⟩ := id st.res
          have HE := Lib.hid hend
          have HT := Lib.hid hT
          clear hend hT st
          go_wp2_with fail
          (try simp only [Exit.inBlock, Exit.then])
          refine bodyPost_ret (v := .agg #[.slice none 0 0, .slice none 0 0]) ?_ rfl HE.out
          exact results_two (p := 4) rfl _ _ w.heap.size _ _ _ rfl HT.out Try.underlying30 rfl desk_size
end Go.Proofs.Ytnpjelekpkgbpaa
