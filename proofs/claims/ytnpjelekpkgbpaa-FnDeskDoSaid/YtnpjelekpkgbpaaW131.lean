/- Walk: DrawDeskDo (spec). -/
import Derived.Test.YtnpjelekpkgbpaaW106
namespace Go.Proofs.Ytnpjelekpkgbpaa
set_option linter.unusedVariables false
open Go.RowKit

theorem results_cell_cell {fn : Func} {p q : Tmp} {ty ty2 : TypeId} (h : fn.results = #[.cell p ty, .cell q ty2]) (tmps : Array Value) (P : Program) (w : World) :
    (results fn tmps).run P w =
      ((asAddr (tmps.getD p undef)).run P w).andThen fun a w₁ => ((loadVar ty a).run P w₁).andThen fun v w₂ => ((asAddr (tmps.getD q undef)).run P w₂).andThen fun a2 w₃ => ((loadVar ty2 a2).run P w₃).andThen fun v2 w₄ => .ok (.tuple #[v, v2]) w₄ := by
  simp only [results, h]
  simp [Sem.run_bind, Result.andThen]
theorem results_two_four {fn : Func} {p q : Tmp} {ty ty2 : TypeId} {P : Program} (h : fn.results = #[.cell p ty, .cell q ty2]) (tmps : Array Value) (w : World) (g g2 : Nat) (x y a b c e : Value) (d d2 : TypeDesc)
    (hp : tmps.getD p undef = .pointer (some ⟨g, 0, none⟩)) (hq : tmps.getD q undef = .pointer (some ⟨g2, 0, none⟩)) (hg : Two w g x y) (hg2 : w.cell? ⟨g2, 0, none⟩ = some a ∧ w.cell? ⟨g2, 1, none⟩ = some b ∧ w.cell? ⟨g2, 2, none⟩ = some c ∧ w.cell? ⟨g2, 3, none⟩ = some e) (hu : P.underlying ty = some d) (hd : isS d = true) (hi : (P.info? ty).map (·.size) = some 2)
    (hu2 : P.underlying ty2 = some d2) (hd2 : isS d2 = true) (hi2 : (P.info? ty2).map (·.size) = some 4) :
    (results fn tmps).run P w = .ok (.tuple #[.agg #[x, y], .agg #[a, b, c, e]]) w := by
  have hp' : tmps[p]?.getD undef = .pointer (some ⟨g, 0, none⟩) := by simpa using hp
  have hq' : tmps[q]?.getD undef = .pointer (some ⟨g2, 0, none⟩) := by simpa using hq
  rw [results_cell_cell h]
  simp [hp', hq', asAddr, load_two hg hu hd hi, load_four hg2 hu2 hd2 hi2, Result.andThen]
/-- The desk that is drawn, in a block of its own; the two results' blocks. -/
structure DoSt (w wx : World) (L : Nat) (u v : Value) (kd a b : Int) (s : ByteArray) (A : Option Addr) (n c : Nat) (xs : List Int) (P : Option Addr) (m d : Nat) (yss : List (List Int)) : Prop where
  rd : RdD wx wx.heap.size A n c xs P m d yss
  fr : FreshD wx L A n c P m d
  r : Two wx w.heap.size u v
  q : FourF wx (w.heap.size + 1) kd a b s
  bw : Below w.heap.size w wx
  hL : w.heap.size + 2 ≤ L
section
variable {w wx w' : World} {L : Nat} {u v : Value} {kd a b : Int} {s : ByteArray} {A P : Option Addr} {n c m d lo hi : Nat} {xs : List Int} {yss : List (List Int)}
theorem DoSt.chg (h : DoSt w wx L u v kd a b s A n c xs P m d yss) (hc : Chg lo hi wx w') (h1 : w.heap.size + 2 ≤ lo) (h2 : hi ≤ L) : DoSt w w' L u v kd a b s A n c xs P m d yss :=
  ⟨h.rd.chgF h.fr hc h2, h.fr.chgF h.rd hc h2, h.r.chg hc (.inl (by omega)), h.q.chg hc (.inl (by omega)), h.bw.trans (hc.belowLo (B := w.heap.size) (by omega) (by have := h.bw.size; omega)), h.hL⟩
theorem DoSt.setR (h : DoSt w wx L u v kd a b s A n c xs P m d yss) (x y : Value) : DoSt w ((wx.setCell ⟨w.heap.size, 0, none⟩ x).setCell ⟨w.heap.size, 1, none⟩ y) L x y kd a b s A n c xs P m d yss := by
  have hc : Chg w.heap.size (w.heap.size + 1) wx ((wx.setCell ⟨w.heap.size, 0, none⟩ x).setCell ⟨w.heap.size, 1, none⟩ y) :=
    ((Chg.refl _ _ wx).setCell (p := ⟨w.heap.size, 0, none⟩) (Nat.le_refl _) (Nat.lt_succ_self _) _).setCell (p := ⟨w.heap.size, 1, none⟩) (Nat.le_refl _) (Nat.lt_succ_self _) _
  have := h.hL
  exact ⟨h.rd.chgF h.fr hc (by omega), h.fr.chgF h.rd hc (by omega), (h.r.set0 _).set1 _, h.q.chg hc (.inr (Nat.le_refl _)), h.bw.trans (hc.belowLo (B := w.heap.size) (Nat.le_refl _) (by have := h.bw.size; omega)), h.hL⟩
theorem DoSt.setQ (h : DoSt w wx L u v kd a b s A n c xs P m d yss) (x y z : Int) (o : ByteArray) : DoSt w ((((wx.setCell ⟨w.heap.size + 1, 0, none⟩ (.int .i64 x)).setCell ⟨w.heap.size + 1, 1, none⟩ (.int .i64 y)).setCell ⟨w.heap.size + 1, 2, none⟩ (.int .i64 z)).setCell ⟨w.heap.size + 1, 3, none⟩ (.string o)) L u v x y z o A n c xs P m d yss := by
  have hc : Chg (w.heap.size + 1) (w.heap.size + 2) wx ((((wx.setCell ⟨w.heap.size + 1, 0, none⟩ (.int .i64 x)).setCell ⟨w.heap.size + 1, 1, none⟩ (.int .i64 y)).setCell ⟨w.heap.size + 1, 2, none⟩ (.int .i64 z)).setCell ⟨w.heap.size + 1, 3, none⟩ (.string o)) :=
    ((((Chg.refl _ _ wx).setCell (p := ⟨w.heap.size + 1, 0, none⟩) (Nat.le_refl _) (Nat.lt_succ_self _) _).setCell (p := ⟨w.heap.size + 1, 1, none⟩) (Nat.le_refl _) (Nat.lt_succ_self _) _).setCell (p := ⟨w.heap.size + 1, 2, none⟩) (Nat.le_refl _) (Nat.lt_succ_self _) _).setCell (p := ⟨w.heap.size + 1, 3, none⟩) (Nat.le_refl _) (Nat.lt_succ_self _) _
  have := h.hL
  exact ⟨h.rd.chgF h.fr hc (by omega), h.fr.chgF h.rd hc (by omega), h.r.chg hc (.inl (Nat.lt_succ_self _)), h.q.set _ _ _ _, h.bw.trans (hc.belowLo (B := w.heap.size) (Nat.le_succ _) (by have := h.bw.size; omega)), h.hL⟩
end
def DrawnDo (w : World) (e : Ending) (w' : World) : Prop :=
  ∃ A n c xs P m d yss kd a b s, e = .returned (.tuple #[.agg #[.slice A n c, .slice P m d], .agg #[.int .i64 kd, .int .i64 a, .int .i64 b, .string s]]) ∧ RdD w' w'.heap.size A n c xs P m d yss ∧ s.size ≤ 7 ∧ Below w.heap.size w w'
theorem do_end {fn : Func} (hfn : fn.results = #[.cell 2 30, .cell 3 34]) {w wx : World} {L : Nat} {kd a b : Int} {s : ByteArray} {A P : Option Addr} {n c m d : Nat} {xs : List Int} {yss : List (List Int)} (h : DoSt w wx L (.slice A n c) (.slice P m d) kd a b s A n c xs P m d yss) (hs : s.size ≤ 7) :
    (∀ tmps : Array Value, tmps.getD 2 undef = .pointer (some ⟨w.heap.size, 0, none⟩) → tmps.getD 3 undef = .pointer (some ⟨w.heap.size + 1, 0, none⟩) → (results fn tmps).run Try.prog wx = .ok (.tuple #[.agg #[.slice A n c, .slice P m d], .agg #[.int .i64 kd, .int .i64 a, .int .i64 b, .string s]]) wx) ∧ DrawnDo w (.returned (.tuple #[.agg #[.slice A n c, .slice P m d], .agg #[.int .i64 kd, .int .i64 a, .int .i64 b, .string s]])) wx :=
  ⟨fun tmps h1 h2 => results_two_four (p := 2) (q := 3) hfn tmps wx w.heap.size (w.heap.size + 1) _ _ _ _ _ _ _ _ h1 h2 h.r ⟨h.q.1.2.1, h.q.1.2.2.1, h.q.1.2.2.2.1, h.q.1.2.2.2.2⟩ Try.underlying30 rfl desk_size Try.underlying34 rfl deed_size,
   ⟨A, n, c, xs, P, m, d, yss, kd, a, b, s, rfl, h.rd, hs, h.bw⟩⟩
set_option maxRecDepth 100000 in
set_option maxHeartbeats 3200000 in
theorem drawDeskDo_c (A : Option Addr) (n c : Nat) (bs : List Nat) (w : World) (h : RdB w w.heap.size A n c bs) :
    Calls Try.prog 29 #[.slice A n c] w (DrawnDo w) := by
  have hR0 := Two.made w 30 (.slice none 0 0) (.slice none 0 0)
  have hb0 := below_new w (.cells #[.slice none 0 0, .slice none 0 0] 30)
  have hQ1 := FourF.made (w.alloc (.cells #[.slice none 0 0, .slice none 0 0] 30)) 34 0 0 0 ⟨#[]⟩
  have hb1 := below_new (w.alloc (.cells #[.slice none 0 0, .slice none 0 0] 30)) (.cells #[.int .i64 0, .int .i64 0, .int .i64 0, .string ⟨#[]⟩] 34)
  have hR1 := hR0.up hb1
  have hbw1 := bt hb0 hb1
  have hB1 := h.below hbw1
  have hz1 : w.heap.size + 2 ≤ ((w.alloc (.cells #[.slice none 0 0, .slice none 0 0] 30)).alloc (.cells #[.int .i64 0, .int .i64 0, .int .i64 0, .string ⟨#[]⟩] 34)).heap.size := by simp
  rw [World.size_alloc] at hQ1
  clear hR0 hb0 hb1
  go_enter Try.func29, Try.ntmps29
  go_wp2_with fail
  generalize (w.alloc (.cells #[.slice none 0 0, .slice none 0 0] 30)).alloc (.cells #[.int .i64 0, .int .i64 0, .int .i64 0, .string ⟨#[]⟩] 34) = w1 at *
  refine (openB_c w.heap.size A n c bs _ hB1 (by have := hbw1.size; omega)).mono ?_
  rintro e w2 ⟨rfl, hr2, hb2⟩
  have hR2 := hR1.up hb2
  have hQ2 := hQ1.up hb2
  have hz2 := hb2.size
  have hbw2 := bt hbw1 hb2
  clear hR1 hQ1 hbw1 hB1 hb2
  go_wp2_with fail
  refine (desk_c w1.heap.size w.heap.size 0 12 _ hr2 (by omega) (by omega)).mono ?_
  rintro e w3 ⟨A3, n3, c3, xs, P3, m3, d3, yss, rfl, hD, hF, hn, hr3, hc3⟩
  have hgl := hr2.lt
  have hR3 := hR2.chg hc3 (.inl (by omega))
  have hQ3 := hQ2.chg hc3 (.inl (by omega))
  have hB3 := hbw2.trans (hc3.belowLo (B := w.heap.size) (by omega) (by omega))
  have hz3 := hc3.size
  have hbA := below_new w3 (.cells #[.slice A3 n3 c3, .slice P3 m3 d3] 30)
  have hT4 := Two.made w3 30 (.slice A3 n3 c3) (.slice P3 m3 d3)
  have hz4 := hbA.size
  have hr4 := hr3.al (.cells #[.slice A3 n3 c3, .slice P3 m3 d3] 30)
  have hD4 : RdD _ _ A3 n3 c3 xs P3 m3 d3 yss := ⟨hD.1.up hbA, hD.2.up hbA⟩
  have hK4 : DoSt w _ (w2.heap.size + 1) _ _ _ _ _ _ A3 n3 c3 xs P3 m3 d3 yss := ⟨hD4, hF.upF hD hbA, hR3.up hbA, hQ3.up hbA, bt hB3 hbA, by omega⟩
  clear hR2 hr2 hc3 hR3 hQ2 hQ3 hB3 hbA hr3 hbw2 hD hF hD4
  go_upto_region 3 with fail
  generalize w3.alloc (.cells #[.slice A3 n3 c3, .slice P3 m3 d3] 30) = w5 at *
  have hK8 := hK4.setR (.slice A3 n3 c3) (.slice P3 m3 d3)
  have hC8 : Chg w.heap.size (w.heap.size + 1) w5 ((w5.setCell ⟨w.heap.size, 0, none⟩ (.slice A3 n3 c3)).setCell ⟨w.heap.size, 1, none⟩ (.slice P3 m3 d3)) :=
    ((Chg.refl _ _ w5).setCell (p := ⟨w.heap.size, 0, none⟩) (Nat.le_refl _) (Nat.lt_succ_self _) _).setCell (p := ⟨w.heap.size, 1, none⟩) (Nat.le_refl _) (Nat.lt_succ_self _) _
  have hr8 := hr4.chg hC8 (Nat.le_refl _) (.inr (by omega))
  have hV8 := hT4.chg hC8 (.inr (by omega))
  have hz8 := hC8.size
  have hne : ¬ w3.heap.size = w.heap.size := by omega
  have hne' : ¬ w.heap.size = w3.heap.size := by omega
  have hnq' : ¬ w.heap.size + 1 = w3.heap.size := by omega
  have Y0 := Lib.hid (show World.cell? w5.drew ⟨w3.heap.size, 0, none⟩ = some (.slice A3 n3 c3) ∧ World.cell? w5.drew ⟨w3.heap.size, 1, none⟩ = some (.slice P3 m3 d3) from ⟨hT4.2.1, hT4.2.2.1⟩)
  have KF : Hid (∀ (wz : World) (y z : Value), World.cell? wz ⟨w3.heap.size, 0, none⟩ = some (.slice A3 n3 c3) ∧ World.cell? wz ⟨w3.heap.size, 1, none⟩ = some (.slice P3 m3 d3) → World.cell? ((wz.setCell ⟨w.heap.size, 0, none⟩ y).setCell ⟨w.heap.size, 1, none⟩ z) ⟨w3.heap.size, 0, none⟩ = some (.slice A3 n3 c3) ∧ World.cell? ((wz.setCell ⟨w.heap.size, 0, none⟩ y).setCell ⟨w.heap.size, 1, none⟩ z) ⟨w3.heap.size, 1, none⟩ = some (.slice P3 m3 d3)) := Lib.hid (fun wz y z h => by rw [World.cell?_setCell_other _ _ _ _ (by intro e; exact hne' (congrArg Addr.block e)), World.cell?_setCell_other _ _ _ _ (by intro e; exact hne' (congrArg Addr.block e)), World.cell?_setCell_other _ _ _ _ (by intro e; exact hne' (congrArg Addr.block e)), World.cell?_setCell_other _ _ _ _ (by intro e; exact hne' (congrArg Addr.block e))]; exact h)
  have KG : Hid (∀ (wz : World) (x y z u : Value), World.cell? wz ⟨w3.heap.size, 0, none⟩ = some (.slice A3 n3 c3) ∧ World.cell? wz ⟨w3.heap.size, 1, none⟩ = some (.slice P3 m3 d3) → World.cell? ((((wz.setCell ⟨w.heap.size + 1, 0, none⟩ x).setCell ⟨w.heap.size + 1, 1, none⟩ y).setCell ⟨w.heap.size + 1, 2, none⟩ z).setCell ⟨w.heap.size + 1, 3, none⟩ u) ⟨w3.heap.size, 0, none⟩ = some (.slice A3 n3 c3) ∧ World.cell? ((((wz.setCell ⟨w.heap.size + 1, 0, none⟩ x).setCell ⟨w.heap.size + 1, 1, none⟩ y).setCell ⟨w.heap.size + 1, 2, none⟩ z).setCell ⟨w.heap.size + 1, 3, none⟩ u) ⟨w3.heap.size, 1, none⟩ = some (.slice P3 m3 d3)) := Lib.hid (fun wz x y z u h => by rw [World.cell?_setCell_other _ _ _ _ (by intro e; exact hnq' (congrArg Addr.block e)), World.cell?_setCell_other _ _ _ _ (by intro e; exact hnq' (congrArg Addr.block e)), World.cell?_setCell_other _ _ _ _ (by intro e; exact hnq' (congrArg Addr.block e)), World.cell?_setCell_other _ _ _ _ (by intro e; exact hnq' (congrArg Addr.block e)), World.cell?_setCell_other _ _ _ _ (by intro e; exact hnq' (congrArg Addr.block e)), World.cell?_setCell_other _ _ _ _ (by intro e; exact hnq' (congrArg Addr.block e)), World.cell?_setCell_other _ _ _ _ (by intro e; exact hnq' (congrArg Addr.block e)), World.cell?_setCell_other _ _ _ _ (by intro e; exact hnq' (congrArg Addr.block e))]; exact h)
  have K0 : DoSt w w5.drew (w2.heap.size + 1) _ _ _ _ _ _ A3 n3 c3 xs P3 m3 d3 yss := ⟨hK4.rd, hK4.fr, hK4.r, hK4.q, hK4.bw.drew, hK4.hL⟩
  have K8 : DoSt w (World.drew ((w5.setCell ⟨w.heap.size, 0, none⟩ (.slice A3 n3 c3)).setCell ⟨w.heap.size, 1, none⟩ (.slice P3 m3 d3))) (w2.heap.size + 1) _ _ _ _ _ _ A3 n3 c3 xs P3 m3 d3 yss := ⟨hK8.rd, hK8.fr, hK8.r, hK8.q, hK8.bw.drew, hK8.hL⟩
  have KR0 : Rd w5.drew w5.drew.heap.size A3 n3 c3 xs := K0.rd.1
  have KR8 : Rd (World.drew ((w5.setCell ⟨w.heap.size, 0, none⟩ (.slice A3 n3 c3)).setCell ⟨w.heap.size, 1, none⟩ (.slice P3 m3 d3))) (World.drew ((w5.setCell ⟨w.heap.size, 0, none⟩ (.slice A3 n3 c3)).setCell ⟨w.heap.size, 1, none⟩ (.slice P3 m3 d3))).heap.size A3 n3 c3 xs := K8.rd.1
  have J0 : Rdr w5.drew w.heap.size w1.heap.size (0 + 1000) := hr4
  have J8 : Rdr (World.drew ((w5.setCell ⟨w.heap.size, 0, none⟩ (.slice A3 n3 c3)).setCell ⟨w.heap.size, 1, none⟩ (.slice P3 m3 d3))) w.heap.size w1.heap.size (0 + 1000) := hr8
  have V00 := Lib.hid (show Two w5.drew w3.heap.size (.slice A3 n3 c3) (.slice P3 m3 d3) from hT4)
  have V88 := Lib.hid (show Two (World.drew ((w5.setCell ⟨w.heap.size, 0, none⟩ (.slice A3 n3 c3)).setCell ⟨w.heap.size, 1, none⟩ (.slice P3 m3 d3))) w3.heap.size (.slice A3 n3 c3) (.slice P3 m3 d3) from hV8)
  obtain ⟨_, r0, r1, r2, r3⟩ := id K0.r
  have hfn : (Try.f29).results = #[.cell 2 30, .cell 3 34] := rfl
  clear hK4 hK8 hC8 hr8 hV8 hr4 hT4
  go_region_held3 (fun w' => World.cell? w' ⟨w3.heap.size, 0, none⟩ = some (.slice A3 n3 c3) ∧ World.cell? w' ⟨w3.heap.size, 1, none⟩ = some (.slice P3 m3 d3))
    (first
      | with_reducible exact Y0.out
      | with_reducible exact YY6.out
      | with_reducible exact KF.out _ _ _ Y0.out
      | with_reducible exact KF.out _ _ _ YY6.out
      | with_reducible exact KG.out _ _ _ _ _ YY6.out
      | with_reducible exact KG.out _ _ _ _ _ (KF.out _ _ _ YY6.out)
      | with_reducible exact KF.out _ _ _ (KG.out _ _ _ _ _ YY6.out))
    (first
      | (go_at_call 62; refine (deed_c w1.heap.size w.heap.size (0 + 1000) n3 c3 A3 xs _ (by first | with_reducible exact J0 | with_reducible exact J8) (by first | with_reducible exact KR0 | with_reducible exact KR8) (by omega) hn).mono ?_; rintro e w6 ⟨kd, a, b, s, rfl, hs7, hr6, hc6⟩; (first | (have K6 := K0.chg hc6 (by omega) (by omega); have hV6 := V00.out.chg hc6 (.inr (by omega))) | (have K6 := K8.chg hc6 (by omega) (by omega); have hV6 := V88.out.chg hc6 (.inr (by omega)))); have hz6 := hc6.size; obtain ⟨_, s0, s1, s2, s3⟩ := id K6.r; obtain ⟨⟨_, q0, q1, q2, q3⟩, q4, q5, q6, q7⟩ := id K6.q; have YY6 := Lib.hid (show World.cell? w6 ⟨w3.heap.size, 0, none⟩ = some (.slice A3 n3 c3) ∧ World.cell? w6 ⟨w3.heap.size, 1, none⟩ = some (.slice P3 m3 d3) from ⟨hV6.2.1, hV6.2.2.1⟩); (try have HE1 := Lib.hid (do_end hfn (K6.setQ kd a b s) hs7)); have HE2 := Lib.hid (do_end hfn ((K6.setQ kd a b s).setR _ _) hs7); have HE3 := Lib.hid (do_end hfn ((K6.setR (.slice A3 n3 c3) (.slice P3 m3 d3)).setQ kd a b s) hs7); clear hV6 K6 hs7 hr6 hc6))
  all_goals
    go_wp2_with fail
    (try simp only [Exit.inBlock, Exit.then])
    first
      | (with_reducible refine bodyPost_ret (v := .tuple #[.agg #[.slice A3 n3 c3, .slice P3 m3 d3], .agg #[.int .i64 kd, .int .i64 a, .int .i64 b, .string s]]) ?_ ?_ HE1.out.2; · exact Eq.trans (HE1.out.1 _ rfl rfl) rfl
         · rfl)
      | (with_reducible refine bodyPost_ret (v := .tuple #[.agg #[.slice A3 n3 c3, .slice P3 m3 d3], .agg #[.int .i64 kd, .int .i64 a, .int .i64 b, .string s]]) ?_ ?_ HE2.out.2; · exact Eq.trans (HE2.out.1 _ rfl rfl) rfl
         · rfl)
      | (with_reducible refine bodyPost_ret (v := .tuple #[.agg #[.slice A3 n3 c3, .slice P3 m3 d3], .agg #[.int .i64 kd, .int .i64 a, .int .i64 b, .string s]]) ?_ ?_ HE3.out.2; · exact Eq.trans (HE3.out.1 _ rfl rfl) rfl
         · rfl)
end Go.Proofs.Ytnpjelekpkgbpaa
