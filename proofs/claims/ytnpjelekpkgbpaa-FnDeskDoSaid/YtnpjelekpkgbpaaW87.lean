/- Walks: DeskDo of the reference (another map, nine rows). Printed by gen_w83.py. -/
import Derived.Test.YtnpjelekpkgbpaaW86
namespace Go.Proofs.Ytnpjelekpkgbpaa
set_option linter.unusedVariables false
open Go.RowKit

set_option maxRecDepth 100000 in
set_option maxHeartbeats 3200000 in
theorem s_6 (A P : Option Addr) (n c m d : Nat) (xs : List Int) (yss : List (List Int)) (kd a b : Int) (s : ByteArray) (w : World) (h : RdD w w.heap.size A n c xs P m d yss) (hok : deskOkB xs yss = true) (hs : s.size ≤ 1000000000000) (hnb : isBack kd a b s = false ∨ (isBack kd a b s = true ∧ m = 0)) (hmade : ¬ madeI xs kd a b s = []) (hsame : ¬ madeI xs kd a b s = xs) (hm : m = 8) :
    Calls Try.prog 10 #[.agg #[.slice A n c, .slice P m d], .agg #[.int .i64 kd, .int .i64 a, .int .i64 b, .string s]] w (DoRd w (madeI xs kd a b s, (yss ++ [xs]).drop 1, true)) := by
  have hmp := (desk_parts hok).1
  have hfit9 := desk_fit hok
  obtain ⟨hx0, hx7, hfit⟩ := hfit9
  have hlm0 := h.2.len
  have hqe := fun w => eqBack kd a b s w
  have hgu : Try.prog.eqGuardType Try.prog.depth 34 = false := by kernel_rfl
  have HQ : Hid ((yss ++ [xs]).length = 9) := Lib.hid (by rw [List.length_append, h.2.len, hm]; rfl)
  have hm8 : m ≤ 8 := by omega
  clear hm
  rcases hnb with hb0 | ⟨hb0, hm0⟩
  all_goals
    (try (have hm1 : ¬ ((0 : Int) < (m : Int)) := by omega))
    (try clear hm0)
    simp only [hb0] at hqe
    have hl := h.1.len
    have hF := DoFr.made w (.slice A n c) (.slice P m d) kd a b s
    have h1 : RdD _ _ A n c xs P m d yss := ⟨h.1.up hF.bel, h.2.up hF.bel⟩
    have K1 := sDeskOk_c A P n c m d xs yss _ h1
    rw [hok] at K1
    obtain ⟨_, k0, k1, _, _⟩ := id hF.two
    go_enter Try.func10, Try.ntmps10
    go_wp2_with fail
    generalize (((w.alloc (.cells #[.slice A n c, .slice P m d] 30)).alloc (.cells #[.int .i64 kd, .int .i64 a, .int .i64 b, .string s] 34)).alloc (.cells #[.slice none 0 0, .slice none 0 0] 30)) = w1 at *
    refine K1.mono ?_
    rintro e w2 ⟨rfl, hb2⟩
    have hF2 := hF.up hb2
    have h2 : RdD w2 w2.heap.size A n c xs P m d yss := ⟨h1.1.up hb2, h1.2.up hb2⟩
    obtain ⟨_, k0, k1, _, _⟩ := id hF2.two
    clear K1 h1 hF hb2
    go_wp2_with fail
    refine (sCopy_c A P n c m d xs yss _ h2 (by omega) (by omega) hfit).mono ?_
    rintro e w3 ⟨A3, n3, c3, P3, m3, d3, rfl, hO3, hb3⟩
    obtain ⟨hl3, hl3'⟩ := hO3.lens
    have hml : m = m3 := by have := h2.2.len; omega
    have hnl : n = n3 := by omega
    subst hml
    subst hnl
    have hF3 := hF2.up hb3
    have hz3 := hF3.size
    have hz23 := hb3.size
    have hz2 := hF2.size
    have hbA : Below w3.heap.size w3 (w3.alloc (.cells #[.slice A3 n c3, .slice P3 m d3] 30)) := (Below.refl _ _).alloc (Nat.le_refl _) _
    have hT4 := Two.made w3 30 (.slice A3 n c3) (.slice P3 m d3)
    have hY4 := Ty.made w3 #[.slice A3 n c3, .slice P3 m d3]
    have hF4 := hF3.up hbA
    have hO4 := hO3.up hbA
    have h4 : RdD (w3.alloc (.cells #[.slice A3 n c3, .slice P3 m d3] 30)) (w3.alloc (.cells #[.slice A3 n c3, .slice P3 m d3] 30)).heap.size A n c xs P m d yss := ⟨(h2.1.up hb3).up hbA, (h2.2.up hb3).up hbA⟩
    have hzA := hbA.size
    obtain ⟨_, k0, k1, _, _⟩ := id hF4.two
    obtain ⟨_, q0, q1, q2, q3⟩ := id hF4.four
    obtain ⟨_, t0, t1, t2, t3⟩ := id hT4
    clear h2 hF2 hb3 hF3 hbA hO3
    go_wp2_with fail
    generalize w3.alloc (.cells #[.slice A3 n c3, .slice P3 m d3] 30) = w4 at *
    generalize w3.heap.size = G at *
    refine (sMade_c A n c xs kd a b s _ h4.1 hs hmp).mono ?_
    rintro e w5 ⟨A5, n5, c5, rfl, hI5, hb5⟩
    have hF5 := hF4.up hb5
    have hO5 := hO4.up hb5
    have hT5 := hT4.up hb5
    have hY5 := hY4.up hb5
    have h5 : RdD w5 w5.heap.size A n c xs P m d yss := ⟨h4.1.up hb5, h4.2.up hb5⟩
    have hz5 := hb5.size
    have hl5 := hI5.len
    obtain ⟨_, k0, k1, _, _⟩ := id hF5.two
    obtain ⟨_, t0, t1, t2, t3⟩ := id hT5
    have hof := madeI_of kd a b s hmp
    have h5n : n = n5 := by
      rcases hof with e | ⟨_, e⟩
      · exact absurd e hmade
      · omega
    subst h5n
    have hn0 : 0 < n := by omega
    have hnz : ((n : Int) == 0) = false := by rw [beq_eq_false_iff_ne]; omega
    have HFR := Lib.hid hF5
    have HOR := Lib.hid hO5
    have HT5 := Lib.hid hT5
    have hIr := hI5.rd
    have hNr := h5.1
    clear hof
    have hqs : eqB (madeI xs kd a b s) xs = false := decide_eq_false hsame
    have hlG := hT5.1
    obtain ⟨mid, hq1, hq2, hOI, hOR⟩ := hO5
    have hRR : OwnRR w5 (w.heap.size + 3) (.slice P3 m d3) yss := hOR.rr (by omega) (by omega)
    have hNow : OwnIn w5 (w.heap.size + 3) w5.heap.size A3 n c3 xs := hOI.wide (by omega) (by omega)
    have hG4 : G < w4.heap.size := hT4.1
    clear hF4 hO4 hb5 h5 h4 hOI hOR HFR HOR hT4
    go_wp2_with fail
    have KS := l6Same_c A5 A n c5 c _ _ w5 hIr hNr
    rw [hqs] at KS
    refine KS.mono ?_
    rintro e w6 ⟨rfl, q, rfl⟩
    clear KS
    have hRRq := hRR.dn q
    have hNowq := hNow.dn q
    have hFq := hF5.dn q
    have hTq : Two (w5.drewN q) G (.slice A3 n c3) (.slice P3 m d3) := hT5
    have hYq : Ty (w5.drewN q) G := hY5
    have hIq := hI5.dn q
    obtain ⟨vs, hv, _⟩ := id hRRq
    have hneG := hYq.ne hv (by decide)
    have hneI := ne_outer hv hIq
    have hz5q : (w5.drewN q).heap.size = w5.heap.size := rfl
    have hzq := hFq.size
    have hyl : yss.length ≤ 1000000000 := by omega
    clear hRR hNow hF5 hT5 hY5 hI5 hIr hNr hqs
    obtain ⟨_, t0, t1, t2, t3⟩ := id hTq
    obtain ⟨_, k0, k1, _, _⟩ := id hFq.two
    go_wp2_with (
      at_builtin; refine app_rg (w5.drewN q) A3 n c3 rfl _ _ rfl (w.heap.size + 3) _ yss rfl hRRq rfl xs hNowq hyl (by omega) ?_; intro v6 w6 hO6 hg6
      have hbA5 : Below (w5.drewN q).heap.size (w5.drewN q) ((w5.drewN q).alloc (.cells #[.slice A3 n c3] 22)) := (Below.refl _ _).alloc (Nat.le_refl _) _
      have hT6 := (hTq.up hbA5).grown hg6 hneG
      have hYA := hYq.up hbA5
      have hY6 : Ty w6 G := hYA.of (hg6.block G hYA.lt (fun e => hneG e.symm))
      have hF6 := (hFq.up hbA5).below ((Below.refl (w.heap.size + 3) _).grown hg6 (Nat.le_trans hzq hbA5.size) (fun k hk => (hv.lt k hk).1)) (Nat.le_refl _)
      have hI6 := (hIq.up hbA5).grown hg6 hneI
      have hz6 := hF6.size
      have hO6' := hO6.form
      obtain ⟨P6, d6, rfl, hro6⟩ := hO6'
      rw [HQ.out] at hO6 hro6 ⊢
      have hcp6 := hro6.cap
      have hmx6 := hro6.max
      unfold maxLen at hmx6
      obtain ⟨b6, off6, rfl, _, _⟩ := hro6.2.2.2 (by omega)
      have hd1 : ¬ d6 = 1 := by omega
      have hd2 : (d6 == 1) = false := beq_eq_false_iff_ne.2 hd1
      have hd3 : (1 : Int) ≤ (d6 : Int) := by omega
      have hcG : Chg G (G + 1) w6 (((w6.setCell ⟨G, 1, none⟩ (.slice (some ⟨b6, off6, none⟩) 9 d6)).setCell ⟨G, 1, none⟩ (.slice (some ⟨b6, off6 + 1, none⟩) 8 (d6 - 1))).setCell ⟨G, 0, none⟩ (.slice A5 n c5)) := ((((Chg.refl G (G + 1) w6).setCell (p := ⟨G, 1, none⟩) (Nat.le_refl _) (Nat.lt_succ_self _) _).setCell (p := ⟨G, 1, none⟩) (Nat.le_refl _) (Nat.lt_succ_self _) _).setCell (p := ⟨G, 0, none⟩) (Nat.le_refl _) (Nat.lt_succ_self _) _)
      have hFG := hF6.chgG hcG hz3
      have hend := hFG.endR (A := A5) (n := n) (c := c5) (P := some ⟨b6, off6 + 1, none⟩) (m := 8) (d := d6 - 1) (xs := madeI xs kd a b s) (yss := (yss ++ [xs]).drop 1) true (fun w' hc => ⟨FreshD.drop (d := d6 - 1) (by rw [show d6 - 1 + 1 = d6 by omega]; exact (((hO6.ty hY6 hcG).chg hc (Nat.le_refl _)).fresh ((hI6.chg hcG (.inr (by omega))).chg hc (.inr (by omega))) (by omega)).more (by omega)), (fun hl => by have h9 := HQ.out; rw [List.length_drop] at hl; omega), ((hI6.chg hcG (.inr (by omega))).chg hc (.inr (by omega))).wide (by omega) (by have := hc.size; have := hcG.size; have := hg6.size; have := hbA5.size; omega)⟩) (fun w' hc => ⟨((hI6.chg hcG (.inr (by omega))).chg hc (.inr (by omega))).rd, rdr_drop ((hO6.ty hY6 hcG).chg hc (Nat.le_refl _)).rdr⟩)
      have HE := Lib.hid hend
      obtain ⟨_, r0, r1, r2, r3⟩ := id hF6.res
      obtain ⟨_, k0, k1, _, _⟩ := id hF6.two
      obtain ⟨_, q0, q1, q2, q3⟩ := id hF6.four
      obtain ⟨_, t0, t1, t2, t3⟩ := id hT6
      clear hend hFG hcG hF6 hI6 hT6 hO6 hro6 hRRq hNowq hFq hTq hYq hIq hbA5 hYA hY6 hg6 hv hneI hneG)
    (try simp only [Exit.inBlock, Exit.then])
    refine bodyPost_ret (v := .tuple #[.agg #[.slice A5 n c5, .slice (some ⟨b6, off6 + 1, none⟩) 8 (d6 - 1)], .bool true]) ?_ rfl HE.out.1
    exact Eq.trans (results_two_tmp (p := 4) (u := 5) rfl _ _ (w.heap.size + 2) _ _ _ rfl HE.out.2 Try.underlying30 rfl desk_size) rfl
end Go.Proofs.Ytnpjelekpkgbpaa
