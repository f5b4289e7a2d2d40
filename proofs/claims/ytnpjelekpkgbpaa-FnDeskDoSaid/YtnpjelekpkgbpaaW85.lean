/- Walks: DeskDo of the reference (the same map). Printed by gen_w83.py. -/
import Derived.Test.YtnpjelekpkgbpaaW82
namespace Go.Proofs.Ytnpjelekpkgbpaa
set_option linter.unusedVariables false
open Go.RowKit

set_option maxRecDepth 100000 in
set_option maxHeartbeats 800000 in
theorem s_4 (A P : Option Addr) (n c m d : Nat) (xs : List Int) (yss : List (List Int)) (kd a b : Int) (s : ByteArray) (w : World) (h : RdD w w.heap.size A n c xs P m d yss) (hok : deskOkB xs yss = true) (hs : s.size ≤ 1000000000000) (hnb : isBack kd a b s = false ∨ (isBack kd a b s = true ∧ m = 0)) (hmade : ¬ madeI xs kd a b s = []) (hsame : madeI xs kd a b s = xs) :
    Calls Try.prog 10 #[.agg #[.slice A n c, .slice P m d], .agg #[.int .i64 kd, .int .i64 a, .int .i64 b, .string s]] w (DoRd w (xs, yss, false)) := by
  have hmp := (desk_parts hok).1
  have hfit9 := desk_fit hok
  obtain ⟨hx0, hx7, hfit⟩ := hfit9
  have hlm0 := h.2.len
  have hqe := fun w => eqBack kd a b s w
  have hgu : Try.prog.eqGuardType Try.prog.depth 34 = false := by kernel_rfl
  rcases hnb with hb0 | ⟨hb0, hm0⟩
  all_goals
    (try (have hm1 : ¬ ((0 : Int) < (m : Int)) := by omega))
    (try clear hm0)
    simp only [hb0] at hqe
    have hl := h.1.len
    have hF := DoFr.made w (.slice A n c) (.slice P m d) kd a b s
    have h1 : RdD _ _ A n c xs P m d yss := ⟨h.1.up hF.bel, h.2.up hF.bel⟩
    have K1 := sDeskOk_c A P n c m d xs yss _ h1
    rw [hok] at K1
    obtain ⟨_, k0, k1, _, _⟩ := id hF.two
    go_enter Try.func10, Try.ntmps10
    go_wp2_with fail
    generalize (((w.alloc (.cells #[.slice A n c, .slice P m d] 30)).alloc (.cells #[.int .i64 kd, .int .i64 a, .int .i64 b, .string s] 34)).alloc (.cells #[.slice none 0 0, .slice none 0 0] 30)) = w1 at *
    refine K1.mono ?_
    rintro e w2 ⟨rfl, hb2⟩
    have hF2 := hF.up hb2
    have h2 : RdD w2 w2.heap.size A n c xs P m d yss := ⟨h1.1.up hb2, h1.2.up hb2⟩
    obtain ⟨_, k0, k1, _, _⟩ := id hF2.two
    clear K1 h1 hF hb2
    go_wp2_with fail
    refine (sCopy_c A P n c m d xs yss _ h2 (by omega) (by omega) hfit).mono ?_
    rintro e w3 ⟨A3, n3, c3, P3, m3, d3, rfl, hO3, hb3⟩
    obtain ⟨hl3, hl3'⟩ := hO3.lens
    have hml : m = m3 := by have := h2.2.len; omega
    have hnl : n = n3 := by omega
    subst hml
    subst hnl
    have hF3 := hF2.up hb3
    have hz3 := hF3.size
    have hz23 := hb3.size
    have hz2 := hF2.size
    have hbA : Below w3.heap.size w3 (w3.alloc (.cells #[.slice A3 n c3, .slice P3 m d3] 30)) := (Below.refl _ _).alloc (Nat.le_refl _) _
    have hT4 := Two.made w3 30 (.slice A3 n c3) (.slice P3 m d3)
    have hY4 := Ty.made w3 #[.slice A3 n c3, .slice P3 m d3]
    have hF4 := hF3.up hbA
    have hO4 := hO3.up hbA
    have h4 : RdD (w3.alloc (.cells #[.slice A3 n c3, .slice P3 m d3] 30)) (w3.alloc (.cells #[.slice A3 n c3, .slice P3 m d3] 30)).heap.size A n c xs P m d yss := ⟨(h2.1.up hb3).up hbA, (h2.2.up hb3).up hbA⟩
    have hzA := hbA.size
    obtain ⟨_, k0, k1, _, _⟩ := id hF4.two
    obtain ⟨_, q0, q1, q2, q3⟩ := id hF4.four
    obtain ⟨_, t0, t1, t2, t3⟩ := id hT4
    clear h2 hF2 hb3 hF3 hbA hO3
    go_wp2_with fail
    generalize w3.alloc (.cells #[.slice A3 n c3, .slice P3 m d3] 30) = w4 at *
    generalize w3.heap.size = G at *
    refine (sMade_c A n c xs kd a b s _ h4.1 hs hmp).mono ?_
    rintro e w5 ⟨A5, n5, c5, rfl, hI5, hb5⟩
    have hF5 := hF4.up hb5
    have hO5 := hO4.up hb5
    have hT5 := hT4.up hb5
    have hY5 := hY4.up hb5
    have h5 : RdD w5 w5.heap.size A n c xs P m d yss := ⟨h4.1.up hb5, h4.2.up hb5⟩
    have hz5 := hb5.size
    have hl5 := hI5.len
    obtain ⟨_, k0, k1, _, _⟩ := id hF5.two
    obtain ⟨_, t0, t1, t2, t3⟩ := id hT5
    have hof := madeI_of kd a b s hmp
    have h5n : n = n5 := by
      rcases hof with e | ⟨_, e⟩
      · exact absurd e hmade
      · omega
    subst h5n
    have hn0 : 0 < n := by omega
    have hnz : ((n : Int) == 0) = false := by rw [beq_eq_false_iff_ne]; omega
    have HFR := Lib.hid hF5
    have HOR := Lib.hid hO5
    have HT5 := Lib.hid hT5
    have hIr := hI5.rd
    have hNr := h5.1
    clear hof
    have hqs : eqB (madeI xs kd a b s) xs = true := decide_eq_true hsame
    clear hF4 hO4 hb5 h5 h4 hI5 hF5 hO5
    go_wp2_with fail
    have KS := l6Same_c A5 A n c5 c _ _ w5 hIr hNr
    rw [hqs] at KS
    clear hqs
    refine KS.mono ?_
    rintro e w6 ⟨rfl, q, rfl⟩
    clear KS
    have hF6 := HFR.out.dn q
    have hend := hF6.endR (A := A3) (P := P3) (n := n) (c := c3) (m := m) (d := d3) (xs := xs) (yss := yss) false (fun w' hc => ⟨((HOR.out.dn q).chg hc (.inr (by omega))).fresh.more (by omega), fun _ => ((HOR.out.dn q).chg hc (.inr (by omega))).rrD (by omega) (by have := hc.size; have : (w5.drewN q).heap.size = w5.heap.size := rfl; omega), ((HOR.out.dn q).chg hc (.inr (by omega))).now_ (by omega) (by have := hc.size; have : (w5.drewN q).heap.size = w5.heap.size := rfl; omega)⟩) (fun w' hc => ((HOR.out.dn q).chg hc (.inr (by omega))).rd)
    obtain ⟨_, r0, r1, r2, r3⟩ := id hF6.res
    obtain ⟨_, k0, k1, _, _⟩ := id hF6.two
    have hTq : Two (w5.drewN q) G (.slice A3 n c3) (.slice P3 m d3) := HT5.out
    obtain ⟨_, t0, t1, t2, t3⟩ := id hTq
    have HE := Lib.hid hend
    clear hend
    go_wp2_with fail
    (try simp only [Exit.inBlock, Exit.then])
    refine bodyPost_ret (v := .tuple #[.agg #[.slice A3 n c3, .slice P3 m d3], .bool false]) ?_ rfl HE.out.1
    exact Eq.trans (results_two_tmp (p := 4) (u := 5) rfl _ _ (w.heap.size + 2) _ _ _ rfl HE.out.2 Try.underlying30 rfl desk_size) rfl
end Go.Proofs.Ytnpjelekpkgbpaa
