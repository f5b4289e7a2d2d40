/- Walks: DeskDo of the reference (back). Printed by gen_w83.py. -/
import Derived.Test.YtnpjelekpkgbpaaW82
namespace Go.Proofs.Ytnpjelekpkgbpaa
set_option linter.unusedVariables false
open Go.RowKit

set_option maxRecDepth 100000 in
set_option maxHeartbeats 800000 in
theorem s_2 (A P : Option Addr) (n c m d : Nat) (xs : List Int) (yss : List (List Int)) (kd a b : Int) (s : ByteArray) (w : World) (h : RdD w w.heap.size A n c xs P m d yss) (hok : deskOkB xs yss = true) (hs : s.size ≤ 1000000000000) (hnb : isBack kd a b s = true) (j : Nat) (hj : m = j + 1) :
    Calls Try.prog 10 #[.agg #[.slice A n c, .slice P m d], .agg #[.int .i64 kd, .int .i64 a, .int .i64 b, .string s]] w (DoRd w (gR yss j, yss.take j, true)) := by
  have hmp := (desk_parts hok).1
  have hfit9 := desk_fit hok
  obtain ⟨hx0, hx7, hfit⟩ := hfit9
  have hlm0 := h.2.len
  have hqe := fun w => eqBack kd a b s w
  have hgu : Try.prog.eqGuardType Try.prog.depth 34 = false := by kernel_rfl
  simp only [hnb] at hqe
  have hj9 := Lib.hid hj
  clear hj
  have hl := h.1.len
  have hF := DoFr.made w (.slice A n c) (.slice P m d) kd a b s
  have h1 : RdD _ _ A n c xs P m d yss := ⟨h.1.up hF.bel, h.2.up hF.bel⟩
  have K1 := sDeskOk_c A P n c m d xs yss _ h1
  rw [hok] at K1
  obtain ⟨_, k0, k1, _, _⟩ := id hF.two
  go_enter Try.func10, Try.ntmps10
  go_wp2_with fail
  generalize (((w.alloc (.cells #[.slice A n c, .slice P m d] 30)).alloc (.cells #[.int .i64 kd, .int .i64 a, .int .i64 b, .string s] 34)).alloc (.cells #[.slice none 0 0, .slice none 0 0] 30)) = w1 at *
  refine K1.mono ?_
  rintro e w2 ⟨rfl, hb2⟩
  have hF2 := hF.up hb2
  have h2 : RdD w2 w2.heap.size A n c xs P m d yss := ⟨h1.1.up hb2, h1.2.up hb2⟩
  obtain ⟨_, k0, k1, _, _⟩ := id hF2.two
  clear K1 h1 hF hb2
  go_wp2_with fail
  refine (sCopy_c A P n c m d xs yss _ h2 (by omega) (by omega) hfit).mono ?_
  rintro e w3 ⟨A3, n3, c3, P3, m3, d3, rfl, hO3, hb3⟩
  obtain ⟨hl3, hl3'⟩ := hO3.lens
  have hml : m = m3 := by have := h2.2.len; omega
  have hnl : n = n3 := by omega
  subst hml
  subst hnl
  have hF3 := hF2.up hb3
  have hz3 := hF3.size
  have hz23 := hb3.size
  have hz2 := hF2.size
  obtain ⟨mid, hq1, hq2, hOI, hOR⟩ := hO3
  obtain ⟨b0, A1, n1, c1, glo, ghi, rfl, hbb1, hbb2, hbb3, hcell3, hg1, hg2, hrow, _⟩ := hOR.at_ (j := j) (by have := hj9.out; omega)
  have hbA : Below w3.heap.size w3 (w3.alloc (.cells #[.slice A3 n c3, .slice (some ⟨b0, 0, none⟩) m d3] 30)) := (Below.refl _ _).alloc (Nat.le_refl _) _
  have hT4 := Two.made w3 30 (.slice A3 n c3) (.slice (some ⟨b0, 0, none⟩) m d3)
  have hF4 := hF3.up hbA
  have hOR4 := hOR.up hbA
  have hrow4 := hrow.up hbA
  have hcell := (hbA.cell (p := ⟨b0, j, none⟩) hbb3).trans hcell3
  have hrr := hOR4.rdr
  have hcp := hrr.cap
  have hmx := hrr.max
  unfold maxLen at hmx
  have hbM : Below w3.heap.size w3 (w3.alloc (.cells #[.slice A1 n1 c1, .slice (some ⟨b0, 0, none⟩) j d3] 30)) := (Below.refl _ _).alloc (Nat.le_refl _) _
  have hFG := hF3.up hbM
  have hORM := hOR.up hbM
  have hrowM := hrow.up hbM
  have hend := hFG.endR (A := A1) (n := n1) (c := c1) (P := some ⟨b0, 0, none⟩) (m := j) (d := d3) (xs := gR yss j) (yss := yss.take j) true (fun w' hc => ⟨⟨fun q hq => by have := (hrowM.lt q hq).1; omega, fun q hq => by have e : b0 = q := Option.some.inj hq; omega, fun k b off A' n' c' hk hP hcl q hq => by have := (hORM.chg hc (.inr (by omega))).rows k b off A' n' c' (by have := hj9.out; omega) hP hcl q hq; omega⟩, fun _ => ((hORM.chg hc (.inr (by omega))).rr (B := w.heap.size) (by omega) (by have := hc.size; have := hbM.size; omega)).take_ (by have := hj9.out; omega), (hrowM.chg hc (.inr (by omega))).wide (by omega) (by have := hc.size; have := hbM.size; omega)⟩) (fun w' hc => ⟨(hrowM.chg hc (.inr (by omega))).rd, rdr_take (hORM.chg hc (.inr (by omega))).rdr (by have := hj9.out; omega)⟩)
  have HE := Lib.hid hend
  obtain ⟨_, s0, s1, s2, s3⟩ := id hFG.res
  obtain ⟨_, r0, r1, r2, r3⟩ := id hF4.res
  obtain ⟨_, k0, k1, _, _⟩ := id hF4.two
  obtain ⟨_, q0, q1, q2, q3⟩ := id hF4.four
  obtain ⟨_, t0, t1, t2, t3⟩ := id hT4
  have e1 : (m : Int) - 1 = (j : Int) := by have := hj9.out; omega
  have hM0 : (0 : Int) ≤ (j : Int) := Int.natCast_nonneg _
  have hM1 : (j : Int) < (m : Int) := by have := hj9.out; omega
  have hM3 : ¬ ((j : Int) < 0) := by omega
  have hM2 : (j : Int) ≤ (d3 : Int) := by have := hj9.out; omega
  have hm1 : (0 : Int) < (m : Int) := by have := hj9.out; omega
  have hbne : b0 < w3.heap.size := hbb3
  clear h2 hF2 hb3 hF3 hbA hOI hOR hrow hcell3 hend hOR4 hrow4 hrr hFG hbM hORM hrowM hT4 hF4
  go_wp2_with fail
  (try simp only [Exit.inBlock, Exit.then])
  refine bodyPost_ret (v := .tuple #[.agg #[.slice A1 n1 c1, .slice (some ⟨b0, 0, none⟩) j d3], .bool true]) ?_ rfl HE.out.1
  exact Eq.trans (results_two_tmp (p := 4) (u := 5) rfl _ _ (w.heap.size + 2) _ _ _ rfl HE.out.2 Try.underlying30 rfl desk_size) rfl
end Go.Proofs.Ytnpjelekpkgbpaa
