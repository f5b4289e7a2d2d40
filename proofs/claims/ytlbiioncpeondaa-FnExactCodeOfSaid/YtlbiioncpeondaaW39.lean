/- Walks: RootOf (impl and spec); the law FnExactRootOf (walk). Printed by gen_w39.py. -/
import Derived.Test.YtlbiioncpeondaaW38
import Derived.Test.YtlbiioncpeondaaM9
namespace Go.Proofs.Ytlbiioncpeondaa
set_option linter.unusedVariables false
open Go.RowKit

def rootI (xs : List Int) : Int := if treeOkI xs then loopI xs 0 else -1
theorem rootI_no {xs : List Int} (h : treeOkI xs = false) : rootI xs = -1 := by unfold rootI; rw [h]; simp
theorem rootI_yes {xs : List Int} (h : treeOkI xs = true) : rootI xs = loopI xs 0 := by unfold rootI; rw [h]; simp
theorem tree_ex {xs : List Int} (h : treeOkI xs = true) : ∃ f, xs = ints f ∧ MapN f ∧ (loopsN f).length = 1 ∧ ((loopsN f).getD 0 []).length = 1 := by
  unfold treeOkI at h
  simp only [decide_eq_true_eq] at h
  rcases hm : mapOk xs with _ | _
  · rw [loopsI_no hm] at h; simp at h
  · obtain ⟨f, rfl, hf⟩ := mapOk_ex hm
    rw [loopsI_ok hf] at h
    exact ⟨f, rfl, hf, h.1, h.2⟩
set_option maxHeartbeats 400000 in
theorem rootOf_c (A : Option Addr) (n c : Nat) (xs : List Int) (w : World) (h : Rd w w.heap.size A n c xs) :
    Calls Try.prog 26 #[.slice A n c] w fun e w' => e = .returned (.int .i64 (rootI xs)) ∧ Below w.heap.size w w' := by
  go_enter Try.func26, Try.ntmps26
  go_wp2_with fail
  refine (treeOk_c _ _ _ _ _ h).mono ?_
  rintro e w1 ⟨rfl, hb⟩
  rcases ht : treeOkI xs with _ | _
  · have HR := Lib.hid (rootI_no ht)
    go_wp2_with fail
    go_ret
    exact ⟨intEnd HR.out.symm, hb⟩
  · have HR := Lib.hid (rootI_yes ht)
    go_wp2_with fail
    refine (loopOf_c _ _ _ _ _ _ (h.up hb)).mono ?_
    rintro e w2 ⟨rfl, hb2⟩
    go_wp2_with fail
    go_ret
    exact ⟨intEnd HR.out.symm, bt hb hb2⟩
set_option maxHeartbeats 800000 in
theorem sRootOf_c (A : Option Addr) (n c : Nat) (xs : List Int) (w : World) (h : Rd w w.heap.size A n c xs) :
    Calls Try.prog 25 #[.slice A n c] w fun e w' => e = .returned (.int .i64 (rootI xs)) ∧ Below w.heap.size w w' := by
  go_enter Try.func25, Try.ntmps25
  go_wp2_with fail
  refine (sTreeOk_c _ _ _ _ _ h).mono ?_
  rintro e w1 ⟨rfl, hb⟩
  rcases ht : treeOkI xs with _ | _
  · have HR := Lib.hid (rootI_no ht)
    go_wp2_with fail
    go_ret
    exact ⟨intEnd HR.out.symm, hb⟩
  · have HR := Lib.hid (rootI_yes ht)
    obtain ⟨f, rfl, hf, h1, h2⟩ := tree_ex ht
    have hli := loopI_ok hf hf.pos
    have hlo := loopsI_ok hf
    have htr := tree_root hf h1
    go_wp2_with fail
    refine (sLoopsOf_c _ _ _ _ _ (h.up hb)).mono ?_
    rintro e w2 ⟨v, rfl, hO, hb2⟩
    rw [hlo] at hO
    obtain ⟨A1, c1, rfl, hr⟩ := hO.form
    obtain ⟨b, off, A2, n2, c2, rfl, hbb, hcell, hr2⟩ := hr.at_ (k := 0) (by omega)
    rw [Nat.add_zero] at hcell
    have hl2 := hr2.len
    obtain rfl : n2 = 1 := by rw [← hl2]; exact h2
    obtain ⟨b2, off2, rfl, hbb2, hcell2⟩ := hr2.at_ (k := 0) (by omega)
    have hgr : gR (loopsN f) 0 = ints (way f (lo f 0)) := htr
    have hpos := (wl_isWay hf (lo_lt hf (k := 0) hf.pos)).pos
    have hv : gI (gR (loopsN f) 0) 0 = loopI (ints f) 0 := by
      rw [hgr, gI_ints, nx_get (by rw [way, orb_len]; omega)]
      simp only [way]; rw [orb_get]; exact hli.symm
    rw [hv, Nat.add_zero] at hcell2
    rw [h1]
    clear hO hr hr2 hlo hli htr hgr hv
    go_wp2_with fail
    go_ret
    exact ⟨intEnd HR.out.symm, bt hb hb2⟩

set_option maxHeartbeats 400000 in
theorem walk_FnExactRootOf (A : Option Addr) (n c : Nat) (xs : List Int) (w : World) (h : Rd w w.heap.size A n c xs)  :
    Calls Try.prog 5 #[.slice A n c] w fun e w' => e = .returned (.bool true) ∧ Below w.heap.size w w' := by
  by_cases hbig : 1048576 < n
  · go_enter Try.func5, Try.ntmps5
    go_wp2_with fail
    go_ret
    exact ⟨rfl, Below.refl _ _⟩
  · have hself := eqB_self xs
    have hn : n ≤ 17592186044416 := by omega
    go_enter Try.func5, Try.ntmps5
    go_wp2_with fail
    refine (toIntS_c A n c xs _ h hn).mono ?_
    rintro e w1 ⟨rfl, ho1, hb1⟩
    go_wp2_with fail
    refine (sRootOf_c _ _ _ _ _ ho1.rd).mono ?_
    rintro e v1 ⟨rfl, hbv1⟩
    have h1 := h.up hb1 |>.up hbv1
    have hB1 := bt hb1 hbv1
    go_wp2_with fail
    refine (toIntS_c A n c xs _ h1 hn).mono ?_
    rintro e w2 ⟨rfl, ho2, hb2⟩
    go_wp2_with fail
    refine (rootOf_c _ _ _ _ _ ho2.rd).mono ?_
    rintro e v2 ⟨rfl, hbv2⟩
    have h2 := h1.up hb2 |>.up hbv2
    go_wp2_with fail
    refine (toIntS_c A n c xs _ h2 hn).mono ?_
    rintro e w3 ⟨rfl, ho3, hb3⟩
    go_wp2_with fail
    refine (eqIntS_c _ _ _ _ _ _ xs xs _ ((ho2.rd.up hbv2).up hb3) ho3.rd).mono ?_
    rintro e w4 ⟨rfl, m4, rfl⟩
    go_wp2_with fail
    go_ret
    exact ⟨rfl, bd (bt (bt hB1 (bt hb2 hbv2)) hb3) _⟩
end Go.Proofs.Ytlbiioncpeondaa
