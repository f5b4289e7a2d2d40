/- Walks: CodeOf of whatever row (impl and spec); the law FnExactCodeOf (walk). Printed by gen_w44.py. -/
import Derived.Test.YtlbiioncpeondaaW43
import Derived.Test.YtlbiioncpeondaaW14
namespace Go.Proofs.Ytlbiioncpeondaa
set_option linter.unusedVariables false
open Go.RowKit

def codeI (xs : List Int) : List Int := if treeOkI xs then ints (codeN (toN xs)) else []
theorem codeI_no {xs : List Int} (h : treeOkI xs = false) : codeI xs = [] := by unfold codeI; rw [h]; simp
theorem codeI_ok {f : List Nat} (h : treeOkI (ints f) = true) : codeI (ints f) = ints (codeN f) := by unfold codeI; rw [h, toN_ints]; simp
set_option maxRecDepth 100000 in
set_option maxHeartbeats 800000 in
theorem codeOf_c (A : Option Addr) (n c : Nat) (xs : List Int) (w : World) (h : Rd w w.heap.size A n c xs) :
    Calls Try.prog 32 #[.slice A n c] w (RowBool w (codeI xs) (treeOkI xs)) := by
  rcases hs : treeOkI xs with _ | _
  · have HS := Lib.hid (codeI_no hs)
    go_enter Try.func32, Try.ntmps32
    go_wp2_with fail
    refine (treeOk_c _ _ _ _ _ h).mono ?_
    rintro e w1 ⟨rfl, hb⟩
    rw [hs]
    go_wp2_with fail
    go_ret2
    rw [HS.out]
    exact ⟨_, _, _, rfl, OwnIn.nil_ _ _ _, hb⟩
  · obtain ⟨f, rfl, hf, h1, h2⟩ := tree_ex hs
    obtain ⟨c1, hc, rfl, he, hr⟩ := (treeN_of hf h1 h2).ex
    obtain rfl : n = c1.length + 1 := by rw [← h.len, ints_len, treeN_len]
    rw [codeI_ok hs, he]
    refine (codeOf_ok A c c1 w h hc).mono ?_
    rintro e w' ⟨v, rfl, hO, hb⟩
    obtain ⟨A2, c2, rfl, hO2⟩ := hO.form
    exact ⟨A2, _, c2, rfl, hO2.inn, hb⟩
set_option maxRecDepth 100000 in
set_option maxHeartbeats 800000 in
theorem sCodeOf_c (A : Option Addr) (n c : Nat) (xs : List Int) (w : World) (h : Rd w w.heap.size A n c xs) :
    Calls Try.prog 31 #[.slice A n c] w (RowBool w (codeI xs) (treeOkI xs)) := by
  rcases hs : treeOkI xs with _ | _
  · have HS := Lib.hid (codeI_no hs)
    go_enter Try.func31, Try.ntmps31
    go_wp2_with fail
    refine (sTreeOk_c _ _ _ _ _ h).mono ?_
    rintro e w1 ⟨rfl, hb⟩
    rw [hs]
    go_wp2_with fail
    go_ret2
    rw [HS.out]
    exact ⟨_, _, _, rfl, (OwnIn.empty_ w1).wide hb.size (Nat.le_refl _), hb.alloc hb.size _⟩
  · obtain ⟨f, rfl, hf, h1, h2⟩ := tree_ex hs
    obtain ⟨c1, hc, rfl, he, hr⟩ := (treeN_of hf h1 h2).ex
    obtain rfl : n = c1.length + 1 := by rw [← h.len, ints_len, treeN_len]
    rw [codeI_ok hs, he]
    refine (sCodeOf_ok A c c1 w h hc).mono ?_
    rintro e w' ⟨v, rfl, hO, hb⟩
    obtain ⟨A2, c2, rfl, hO2⟩ := hO.form
    exact ⟨A2, _, c2, rfl, hO2.inn, hb⟩
theorem codeOf_small (xs : List Int) : (codeI xs).length ≤ 1000000 := by
  rcases h : treeOkI xs with _ | _
  · rw [codeI_no h]; simp
  · obtain ⟨f, rfl, hf, h1, h2⟩ := tree_ex h
    obtain ⟨c1, hc, rfl, he, hr⟩ := (treeN_of hf h1 h2).ex
    rw [codeI_ok h, he, ints_len]; have := hc.le6; omega
set_option maxRecDepth 100000 in
set_option maxHeartbeats 3200000 in
theorem walk_FnExactCodeOf (A : Option Addr) (n c : Nat) (xs : List Int) (w : World) (h : Rd w w.heap.size A n c xs) :
    Calls Try.prog 7 #[.slice A n c] w fun e w' => e = .returned (.bool true) ∧ Below w.heap.size w w' := by
  by_cases hbig : 1048576 < n
  · go_enter Try.func7, Try.ntmps7
    go_wp2_with fail
    go_ret
    exact ⟨rfl, Below.refl _ _⟩
  · have hself := eqB_self xs
    have hself2 := eqB_self (codeI xs)
    have hn : n ≤ 17592186044416 := by omega
    have hln : Hid ((codeI xs).length ≤ 1000000) := codeOf_small xs
    have hlx : Hid (xs.length = n) := h.len
    go_enter Try.func7, Try.ntmps7
    go_wp2_with fail
    refine (toIntS_c A n c xs _ h hn).mono ?_
    rintro e w1 ⟨rfl, ho1, hb1⟩
    go_wp2_with fail
    refine (sCodeOf_c _ _ _ _ _ ho1.rd).mono ?_
    rintro e w2 ⟨AS, nS, cS, rfl, S2, hb2⟩
    have HB2 := bt hb1 hb2
    go_wp2_with fail
    refine (toIntS_c A n c xs _ (h.up HB2) hn).mono ?_
    rintro e w3 ⟨rfl, ho3, hb3⟩
    have HB3 := bt HB2 hb3
    have S3 := S2.up hb3
    have X3 := ho3.inn
    go_wp2_with fail
    refine (codeOf_c _ _ _ _ _ ho3.rd).mono ?_
    rintro e w4 ⟨AG, nG, cG, rfl, G4, hb4⟩
    have HB4 := bt HB3 hb4
    have S4 := S3.up hb4
    have X4 := X3.up hb4
    have hsz2 := hb3.size
    have hsz3 := hb4.size
    have hsz1 := hb2.size
    have hsz0 := hb1.size
    go_wp2_with fail
    refine (eqIntS_c _ _ _ _ _ _ (codeI xs) (codeI xs) _ G4.rd S4.rd).mono ?_
    rintro e w5 ⟨rfl, m5, rfl⟩
    have HB5 := bd HB4 m5
    have S5 := S4.dn m5
    have X5 := X4.dn m5
    have G5 := G4.dn m5
    go_wp2_with fail
    refine (toIntS_c A n c xs _ (h.up HB5) hn).mono ?_
    rintro e w6 ⟨rfl, ho6, hb6⟩
    have HB6 := bt HB5 hb6
    have S6 := S5.up hb6
    have X6 := X5.up hb6
    have G6 := G5.up hb6
    go_wp2_with fail
    refine (eqIntS_c _ _ _ _ _ _ xs xs _ X6.rd ho6.rd).mono ?_
    rintro e w7 ⟨rfl, m7, rfl⟩
    have HB7 := bd HB6 m7
    have S7 := S6.dn m7
    have X7 := X6.dn m7
    have G7 := G6.dn m7
    have hlG : Hid (nG ≤ 1000000) := by have := G7.len; have := hln.out; unfold Hid; omega
    have hsX : w2.heap.size ≤ (w6.drewN m7).heap.size ∧ w3.heap.size ≤ (w6.drewN m7).heap.size := by
      have := hb6.size
      simp only [World.heap_drewN] at this ⊢
      omega
    clear hb1 hb2 hb3 hb4 hb6 ho1 ho3 ho6 S2 S3 S4 S5 S6 X3 X4 X5 X6 G4 G5 G6 HB2 HB3 HB4 HB5 HB6
    go_wp2_with fail
    refine (markIntS_c _ _ _ 1 _ _ xs _ X7 (by have := hn; omega)).mono ?_
    rintro e w8 ⟨rfl, X8, hc8⟩
    have HB8 := HB7.trans (hc8.below' (B := w.heap.size) (by omega) hsX.1)
    have S8 := S7.chg hc8 (.inl (by omega))
    have G8 := G7.chg hc8 (.inr (by omega))
    go_wp2_with fail
    refine (eqIntS_c _ _ _ _ _ _ (codeI xs) (codeI xs) _ G8.rd S8.rd).mono ?_
    rintro e w9 ⟨rfl, m9, rfl⟩
    have HB9 := bd HB8 m9
    have S9 := S8.dn m9
    have G9 := G8.dn m9
    go_wp2_with fail
    refine (markIntS_c _ _ _ 1 _ _ (codeI xs) _ G9 (by have := hlG.out; omega)).mono ?_
    rintro e w10 ⟨rfl, G10, hc10⟩
    have hsG : w3.heap.size ≤ (w8.drewN m9).heap.size := by
      have := hc8.size
      simp only [World.heap_drewN] at this hsX ⊢
      omega
    have HB10 := HB9.trans (hc10.below' (B := w.heap.size) (by omega) hsG)
    have S10 := S9.chg hc10 (.inl (by omega))
    go_wp2_with fail
    refine (heldIntS_c _ _ _ 1 _ G10.rd (by have := hlG.out; omega)).mono ?_
    rintro e w11 ⟨rfl, rfl⟩
    go_wp2_with fail
    refine (toIntS_c A n c xs _ (h.up HB10) hn).mono ?_
    rintro e w12 ⟨rfl, ho12, hb12⟩
    have HB12 := bt HB10 hb12
    have S12 := S10.up hb12
    have G12 := G10.up hb12
    go_wp2_with fail
    refine (codeOf_c _ _ _ _ _ ho12.rd).mono ?_
    rintro e w13 ⟨AH, nH, cH, rfl, H13, hb13⟩
    have HB13 := bt HB12 hb13
    have S13 := S12.up hb13
    have G13 := G12.up hb13
    go_wp2_with fail
    refine (eqIntS_c _ _ _ _ _ _ (codeI xs) (codeI xs) _ H13.rd S13.rd).mono ?_
    rintro e w14 ⟨rfl, m14, rfl⟩
    go_wp2_with fail
    refine (heldIntS_c _ _ _ 1 _ (G13.dn m14).rd (by have := hlG.out; omega)).mono ?_
    rintro e w15 ⟨rfl, rfl⟩
    go_wp2_with fail
    go_ret
    exact ⟨rfl, bd HB13 m14⟩
end Go.Proofs.Ytlbiioncpeondaa
