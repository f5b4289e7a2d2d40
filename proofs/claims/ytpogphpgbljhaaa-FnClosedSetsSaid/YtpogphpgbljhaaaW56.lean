/- Walks: the law FnExactClosedSets. Printed by gen_w56.py. -/
import Derived.Test.YtpogphpgbljhaaaW54
import Derived.Test.YtpogphpgbljhaaaV1
import Derived.Test.YtpogphpgbljhaaaV2
namespace Go.Proofs.Ytpogphpgbljhaaa
set_option linter.unusedVariables false
open Go.RowKit

theorem closedSets_r (A : Option Addr) (n c : Nat) (xs : List Int) (w : World) (h : Rd w w.heap.size A n c xs) : Calls Try.prog 9 #[.slice A n c] w (Row1 (closedSetsI xs) w) := (closedSets_c A n c xs w h).mono fun _ _ ⟨v, he, hO, hb⟩ => by rw [he]; exact hO.row hb
theorem sClosedSets_r (A : Option Addr) (n c : Nat) (xs : List Int) (w : World) (h : Rd w w.heap.size A n c xs) : Calls Try.prog 7 #[.slice A n c] w (Row1 (closedSetsI xs) w) := (sClosedSets_c A n c xs w h).mono fun _ _ ⟨v, he, hO, hb⟩ => by rw [he]; exact hO.row hb
theorem clsN_len (f : List Nat) : (clsN f).length ≤ 2 ^ f.length := parts_len _ _
theorem closedSets_small (xs : List Int) : (closedSetsI xs).length ≤ 1000000 := by
  rcases h : mapOk xs with _ | _
  · rw [closedSetsI_no h]; simp
  · obtain ⟨f, rfl, hf⟩ := mapOk_ex h
    rw [closedSetsI_ok hf, ints_len]
    have := clsN_len f
    have := (two_le hf.le7).2
    omega
set_option maxRecDepth 100000 in
set_option maxHeartbeats 3200000 in
theorem walk_FnExactClosedSets (A : Option Addr) (n c : Nat) (xs : List Int) (w : World) (h : Rd w w.heap.size A n c xs) :
    Calls Try.prog 3 #[.slice A n c] w fun e w' => e = .returned (.bool true) ∧ Below w.heap.size w w' := by
  by_cases hbig : 1048576 < n
  · go_enter Try.func3, Try.ntmps3
    go_wp2_with fail
    go_ret
    exact ⟨rfl, Below.refl _ _⟩
  · have hself := eqB_self xs
    have hself2 := eqB_self (closedSetsI xs)
    have hn : n ≤ 17592186044416 := by omega
    have hln : Hid ((closedSetsI xs).length ≤ 1000000) := closedSets_small xs
    have hlx : Hid (xs.length = n) := h.len
    go_enter Try.func3, Try.ntmps3
    go_wp2_with fail
    refine (toIntS_c A n c xs _ h hn).mono ?_
    rintro e w1 ⟨rfl, ho1, hb1⟩
    go_wp2_with fail
    refine (sClosedSets_r _ _ _ _ _ ho1.rd).mono ?_
    rintro e w2 ⟨AS, nS, cS, rfl, S2, hb2⟩
    have HB2 := bt hb1 hb2
    go_wp2_with fail
    refine (toIntS_c A n c xs _ (h.up HB2) hn).mono ?_
    rintro e w3 ⟨rfl, ho3, hb3⟩
    have HB3 := bt HB2 hb3
    have S3 := S2.up hb3
    have X3 := ho3.inn
    go_wp2_with fail
    refine (closedSets_r _ _ _ _ _ ho3.rd).mono ?_
    rintro e w4 ⟨AG, nG, cG, rfl, G4, hb4⟩
    have HB4 := bt HB3 hb4
    have S4 := S3.up hb4
    have X4 := X3.up hb4
    have hsz2 := hb3.size
    have hsz3 := hb4.size
    have hsz1 := hb2.size
    have hsz0 := hb1.size
    go_wp2_with fail
    refine (eqIntS_c _ _ _ _ _ _ (closedSetsI xs) (closedSetsI xs) _ G4.rd S4.rd).mono ?_
    rintro e w5 ⟨rfl, m5, rfl⟩
    have HB5 := bd HB4 m5
    have S5 := S4.dn m5
    have X5 := X4.dn m5
    have G5 := G4.dn m5
    go_wp2_with fail
    refine (toIntS_c A n c xs _ (h.up HB5) hn).mono ?_
    rintro e w6 ⟨rfl, ho6, hb6⟩
    have HB6 := bt HB5 hb6
    have S6 := S5.up hb6
    have X6 := X5.up hb6
    have G6 := G5.up hb6
    go_wp2_with fail
    refine (eqIntS_c _ _ _ _ _ _ xs xs _ X6.rd ho6.rd).mono ?_
    rintro e w7 ⟨rfl, m7, rfl⟩
    have HB7 := bd HB6 m7
    have S7 := S6.dn m7
    have X7 := X6.dn m7
    have G7 := G6.dn m7
    have hlG : Hid (nG ≤ 1000000) := by have := G7.len; have := hln.out; unfold Hid; omega
    have hsX : w2.heap.size ≤ (w6.drewN m7).heap.size ∧ w3.heap.size ≤ (w6.drewN m7).heap.size := by
      have := hb6.size
      simp only [World.heap_drewN] at this ⊢
      omega
    clear hb1 hb2 hb3 hb4 hb6 ho1 ho3 ho6 S2 S3 S4 S5 S6 X3 X4 X5 X6 G4 G5 G6 HB2 HB3 HB4 HB5 HB6
    go_wp2_with fail
    refine (markIntS_c _ _ _ 1 _ _ xs _ X7 (by have := hn; omega)).mono ?_
    rintro e w8 ⟨rfl, X8, hc8⟩
    have HB8 := HB7.trans (hc8.below' (B := w.heap.size) (by omega) hsX.1)
    have S8 := S7.chg hc8 (.inl (by omega))
    have G8 := G7.chg hc8 (.inr (by omega))
    go_wp2_with fail
    refine (eqIntS_c _ _ _ _ _ _ (closedSetsI xs) (closedSetsI xs) _ G8.rd S8.rd).mono ?_
    rintro e w9 ⟨rfl, m9, rfl⟩
    have HB9 := bd HB8 m9
    have S9 := S8.dn m9
    have G9 := G8.dn m9
    go_wp2_with fail
    refine (markIntS_c _ _ _ 1 _ _ (closedSetsI xs) _ G9 (by have := hlG.out; omega)).mono ?_
    rintro e w10 ⟨rfl, G10, hc10⟩
    have hsG : w3.heap.size ≤ (w8.drewN m9).heap.size := by
      have := hc8.size
      simp only [World.heap_drewN] at this hsX ⊢
      omega
    have HB10 := HB9.trans (hc10.below' (B := w.heap.size) (by omega) hsG)
    have S10 := S9.chg hc10 (.inl (by omega))
    go_wp2_with fail
    refine (heldIntS_c _ _ _ 1 _ G10.rd (by have := hlG.out; omega)).mono ?_
    rintro e w11 ⟨rfl, rfl⟩
    go_wp2_with fail
    refine (toIntS_c A n c xs _ (h.up HB10) hn).mono ?_
    rintro e w12 ⟨rfl, ho12, hb12⟩
    have HB12 := bt HB10 hb12
    have S12 := S10.up hb12
    have G12 := G10.up hb12
    go_wp2_with fail
    refine (closedSets_r _ _ _ _ _ ho12.rd).mono ?_
    rintro e w13 ⟨AH, nH, cH, rfl, H13, hb13⟩
    have HB13 := bt HB12 hb13
    have S13 := S12.up hb13
    have G13 := G12.up hb13
    go_wp2_with fail
    refine (eqIntS_c _ _ _ _ _ _ (closedSetsI xs) (closedSetsI xs) _ H13.rd S13.rd).mono ?_
    rintro e w14 ⟨rfl, m14, rfl⟩
    go_wp2_with fail
    refine (heldIntS_c _ _ _ 1 _ (G13.dn m14).rd (by have := hlG.out; omega)).mono ?_
    rintro e w15 ⟨rfl, rfl⟩
    go_wp2_with fail
    go_ret
    exact ⟨rfl, bd HB13 m14⟩
end Go.Proofs.Ytpogphpgbljhaaa
